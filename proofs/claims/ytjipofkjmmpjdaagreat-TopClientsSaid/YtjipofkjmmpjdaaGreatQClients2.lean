import Derived.Test.YtjipofkjmmpjdaaGreatChecked
import Derived.KernelRfl
import Derived.Conc.LoneSelect
import Derived.Laws.Rows
import Derived.Test.YtjipofkjmmpjdaaGreatQClients1
set_option linter.unusedVariables false
set_option linter.unusedSimpArgs false
set_option linter.unnecessarySimpa false
set_option linter.unusedSectionVars false
set_option maxRecDepth 100000
namespace Go.Proofs.YtjipofkjmmpjdaaGreat
open Go.Hb
noncomputable abbrev PR:=Tryz.prog
abbrev Ez(S:World->Prop)(b o:Nat)(K:Int->WP):WP:=WW S (.int .i64) b o K
abbrev F5(S:World->Prop)(b o:Nat)(K:Sl->WP):WP:=WW S .slc b o K
abbrev EZ(S:World->Prop)(b o:Nat)(K:OA->WP):WP:=WW S .ptr b o K
abbrev wLs(S:World->Prop)(b o:Nat)(K:BA->WP):WP:=WW S .str b o K
abbrev wLu(S:World->Prop)(b o:Nat)(K:Int->WP):WP:=WW S (.int .u64) b o K
noncomputable abbrev DD(f:FuncId)(a:List Value)(K:Bool->WP):WP:=call1 .bool PR f a K
noncomputable abbrev Cc(f:FuncId)(a:List Value)(K:Int->WP):WP:=call1 (.int .i64) PR f a K
noncomputable abbrev Gu(f:FuncId)(a:List Value)(K:Sl->WP):WP:=call1 .slc PR f a K
noncomputable abbrev Lf(f:FuncId)(a:List Value)(K:OA->WP):WP:=call1 .ptr PR f a K
noncomputable abbrev V1(f:FuncId)(a:List Value)(K:BA->WP):WP:=call1 .str PR f a K
noncomputable abbrev wcu(f:FuncId)(a:List Value)(K:Int->WP):WP:=call1 (.int .u64) PR f a K
noncomputable abbrev A3u(f:FuncId)(a:List Value)(K:Bool->Int->WP):WP:=Hd .bool (.int .i64) PR f a K
noncomputable abbrev A8k(f:FuncId)(a:List Value)(K:Bool->Sl->WP):WP:=Hd .bool .slc PR f a K
noncomputable abbrev F0(f:FuncId)(a:List Value)(K:Int->Bool->WP):WP:=Hd (.int .i64) .bool PR f a K
noncomputable abbrev Agl(f:FuncId)(a:List Value)(K:OA->Int->WP):WP:=Hd .ptr (.int .i64) PR f a K
noncomputable abbrev Fi(f:FuncId)(a:List Value)(K:BA->Bool->WP):WP:=Hd .str .bool PR f a K
abbrev HI(b o:Nat)(K:Bool->WP):WP:=ld .bool b o K
abbrev Ay(b o:Nat)(K:Int->WP):WP:=ld (.int .i64) b o K
abbrev Bu(b o:Nat)(K:Sl->WP):WP:=ld .slc b o K
abbrev BZ(b o:Nat)(K:OA->WP):WP:=ld .ptr b o K
abbrev Ch(b o:Nat)(K:BA->WP):WP:=ld .str b o K
abbrev Ef(b o:Nat)(K:Int->WP):WP:=ld (.int .u64) b o K
noncomputable abbrev wz(f:FuncId)(a:List Value)(K:WP):WP:=XI PR f a K
noncomputable def bE(f:Func)(l:List Nat):Code:=A4s l (Bj f)
def rE(f:Func)(Q:VW):EW:=BK PR f Q
def cE(f:Func)(kp:KP)(jn:Jn)(Q:VW)(l:List Nat)(X:EW)(Y:Nat->EW):EW:=Cj PR kp jn (bE f l) X Y (rE f Q)
def sE(f:Func)(kp:KP)(jn:Jn)(Q:VW)(l:List Nat)(X:EW)(Y:Nat->EW):EW:=KY PR kp jn (bE f l) X Y (rE f Q)
theorem mixed:PR.follows .mixedOrders=true:=by kernel_rfl
section
variable(jn:Jn)(Q:VW)
def A8c:BA:=⟨#[50,113]⟩
def DC:BA:=⟨#[95,45,46,47,58]⟩
def Sy:BA:=⟨#[97]⟩
def A3e:BA:=⟨#[97,114,99]⟩
def Af:BA:=⟨#[]⟩
def Au5:BA:=⟨#[108,105,114,115]⟩
def Agg:BA:=⟨#[115,51,102,105,102,111]⟩
def Ab2:BA:=⟨#[116,105,110,121,108,102,117]⟩
def Sz:BA:=⟨#[120]⟩
def A35:KP:=⟨[(8,[1,2,3,4])],[]⟩
def Ah4:EW:=cE Tryz.f4 A35 jn Q [1,1] (rE Tryz.f4 Q) A6
def A8y(a1 b2 picks3:Sl)(f4_b f4_o:Nat):WP:=jn 8 (Ah4 jn Q) (us 1 ((.l a1.a a1.n a1.c)::(.l b2.a b2.n b2.c)::(.l picks3.a picks3.n picks3.c)::(pq f4_b f4_o)::us 66 []))
def UB:KP:=⟨[(7,[0,3]),(10,[0,3]),(14,[])],[]⟩
def Asp:EW:=sE Tryz.f9 UB jn Q [1,1] (rE Tryz.f9 Q) A6
def A8z(m1:Nat):EW:=HZ PR UB jn (bE Tryz.f9 [1,0,1,0,0]) (A8 0 (Asp jn Q) A6) (rE Tryz.f9 Q) m1
def Ah6(m1:Nat):EW:=cE Tryz.f9 UB jn Q [1,0,1,0,0,1] (A8z jn Q m1) (A8 0 (Asp jn Q) A6)
def A80(m1:Nat)(l0:Sl)(i3:Int):WP:=jn 10 (Ah6 jn Q m1) ((.l l0.a l0.n l0.c)::us 2 ((.i i3)::us 26 []))
def Ah7:EW:=cE Tryz.f9 UB jn Q [1,1] (rE Tryz.f9 Q) A6
def A36:WP:=jn 14 (Ah7 jn Q) (us 30 [])
def Ah8(m1:Nat)(l0:Sl)(i3:Int):WP:=Dp PR UB jn (bE Tryz.f9 [1,0,1,0,0]) (A8 0 (Asp jn Q) A6) (rE Tryz.f9 Q) m1 ((.l l0.a l0.n l0.c)::us 2 ((.i i3)::us 26 []))
def Aw:KP:=⟨[],[]⟩
def Jj:KP:=⟨[(7,[0,3]),(10,[0,3]),(14,[0,3,4,5]),(18,[0])],[]⟩
def QC:EW:=sE Tryz.f11 Jj jn Q [1,1] (rE Tryz.f11 Q) A6
def An0(m1:Nat):EW:=HZ PR Jj jn (bE Tryz.f11 [1,0,1,0,0]) (A8 0 (QC jn Q) A6) (rE Tryz.f11 Q) m1
def An1(m1:Nat):EW:=sE Tryz.f11 Jj jn Q [1,0,1,0,0,1,1] (An0 jn Q m1) (A8 0 (QC jn Q) A6)
def A44(m1:Nat):Nat->EW:=A8 1 (An1 jn Q m1) (A8 0 (QC jn Q) A6)
def Yk(m1:Nat):EW:=cE Tryz.f11 Jj jn Q [1,0,1,0,0,1,0,0,1,1] (An1 jn Q m1) (A44 jn Q m1)
def Gm(m1:Nat)(s0:BA)(i3 c4:Int)(ok5:Bool):WP:=jn 14 (Yk jn Q m1) ((.s s0)::us 2 ((.i i3)::(.int .u8 c4)::(.b ok5)::us 65 []))
def Yj(m1:Nat):EW:=cE Tryz.f11 Jj jn Q [1,0,1,0,0,1] (An0 jn Q m1) (A8 0 (QC jn Q) A6)
def A45(m1:Nat)(s0:BA)(i3:Int):WP:=jn 10 (Yj jn Q m1) ((.s s0)::us 2 ((.i i3)::us 67 []))
def Yl:EW:=cE Tryz.f11 Jj jn Q [1,1] (rE Tryz.f11 Q) A6
def Ac8(s0:BA):WP:=jn 18 (Yl jn Q) ((.s s0)::us 70 [])
def H9(m1:Nat)(s0:BA)(i3:Int):WP:=Dp PR Jj jn (bE Tryz.f11 [1,0,1,0,0]) (A8 0 (QC jn Q) A6) (rE Tryz.f11 Q) m1 ((.s s0)::us 2 ((.i i3)::us 67 []))
def Aob:KP:=⟨[(10,[1])],[]⟩
def Yq:EW:=cE Tryz.f12 Aob jn Q [1,1,1] (rE Tryz.f12 Q) A6
def A46(c1:OA):WP:=jn 10 (Yq jn Q) (us 1 ((.p c1)::us 31 []))
def VM:KP:=⟨[(9,[0,5,8,9,10]),(16,[5])],[]⟩
def A47:EW:=sE Tryz.f14 VM jn Q [1,1,1] (rE Tryz.f14 Q) A6
def Yz:EW:=cE Tryz.f14 VM jn Q [1,1,1] (rE Tryz.f14 Q) A6
def A48(all5:Sl):WP:=jn 16 (Yz jn Q) (us 5 ((.l all5.a all5.n all5.c)::us 16 []))
def VN(m1:Nat)(c0:OA)(all5 t8:Sl)(t9 t10:Int):WP:=Dp PR VM jn (bE Tryz.f14 [1,1,0,1,0,0]) (A8 0 (A47 jn Q) A6) (rE Tryz.f14 Q) m1 ((.p c0)::us 4 ((.l all5.a all5.n all5.c)::us 2 ((.l t8.a t8.n t8.c)::(.i t9)::(.i t10)::us 11 [])))
def VT:KP:=⟨[(12,[0,3,4,5,24]),(14,[0,3,4,5])],[(6,[0,1,2,3,4])]⟩
def A49:EW:=sE Tryz.f15 VT jn Q [1,1,1,1] (rE Tryz.f15 Q) A6
def Y6:EW:=cE Tryz.f15 VT jn Q [1,1,1,1] (rE Tryz.f15 Q) A6
def A5a(c0:OA)(o3b o3o t4b t4o kinds5b kinds5o:Nat):WP:=jn 14 (Y6 jn Q) ((.p c0)::us 2 ((pq o3b o3o)::(pq t4b t4o)::(pq kinds5b kinds5o)::us 27 []))
def Y5:EW:=cE Tryz.f15 VT jn Q [1,1,1,0,1] (A49 jn Q) A6
def EP(c0:OA)(o3b o3o t4b t4o kinds5b kinds5o:Nat)(t24:Bool):WP:=jn 12 (Y5 jn Q) ((.p c0)::us 2 ((pq o3b o3o)::(pq t4b t4o)::(pq kinds5b kinds5o)::us 18 ((.b t24)::us 8 [])))
def K6:KP:=⟨[(9,[0,1,5,6]),(14,[0,1,5]),(23,[0,7,8,9,10]),(30,[9])],[(12,[0,1,2,3,4,5,6,7,8,9,10,11,13,15,19])]⟩
def A5b:EW:=sE Tryz.f16 K6 jn Q [1,1,1] (rE Tryz.f16 Q) A6
def Axa:EW:=sE Tryz.f16 K6 jn Q [1,1,1,1,1,1,1] (rE Tryz.f16 Q) A6
def YA:EW:=cE Tryz.f16 K6 jn Q [1,1,1,1,1,1,1] (rE Tryz.f16 Q) A6
def A5d(l9:Sl):WP:=jn 30 (YA jn Q) (us 9 ((.l l9.a l9.n l9.c)::us 56 []))
def QG(m3:Nat)(ops0 o7 at8 l9:Sl)(k10:Int):WP:=Dp PR K6 jn (bE Tryz.f16 [1,1,1,1,1,1,0,1,0,0]) (A8 2 (Axa jn Q) A6) (rE Tryz.f16 Q) m3 ((.l ops0.a ops0.n ops0.c)::us 6 ((.l o7.a o7.n o7.c)::(.l at8.a at8.n at8.c)::(.l l9.a l9.n l9.c)::(.i k10)::us 55 []))
def Y9:EW:=cE Tryz.f16 K6 jn Q [1,1,1] (rE Tryz.f16 Q) A6
def A5c(ops0 picks1 n5:Sl):WP:=jn 14 (Y9 jn Q) ((.l ops0.a ops0.n ops0.c)::(.l picks1.a picks1.n picks1.c)::us 3 ((.l n5.a n5.n n5.c)::us 60 []))
def Adg(m1:Nat)(ops0 picks1 n5:Sl)(i6:Int):WP:=Dp PR K6 jn (bE Tryz.f16 [1,1,0,1,0,0]) (A8 0 (A5b jn Q) A6) (rE Tryz.f16 Q) m1 ((.l ops0.a ops0.n ops0.c)::(.l picks1.a picks1.n picks1.c)::us 3 ((.l n5.a n5.n n5.c)::(.i i6)::us 59 []))
def M2:KP:=⟨[(9,[2,3,9,10]),(12,[2,3,9,10]),(16,[])],[(5,[0,1,2,3,4,5,6,7,10])]⟩
def Adh:EW:=sE Tryz.f17 M2 jn Q [1,1,1] (rE Tryz.f17 Q) A6
def A5e(m1:Nat):EW:=HZ PR M2 jn (bE Tryz.f17 [1,1,0,1,0,0]) (A8 0 (Adh jn Q) A6) (rE Tryz.f17 Q) m1
def YB(m1:Nat):EW:=cE Tryz.f17 M2 jn Q [1,1,0,1,0,0,1] (A5e jn Q m1) (A8 0 (Adh jn Q) A6)
def A5f(m1:Nat)(l2 r3:Sl)(j9:OA)(i10:Int):WP:=jn 12 (YB jn Q m1) (us 2 ((.l l2.a l2.n l2.c)::(.l r3.a r3.n r3.c)::us 5 ((.p j9)::(.i i10)::us 27 [])))
def YC:EW:=cE Tryz.f17 M2 jn Q [1,1,1] (rE Tryz.f17 Q) A6
def Adj:WP:=jn 16 (YC jn Q) (us 38 [])
def VU(m1:Nat)(l2 r3:Sl)(j9:OA)(i10:Int):WP:=Dp PR M2 jn (bE Tryz.f17 [1,1,0,1,0,0]) (A8 0 (Adh jn Q) A6) (rE Tryz.f17 Q) m1 (us 2 ((.l l2.a l2.n l2.c)::(.l r3.a r3.n r3.c)::us 5 ((.p j9)::(.i i10)::us 27 [])))
def M3:KP:=⟨[(8,[0,1])],[]⟩
def YJ:EW:=cE Tryz.f19 M3 jn Q [1,1] (rE Tryz.f19 Q) A6
def A5g(c0:OA)(i1:Int):WP:=jn 8 (YJ jn Q) ((.p c0)::(.i i1)::us 25 [])
def QJ:KP:=⟨[(8,[1]),(13,[1,4,48,49]),(24,[1,4])],[(11,[0,1,2,3,4,8,9,10,11,12])]⟩
def A5h:EW:=sE Tryz.f27 QJ jn Q [1,1,1,1] (rE Tryz.f27 Q) A6
def YY:EW:=cE Tryz.f27 QJ jn Q [1,1,1,1] (rE Tryz.f27 Q) A6
def Aqa(c1b c1o x4b x4o:Nat):WP:=jn 24 (YY jn Q) (us 1 ((pq c1b c1o)::us 2 ((pq x4b x4o)::us 91 [])))
def Wk(m2:Nat)(c1b c1o x4b x4o:Nat)(t48 t49:Int):WP:=Dp PR QJ jn (bE Tryz.f27 [1,1,1,0,1,0,0]) (A8 0 (A5h jn Q) A6) (rE Tryz.f27 Q) m2 (us 1 ((pq c1b c1o)::us 2 ((pq x4b x4o)::us 43 ((.i t48)::(.i t49)::us 46 []))))
def YX:EW:=cE Tryz.f27 QJ jn Q [1,1] (rE Tryz.f27 Q) A6
def A5i(c1b c1o:Nat):WP:=jn 8 (YX jn Q) (us 1 ((pq c1b c1o)::us 94 []))
def A5j:KP:=⟨[],[(1,[0,1,2,4,5,6,7,8,9,11,12,13,14,15,16,18,20,22]),(3,[0,1,2,3,4])]⟩
def A5k:KP:=⟨[],[(1,[0,1,2,4,5,6,7,8,9,10,11,12,13,15,16,17,18,20]),(3,[0,1,2,3,4])]⟩
def A5l:KP:=⟨[],[(1,[0,1,2,4,5,6,7,8,9,11,12,13,14,15,17,19])]⟩
def K8:KP:=⟨[(6,[0,3,4,19]),(8,[0,3,4]),(13,[0,4,33,34,35]),(20,[4])],[(1,[0,2,3,4,5,6,7,8,10,11,12]),(3,[0,1,2,3,4,6,7,8]),(7,[0,1,2,3,4,5,9])]⟩
def A5m:EW:=sE Tryz.f31 K8 jn Q [1,1] (rE Tryz.f31 Q) A6
def A5n:EW:=sE Tryz.f31 K8 jn Q [1,1,1,1] (rE Tryz.f31 Q) A6
def Zm:EW:=cE Tryz.f31 K8 jn Q [1,1,1,1] (rE Tryz.f31 Q) A6
def A5p(r4b r4o:Nat):WP:=jn 20 (Zm jn Q) (us 4 ((pq r4b r4o)::us 46 []))
def Ws(m3:Nat)(c0:OA)(r4b r4o:Nat)(t33:Sl)(t34 t35:Int):WP:=Dp PR K8 jn (bE Tryz.f31 [1,1,1,0,1,0,0]) (A8 0 (A5n jn Q) A6) (rE Tryz.f31 Q) m3 ((.p c0)::us 3 ((pq r4b r4o)::us 28 ((.l t33.a t33.n t33.c)::(.i t34)::(.i t35)::us 15 [])))
def Zl:EW:=cE Tryz.f31 K8 jn Q [1,1] (rE Tryz.f31 Q) A6
def A5o(c0:OA)(o3b o3o r4b r4o:Nat):WP:=jn 8 (Zl jn Q) ((.p c0)::us 2 ((pq o3b o3o)::(pq r4b r4o)::us 46 []))
def Zk:EW:=cE Tryz.f31 K8 jn Q [1,0,1] (A5m jn Q) A6
def Ado(c0:OA)(o3b o3o r4b r4o:Nat)(t19:Bool):WP:=jn 6 (Zk jn Q) ((.p c0)::us 2 ((pq o3b o3o)::(pq r4b r4o)::us 14 ((.b t19)::us 31 [])))
def Aro:KP:=⟨[(10,[4,5,6])],[(1,[0,1,2,3,4,5,6,9,10,12,13,14,15,16])]⟩
def Zu:EW:=cE Tryz.f34 Aro jn Q [1,1,1] (rE Tryz.f34 Q) A6
def Ads(t4b t4o:Nat)(pick5:Int)(change6:Bool):WP:=jn 10 (Zu jn Q) (us 4 ((pq t4b t4o)::(.i pick5)::(.b change6)::us 23 []))
def A5q:KP:=⟨[],[(1,[0,1,2,3,4,7])]⟩
def K9:KP:=⟨[(6,[0,3,4,16]),(8,[0,3,4]),(11,[0,3,4,21,22,23]),(20,[0,3,4])],[(9,[0,1,2,3,4,5,6,7,8,10,11])]⟩
def A5r:EW:=sE Tryz.f36 K9 jn Q [1,1] (rE Tryz.f36 Q) A6
def A5s:EW:=sE Tryz.f36 K9 jn Q [1,1,1] (rE Tryz.f36 Q) A6
def Z3:EW:=cE Tryz.f36 K9 jn Q [1,1,1] (rE Tryz.f36 Q) A6
def A5u(c0:OA)(o3b o3o r4b r4o:Nat):WP:=jn 20 (Z3 jn Q) ((.p c0)::us 2 ((pq o3b o3o)::(pq r4b r4o)::us 49 []))
def Wz(m3:Nat)(c0:OA)(o3b o3o r4b r4o:Nat)(t21:Sl)(t22 t23:Int):WP:=Dp PR K9 jn (bE Tryz.f36 [1,1,0,1,0,0]) (A8 0 (A5s jn Q) A6) (rE Tryz.f36 Q) m3 ((.p c0)::us 2 ((pq o3b o3o)::(pq r4b r4o)::us 16 ((.l t21.a t21.n t21.c)::(.i t22)::(.i t23)::us 30 [])))
def Z2:EW:=cE Tryz.f36 K9 jn Q [1,1] (rE Tryz.f36 Q) A6
def A5t(c0:OA)(o3b o3o r4b r4o:Nat):WP:=jn 8 (Z2 jn Q) ((.p c0)::us 2 ((pq o3b o3o)::(pq r4b r4o)::us 49 []))
def Z1:EW:=cE Tryz.f36 K9 jn Q [1,0,1] (A5r jn Q) A6
def Adu(c0:OA)(o3b o3o r4b r4o:Nat)(t16:Bool):WP:=jn 6 (Z1 jn Q) ((.p c0)::us 2 ((pq o3b o3o)::(pq r4b r4o)::us 11 ((.b t16)::us 37 [])))
def Fp:KP:=⟨[(11,[0,1,5,6,7]),(24,[1,5,6]),(29,[1,5,6,9,10]),(30,[1,5,6,9,10]),(37,[1,5,6,9,10,11,12]),(44,[1,5,6,9,10,11]),(50,[1,5,6,9,10,11,13]),(56,[9])],[]⟩
def A5v:EW:=sE Tryz.f37 Fp jn Q [1,1,1,1] (rE Tryz.f37 Q) A6
def LG:EW:=sE Tryz.f37 Fp jn Q [1,1,1,1,1,1] (rE Tryz.f37 Q) A6
def Ah1(m3:Nat):EW:=HZ PR Fp jn (bE Tryz.f37 [1,1,1,1,1,0,1,0,0]) (A8 2 (LG jn Q) A6) (rE Tryz.f37 Q) m3
def Qf(m3:Nat):EW:=sE Tryz.f37 Fp jn Q [1,1,1,1,1,0,1,0,0,1,1] (Ah1 jn Q m3) (A8 2 (LG jn Q) A6)
def Qg(m3:Nat):Nat->EW:=A8 3 (Qf jn Q m3) (A8 2 (LG jn Q) A6)
def Az3(m3:Nat):EW:=sE Tryz.f37 Fp jn Q [1,1,1,1,1,0,1,0,0,1,0,0,1,1] (Qf jn Q m3) (Qg jn Q m3)
def Az4(m3:Nat):Nat->EW:=A8 4 (Az3 jn Q m3) (Qg jn Q m3)
def Z9(m3:Nat):EW:=cE Tryz.f37 Fp jn Q [1,1,1,1,1,0,1,0,0,1,1] (Ah1 jn Q m3) (A8 2 (LG jn Q) A6)
def Asc(m3:Nat)(picks1 left5:Sl)(all6:Int)(out9:Sl)(k10:Int):WP:=jn 30 (Z9 jn Q m3) (us 1 ((.l picks1.a picks1.n picks1.c)::us 3 ((.l left5.a left5.n left5.c)::(.i all6)::us 2 ((.l out9.a out9.n out9.c)::(.i k10)::us 73 []))))
def Z8(m3:Nat):EW:=cE Tryz.f37 Fp jn Q [1,1,1,1,1,0,1,0,0,1,0,0,1,1,1,1] (Qf jn Q m3) (Qg jn Q m3)
def Ad0(m3:Nat)(picks1 left5:Sl)(all6:Int)(out9:Sl)(k10:Int)(who11:Sl)(p13:Int):WP:=jn 50 (Z8 jn Q m3) (us 1 ((.l picks1.a picks1.n picks1.c)::us 3 ((.l left5.a left5.n left5.c)::(.i all6)::us 2 ((.l out9.a out9.n out9.c)::(.i k10)::(.l who11.a who11.n who11.c)::us 1 ((.i p13)::us 70 [])))))
def Z7(m3:Nat):EW:=cE Tryz.f37 Fp jn Q [1,1,1,1,1,0,1,0,0,1,0,0,1,1] (Qf jn Q m3) (Qg jn Q m3)
def Asb(m3:Nat)(picks1 left5:Sl)(all6:Int)(out9:Sl)(k10:Int)(who11:Sl):WP:=jn 44 (Z7 jn Q m3) (us 1 ((.l picks1.a picks1.n picks1.c)::us 3 ((.l left5.a left5.n left5.c)::(.i all6)::us 2 ((.l out9.a out9.n out9.c)::(.i k10)::(.l who11.a who11.n who11.c)::us 72 []))))
def M4(m3 m4:Nat)(picks1 left5:Sl)(all6:Int)(out9:Sl)(k10:Int)(who11:Sl)(i12:Int):WP:=Dp PR Fp jn (bE Tryz.f37 [1,1,1,1,1,0,1,0,0,1,0,0,1,0,1,0,0]) (Az4 jn Q m3) (rE Tryz.f37 Q) m4 (us 1 ((.l picks1.a picks1.n picks1.c)::us 3 ((.l left5.a left5.n left5.c)::(.i all6)::us 2 ((.l out9.a out9.n out9.c)::(.i k10)::(.l who11.a who11.n who11.c)::(.i i12)::us 71 []))))
def ZA:EW:=cE Tryz.f37 Fp jn Q [1,1,1,1,1,1] (rE Tryz.f37 Q) A6
def A5x(out9:Sl):WP:=jn 56 (ZA jn Q) (us 9 ((.l out9.a out9.n out9.c)::us 74 []))
def W4(m3:Nat)(picks1 left5:Sl)(all6:Int)(out9:Sl)(k10:Int):WP:=Dp PR Fp jn (bE Tryz.f37 [1,1,1,1,1,0,1,0,0]) (A8 2 (LG jn Q) A6) (rE Tryz.f37 Q) m3 (us 1 ((.l picks1.a picks1.n picks1.c)::us 3 ((.l left5.a left5.n left5.c)::(.i all6)::us 2 ((.l out9.a out9.n out9.c)::(.i k10)::us 73 []))))
def Z6:EW:=cE Tryz.f37 Fp jn Q [1,1,1,1] (rE Tryz.f37 Q) A6
def A5w(picks1 left5:Sl)(all6:Int):WP:=jn 24 (Z6 jn Q) (us 1 ((.l picks1.a picks1.n picks1.c)::us 3 ((.l left5.a left5.n left5.c)::(.i all6)::us 77 [])))
def Ad4(m1:Nat)(counts0 picks1 left5:Sl)(all6 i7:Int):WP:=Dp PR Fp jn (bE Tryz.f37 [1,1,1,0,1,0,0]) (A8 0 (A5v jn Q) A6) (rE Tryz.f37 Q) m1 ((.l counts0.a counts0.n counts0.c)::(.l picks1.a picks1.n picks1.c)::us 3 ((.l left5.a left5.n left5.c)::(.i all6)::(.i i7)::us 76 []))
def I5:KP:=⟨[(10,[0,4,5,33]),(12,[0,4,5]),(14,[0,4,5,7]),(17,[0,4,5,7,8]),(22,[0,4,7]),(36,[0,7])],[(4,[0,1,2,3,4,5,7,8,9,10,11]),(9,[0,1,2,3,4,6,7]),(12,[0,1,2,3,4,5,6,7,8,9,10,11,12]),(14,[0,1,2,3,4])]⟩
def A5y:EW:=sE Tryz.f39 I5 jn Q [1,1,1] (rE Tryz.f39 Q) A6
def A5z:EW:=sE Tryz.f39 I5 jn Q [1,1,1,1,1] (rE Tryz.f39 Q) A6
def ZF:EW:=cE Tryz.f39 I5 jn Q [1,1,1,1,1,1] (rE Tryz.f39 Q) A6
def QO(j0:OA)(ok7:Bool):WP:=jn 36 (ZF jn Q) ((.p j0)::us 6 ((.b ok7)::us 107 []))
def ZE:EW:=cE Tryz.f39 I5 jn Q [1,1,1,1,1] (rE Tryz.f39 Q) A6
def Asd(j0:OA)(o4b o4o:Nat)(ok7:Bool):WP:=jn 22 (ZE jn Q) ((.p j0)::us 3 ((pq o4b o4o)::us 2 ((.b ok7)::us 107 [])))
def W6(m4:Nat)(j0:OA)(o4b o4o r5b r5o:Nat)(ok7:Bool)(i8:Int):WP:=Dp PR I5 jn (bE Tryz.f39 [1,1,1,1,0,1,0,0]) (A8 0 (A5z jn Q) A6) (rE Tryz.f39 Q) m4 ((.p j0)::us 3 ((pq o4b o4o)::(pq r5b r5o)::us 1 ((.b ok7)::(.i i8)::us 106 [])))
def ZD:EW:=cE Tryz.f39 I5 jn Q [1,1,1,1] (rE Tryz.f39 Q) A6
def Ad9(j0:OA)(o4b o4o r5b r5o:Nat)(ok7:Bool):WP:=jn 14 (ZD jn Q) ((.p j0)::us 3 ((pq o4b o4o)::(pq r5b r5o)::us 1 ((.b ok7)::us 107 [])))
def ZC:EW:=cE Tryz.f39 I5 jn Q [1,1,1] (rE Tryz.f39 Q) A6
def Ad7(j0:OA)(o4b o4o r5b r5o:Nat):WP:=jn 12 (ZC jn Q) ((.p j0)::us 3 ((pq o4b o4o)::(pq r5b r5o)::us 109 []))
def ZB:EW:=cE Tryz.f39 I5 jn Q [1,1,0,1] (A5y jn Q) A6
def Ad5(j0:OA)(o4b o4o r5b r5o:Nat)(t33:Bool):WP:=jn 10 (ZB jn Q) ((.p j0)::us 3 ((pq o4b o4o)::(pq r5b r5o)::us 27 ((.b t33)::us 81 [])))
def Ase:KP:=⟨[(12,[0,1,2])],[]⟩
def ZG:EW:=cE Tryz.f48 Ase jn Q [1,1] (rE Tryz.f48 Q) A6
def A50(kind0 hold1:Int)(t2:OA):WP:=jn 12 (ZG jn Q) ((.i kind0)::(.i hold1)::(.p t2)::us 23 [])
def A52:KP:=⟨[],[(1,[0,1,2,3,4,5,6,7,9,11,13])]⟩
def QQ:KP:=⟨[(8,[0,1]),(11,[1,21,22]),(18,[])],[]⟩
def A53:EW:=sE Tryz.f52 QQ jn Q [1,1,1] (rE Tryz.f52 Q) A6
def ZI:EW:=cE Tryz.f52 QQ jn Q [1,1,1] (rE Tryz.f52 Q) A6
def A55:WP:=jn 18 (ZI jn Q) (us 29 [])
def Aeg(m2:Nat)(key1:BA)(t21_0 t21_1 t21_2 t21_3 t21_4:OA)(t22:Int):WP:=Dp PR QQ jn (bE Tryz.f52 [1,1,0,1,0,0]) (A8 0 (A53 jn Q) A6) (rE Tryz.f52 Q) m2 (us 1 ((.s key1)::us 19 ((.agg #[.p t21_0,.p t21_1,.p t21_2,.p t21_3,.p t21_4])::(.i t22)::us 6 [])))
def ZH:EW:=cE Tryz.f52 QQ jn Q [1,1] (rE Tryz.f52 Q) A6
def A54(p0:OA)(key1:BA):WP:=jn 8 (ZH jn Q) ((.p p0)::(.s key1)::us 27 [])
def W8:KP:=⟨[(20,[0,1,2,3,4,14,57]),(26,[0,1,2,3,4,14])],[(8,[0,1,2,4,6,7,8,9,10,12,13,14,15,17,18])]⟩
def A0l:EW:=sE Tryz.f53 W8 jn Q [1,1,1,1,1,1] (rE Tryz.f53 Q) A6
def ZK:EW:=cE Tryz.f53 W8 jn Q [1,1,1,1,1,1] (rE Tryz.f53 Q) A6
def A56(s0:OA)(key1 val2:BA)(now3 life4:Int)(gone14:Sl):WP:=jn 26 (ZK jn Q) ((.p s0)::(.s key1)::(.s val2)::(.i now3)::(.i life4)::us 9 ((.l gone14.a gone14.n gone14.c)::us 90 []))
def ZJ:EW:=cE Tryz.f53 W8 jn Q [1,1,1,1,1,0,1] (A0l jn Q) A6
def W7(s0:OA)(key1 val2:BA)(now3 life4:Int)(gone14:Sl)(t57:Bool):WP:=jn 20 (ZJ jn Q) ((.p s0)::(.s key1)::(.s val2)::(.i now3)::(.i life4)::us 9 ((.l gone14.a gone14.n gone14.c)::us 42 ((.b t57)::us 47 [])))
def QR:KP:=⟨[(8,[0,1]),(13,[0,1,5,20,21,22]),(20,[5])],[]⟩
def A57:EW:=sE Tryz.f55 QR jn Q [1,1,1,1] (rE Tryz.f55 Q) A6
def ZM:EW:=cE Tryz.f55 QR jn Q [1,1,1,1] (rE Tryz.f55 Q) A6
def A59(gone5:Sl):WP:=jn 20 (ZM jn Q) (us 5 ((.l gone5.a gone5.n gone5.c)::us 28 []))
def W9(m2:Nat)(s0:OA)(now1:Int)(gone5 t20:Sl)(t21 t22:Int):WP:=Dp PR QR jn (bE Tryz.f55 [1,1,1,0,1,0,0]) (A8 0 (A57 jn Q) A6) (rE Tryz.f55 Q) m2 ((.p s0)::(.i now1)::us 3 ((.l gone5.a gone5.n gone5.c)::us 14 ((.l t20.a t20.n t20.c)::(.i t21)::(.i t22)::us 11 [])))
def ZL:EW:=cE Tryz.f55 QR jn Q [1,1] (rE Tryz.f55 Q) A6
def A58(s0:OA)(now1:Int):WP:=jn 8 (ZL jn Q) ((.p s0)::(.i now1)::us 32 [])
def Asf:KP:=⟨[(24,[0,8])],[(3,[0,1,2,3,4,6,8,9]),(4,[0,1,2,3,4,5,6,10]),(11,[0,1,2,3,4,5,6,8])]⟩
def ZN:EW:=cE Tryz.f58 Asf jn Q [1,1,1,1,1] (rE Tryz.f58 Q) A6
def Ael(c0:OA)(pick8:Int):WP:=jn 24 (ZN jn Q) ((.p c0)::us 7 ((.i pick8)::us 72 []))
def WA:KP:=⟨[(11,[2,3,13,14]),(20,[2,3])],[(7,[0,1,2,3,4,5,7])]⟩
def A6a:EW:=sE Tryz.f59 WA jn Q [1,1,1] (rE Tryz.f59 Q) A6
def ZO:EW:=cE Tryz.f59 WA jn Q [1,1,1] (rE Tryz.f59 Q) A6
def A6b(ghosts2b ghosts2o:Nat)(all3:Int):WP:=jn 20 (ZO jn Q) (us 2 ((pq ghosts2b ghosts2o)::(.i all3)::us 25 []))
def Aeo(m1:Nat)(ghosts2b ghosts2o:Nat)(all3:Int)(t13_0 t13_1 t13_2 t13_3 t13_4:OA)(t14:Int):WP:=Dp PR WA jn (bE Tryz.f59 [1,1,0,1,0,0]) (A8 0 (A6a jn Q) A6) (rE Tryz.f59 Q) m1 (us 2 ((pq ghosts2b ghosts2o)::(.i all3)::us 9 ((.agg #[.p t13_0,.p t13_1,.p t13_2,.p t13_3,.p t13_4])::(.i t14)::us 14 [])))
def Asg:KP:=⟨[(5,[1,9,10,11])],[]⟩
def WB(m1:Nat)(kind1:Int)(t9:Sl)(t10 t11:Int):WP:=Dp PR Asg jn (bE Tryz.f60 [1,0,0]) (A8 0 (rE Tryz.f60 Q) A6) (rE Tryz.f60 Q) m1 (us 1 ((.i kind1)::us 7 ((.l t9.a t9.n t9.c)::(.i t10)::(.i t11)::us 7 [])))
def ZP:EW:=cE Tryz.f63 M3 jn Q [1,1] (rE Tryz.f63 Q) A6
def A6c(s0:OA)(room1:Int):WP:=jn 8 (ZP jn Q) ((.p s0)::(.i room1)::us 24 [])
def Ash:KP:=⟨[(9,[0,16])],[(5,[0,1,2,3,4,5,8,9,10,11,12,13])]⟩
def Aeq(m1:Nat)(p0:OA)(t16:Int):WP:=Dp PR Ash jn (bE Tryz.f64 [1,1,1,0,0]) (A8 0 (rE Tryz.f64 Q) A6) (rE Tryz.f64 Q) m1 ((.p p0)::us 15 ((.i t16)::us 17 []))
def A6d:KP:=⟨[],[(1,[0,1,2,3,4,5,6,7,8,11,12,13,14,15])]⟩
def QU:KP:=⟨[(11,[0,2,4,7]),(24,[2,4]),(26,[2,10])],[(6,[0,1,2,3,4,5,6,9]),(8,[0,1,2,3,4,5,6,7,8,9,10,13,14,15,16,17])]⟩
def A6e:EW:=sE Tryz.f66 QU jn Q [1,1,1] (rE Tryz.f66 Q) A6
def ZR:EW:=cE Tryz.f66 QU jn Q [1,1,1,1] (rE Tryz.f66 Q) A6
def M5(l2:Sl)(may10:Bool):WP:=jn 26 (ZR jn Q) (us 2 ((.l l2.a l2.n l2.c)::us 7 ((.b may10)::us 79 [])))
def ZQ:EW:=cE Tryz.f66 QU jn Q [1,1,1] (rE Tryz.f66 Q) A6
def A6f(l2:Sl)(o4b o4o:Nat):WP:=jn 24 (ZQ jn Q) (us 2 ((.l l2.a l2.n l2.c)::us 1 ((pq o4b o4o)::us 85 [])))
def M6(m1:Nat)(j0:OA)(l2:Sl)(o4b o4o:Nat)(i7:Int):WP:=Dp PR QU jn (bE Tryz.f66 [1,1,0,1,0,0]) (A8 0 (A6e jn Q) A6) (rE Tryz.f66 Q) m1 ((.p j0)::us 1 ((.l l2.a l2.n l2.c)::us 1 ((pq o4b o4o)::us 2 ((.i i7)::us 82 []))))
def A6g:KP:=⟨[],[(3,[0,2,3,4,5,6,7,9,10,11,12,13,14,15,17,18])]⟩
def Aew:KP:=⟨[(16,[0,1,2,3,4]),(22,[0,1,12])],[(12,[0,1,2,3,4,6]),(14,[1,2,3,4,5,6,8,11])]⟩
def ZT:EW:=cE Tryz.f68 Aew jn Q [1,1,1,1] (rE Tryz.f68 Q) A6
def Aeu(t0:OA)(key1:BA)(e12b e12o:Nat):WP:=jn 22 (ZT jn Q) ((.p t0)::(.s key1)::us 10 ((pq e12b e12o)::us 71 []))
def ZS:EW:=cE Tryz.f68 Aew jn Q [1,1] (rE Tryz.f68 Q) A6
def A6h(t0:OA)(key1 val2:BA)(now3 life4:Int):WP:=jn 16 (ZS jn Q) ((.p t0)::(.s key1)::(.s val2)::(.i now3)::(.i life4)::us 79 [])
def Asi:KP:=⟨[(8,[0])],[(3,[0,1,2,3,4,5,6,7,8,9,10,11,12,13,14,16,17,18])]⟩
def ZU:EW:=cE Tryz.f69 Asi jn Q [1,1] (rE Tryz.f69 Q) A6
def A6i(j0:OA):WP:=jn 8 (ZU jn Q) ((.p j0)::us 46 [])
def WC:KP:=⟨[(13,[3,11,12,13]),(22,[3])],[]⟩
def A6j:EW:=sE Tryz.f71 WC jn Q [1,1,1,1] (rE Tryz.f71 Q) A6
def ZV:EW:=cE Tryz.f71 WC jn Q [1,1,1,1] (rE Tryz.f71 Q) A6
def A6k(l3:Sl):WP:=jn 22 (ZV jn Q) (us 3 ((.l l3.a l3.n l3.c)::us 25 []))
def QW(m1:Nat)(l3 t11:Sl)(t12 t13:Int):WP:=Dp PR WC jn (bE Tryz.f71 [1,1,1,0,1,0,0]) (A8 0 (A6j jn Q) A6) (rE Tryz.f71 Q) m1 (us 3 ((.l l3.a l3.n l3.c)::us 7 ((.l t11.a t11.n t11.c)::(.i t12)::(.i t13)::us 15 [])))
end
variable{jn:Jn}{Q:VW}{c0 j0 s0 t0 p0 j9 m0 t2 x0:OA}{m1 o3b o3o m3 r4b r4o o4b o4o r5b r5o t4b t4o c1b c1o m2 kinds5b kinds5o x4b x4o m4 ghosts2b ghosts2o:Nat}{key1 o1_1 o1_2 val2 r2_2:BA}{o1_0 o1_3 all6 k10 room1 i3 now3 life4 t22 kind0 now1 kind1 f0_0 f0_1 f0_2 f0_3 f0_4 f0_5 f0_6 c0_0 c0_1 c0_2 c0_3 c0_4 c0_5 c0_6 t10 i10 shards0 i1 i7 r2_0 rate0 room0 hold1 now2 all3:Int}{picks1 l2 left5 out9 ops0 l0 r3 who11 a1 b2 picks3 f0_7 c0_7 all5 l9 n5 counts0 r2_3 gone14 gone5 l3:Sl}{ok7 r2_1:Bool}
theorem Akk{f4_b f4_o:Nat}:Ah4 jn Q (us 1 ((.l a1.a a1.n a1.c)::(.l b2.a b2.n b2.c)::(.l picks3.a picks3.n picks3.c)::(pq f4_b f4_o)::us 66 []))=(Ay f4_b f4_o λX13=>Ay f4_b (f4_o+1) λX14=>Ay f4_b ((f4_o+1)+1) λX15=>Ay f4_b (((f4_o+1)+1)+1) λX16=>Ay f4_b ((((f4_o+1)+1)+1)+1) λX17=>Ay f4_b (((((f4_o+1)+1)+1)+1)+1) λX18=>Ay f4_b ((((((f4_o+1)+1)+1)+1)+1)+1) λX19=>Bu f4_b (((((((f4_o+1)+1)+1)+1)+1)+1)+1) λX20=>Hd .ptr .bool PR 13 [.agg #[.i X13,.i X14,.i X15,.i X16,.i X17,.i X18,.i X19,.l X20.a X20.n X20.c]] λ(X21:OA)(X22:Bool)=>
 Aj (!X22) (DD 12 [] λX23=>Q (.b X23)) (A1 [.l a1.a a1.n a1.c,.l b2.a b2.n b2.c] 25 λB24=>Gu 16 [.l (some ⟨B24,0,none⟩) 2 2,.l picks3.a picks3.n picks3.c] λX25=>Gu 14 [.p X21,.l X25.a X25.n X25.c] λX26=>Aj ((X26.n:Int)==(X25.n:Int)) (Ay f4_b f4_o λX27=>Ay f4_b (f4_o+1) λX28=>Cc 17 [.i X27,.i X28,.l X25.a X25.n X25.c,.l X26.a X26.n X26.c] λX29=>Aj (X29==(-1)) (DD 12 [] λX30=>Q (.b X30)) (Q (.b false))) (Q (.b false)))):=by kernel_rfl
theorem A51:Au jn PR A35 Tryz.f4 [.agg #[.i f0_0,.i f0_1,.i f0_2,.i f0_3,.i f0_4,.i f0_5,.i f0_6,.l f0_7.a f0_7.n f0_7.c],.l a1.a a1.n a1.c,.l b2.a b2.n b2.c,.l picks3.a picks3.n picks3.c] Q=(A1 [.i f0_0,.i f0_1,.i f0_2,.i f0_3,.i f0_4,.i f0_5,.i f0_6,.l f0_7.a f0_7.n f0_7.c] 24 λB1=>DD 9 [.l a1.a a1.n a1.c] λX2=>Aj X2 (Q (.b true)) (DD 9 [.l b2.a b2.n b2.c] λX3=>Aj X3 (Q (.b true)) (Ay B1 0 λX4=>
 Ay B1 1 λX5=>Ay B1 2 λX6=>Ay B1 3 λX7=>Ay B1 4 λX8=>Ay B1 5 λX9=>Ay B1 6 λX10=>Bu B1 7 λX11=>DD 10 [.agg #[.i X4,.i X5,.i X6,.i X7,.i X8,.i X9,.i X10,.l X11.a X11.n X11.c]] λX12=>Aj (!X12) (Q (.b true)) (Aj (decide ((IntKind.wrap .i64 ((a1.n:Int)+(b2.n:Int)))>150)) (Q (.b true)) (Aj (decide ((picks3.n:Int)>300)) (Q (.b true)) (A8y jn Q a1 b2 picks3 B1 0)))))):=by kernel_rfl
theorem Akl:Ah6 jn Q m1 ((.l l0.a l0.n l0.c)::us 2 ((.i i3)::us 26 []))=(CB l0.a l0.n i3 λB1 O2=>Ch B1 ((O2+i3.toNat*4)+1) λX3=>Aj (decide ((X3.size:Int)>40)) (Q (.b true)) (CB l0.a l0.n i3 λB4 O5=>Ch B4 ((O5+i3.toNat*4)+2) λX6=>Aj (decide ((X6.size:Int)>100)) (Q (.b true)) (Ah8 jn Q m1 l0 (IntKind.wrap .i64 (i3+1))))):=by kernel_rfl
theorem JK:Ah7 jn Q (us 30 [])=(Q (.b false)):=by kernel_rfl
theorem UC:Ah8 jn Q (m1+1) l0 i3=(Aj (decide (i3<(l0.n:Int))) (Aj (decide (i3<150)) (A80 jn Q m1 l0 i3) (A36 jn Q)) (A36 jn Q)):=by kernel_rfl
theorem A6x:Au jn PR UB Tryz.f9 [.l l0.a l0.n l0.c] Q=(DH λm=>Ah8 jn Q m l0 0):=by kernel_rfl
theorem Awf:Au jn PR Aw Tryz.f10 [.agg #[.i c0_0,.i c0_1,.i c0_2,.i c0_3,.i c0_4,.i c0_5,.i c0_6,.l c0_7.a c0_7.n c0_7.c]] Q=(A1 [.i c0_0,.i c0_1,.i c0_2,.i c0_3,.i c0_4,.i c0_5,.i c0_6,.l c0_7.a c0_7.n c0_7.c] 24 λB1=>Ay B1 1 λX2=>Aj (decide (X2<=64)) (Ay B1 2 λX3=>Aj (decide (X3<=64)) (Ay B1 3 λX4=>Aj (decide (X4<=64)) (Bu B1 7 λX5=>Q (.b (decide ((X5.n:Int)<=100)))) (Q (.b false))) (Q (.b false))) (
 Q (.b false))):=by kernel_rfl
theorem Ac7{s0:BA}{c4:Int}{ok5:Bool}:Yk jn Q m1 ((.s s0)::us 2 ((.i i3)::(.int .u8 c4)::(.b ok5)::us 65 []))=(Aj (!ok5) (Aj (c4 != 95) (Aj (c4 != 45) (Aj (c4 != 46) (Aj (c4 != 47) (Aj (c4 != 58) (Q (.b false)) (H9 jn Q m1 s0 (IntKind.wrap .i64 (i3+1)))) (H9 jn Q m1 s0 (IntKind.wrap .i64 (i3+1)))) (H9 jn Q m1 s0 (IntKind.wrap .i64 (i3+1)))) (H9 jn Q m1 s0 (IntKind.wrap .i64 (i3+1)))) (H9 jn Q m1 s0 (IntKind.wrap .i64 (i3+1)))) (H9 jn Q m1 s0 (IntKind.wrap .i64 (i3+1)))):=by kernel_rfl
theorem Ac6{s0:BA}:Yj jn Q m1 ((.s s0)::us 2 ((.i i3)::us 67 []))=(Bw ((0:Int)<=i3/\i3<(s0.size:Int))<|Aj (decide ((AG s0 i3.toNat)>=97)) (Aj (decide ((AG s0 i3.toNat)<=122)) (Gm jn Q m1 s0 i3 (AG s0 i3.toNat) true) (Aj (decide ((AG s0 i3.toNat)>=65)) (Aj (decide ((AG s0 i3.toNat)<=90)) (Gm jn Q m1 s0 i3 (AG s0 i3.toNat) true) (Aj (decide ((AG s0 i3.toNat)>=48)) (Gm jn Q m1 s0 i3 (AG s0 i3.toNat) (decide ((AG s0 i3.toNat)<=57))) (Gm jn Q m1 s0 i3 (AG s0 i3.toNat) false))) (Aj (decide ((AG s0 i3.toNat)>=48)) (Gm jn Q m1 s0 i3 (AG s0 i3.toNat) (decide ((AG s0 i3.toNat)<=57))) (
 Gm jn Q m1 s0 i3 (AG s0 i3.toNat) false)))) (Aj (decide ((AG s0 i3.toNat)>=65)) (Aj (decide ((AG s0 i3.toNat)<=90)) (Gm jn Q m1 s0 i3 (AG s0 i3.toNat) true) (Aj (decide ((AG s0 i3.toNat)>=48)) (Gm jn Q m1 s0 i3 (AG s0 i3.toNat) (decide ((AG s0 i3.toNat)<=57))) (Gm jn Q m1 s0 i3 (AG s0 i3.toNat) false))) (Aj (decide ((AG s0 i3.toNat)>=48)) (Gm jn Q m1 s0 i3 (AG s0 i3.toNat) (decide ((AG s0 i3.toNat)<=57))) (Gm jn Q m1 s0 i3 (AG s0 i3.toNat) false)))):=by kernel_rfl
theorem Ac9{s0:BA}:Yl jn Q ((.s s0)::us 70 [])=(Aj (decide ((s0.size:Int)>=1)) (Q (.b (decide ((s0.size:Int)<=24)))) (Q (.b false))):=by kernel_rfl
theorem QD{s0:BA}:H9 jn Q (m1+1) s0 i3=(Aj (decide (i3<(s0.size:Int))) (Aj (decide (i3<=24)) (A45 jn Q m1 s0 i3) (Ac8 jn Q s0)) (Ac8 jn Q s0)):=by kernel_rfl
theorem Awn{s0:BA}:Au jn PR Jj Tryz.f11 [.s s0] Q=(DH λm=>H9 jn Q m s0 0):=by kernel_rfl
theorem Ada{c1:OA}:Yq jn Q (us 1 ((.p c1)::us 31 []))=(λw=>Calls PR 15 #[.p c1,.agg #[.i 2,.s Sy,.s Sz,.i 0]] w λe w'=>∃X3:Int,∃X4:Bool,∃X5:BA,∃X6:Sl,e = .returned (.agg #[.i X3,.b X4,.s X5,.l X6.a X6.n X6.c])/\(λw=>Calls PR 15 #[.p c1,.agg #[.i 1,.s Sy,.s Af,.i 0]] w λe w'=>∃X7:Int,∃X8:Bool,∃X9:BA,∃X10:Sl,e = .returned (.agg #[.i X7,.b X8,.s X9,.l X10.a X10.n X10.c])/\(A1 [.i 0,.b false,.s Af,.l none 0 0] 38 λB11=>st B11 0 (.i X7)<|st B11 1 (.b X8)<|st B11 2 (.s X9)<|
 st B11 3 (.l X10.a X10.n X10.c)<|HI B11 1 λX12=>Aj X12 (Ch B11 2 λX13=>Aj (Vr X13 Sz) (Ay B11 0 λX14=>Q (.b (X14==0))) (Q (.b false))) (Q (.b false))) w') w'):=by kernel_rfl
theorem Awr:Au jn PR Aob Tryz.f12 [] Q=(Agl 27 [.agg #[.i 1,.i 2,.i 2,.i 2,.i 0,.i 1,.i 0,.l none 0 0]] λX1 X2=>Aj (X2 != 0) (Q (.b false)) (Aj (Option.isNone X1) (Q (.b false)) (A46 jn Q X1))):=by kernel_rfl
theorem Aww:Au jn PR Aw Tryz.f13 [.agg #[.i f0_0,.i f0_1,.i f0_2,.i f0_3,.i f0_4,.i f0_5,.i f0_6,.l f0_7.a f0_7.n f0_7.c]] Q=(A1 [.i f0_0,.i f0_1,.i f0_2,.i f0_3,.i f0_4,.i f0_5,.i f0_6,.l f0_7.a f0_7.n f0_7.c] 24 λB1=>Ay B1 0 λX2=>Ay B1 1 λX3=>Ay B1 2 λX4=>Ay B1 3 λX5=>Ay B1 4 λX6=>Ay B1 5 λX7=>Ay B1 6 λX8=>Bu B1 7 λX9=>Agl 27 [.agg #[.i X2,.i X3,.i X4,.i X5,.i X6,.i X7,.i X8,.l X9.a X9.n X9.c]] λX10 X11=>
 Aj (X11 != 0) (Q (.tuple #[.p none,.b false])) (Q (.tuple #[.p X10,.b true]))):=by kernel_rfl
theorem Adb:Yz jn Q (us 5 ((.l all5.a all5.n all5.c)::us 16 []))=(Q (.l all5.a all5.n all5.c)):=by kernel_rfl
theorem QE{t8:Sl}{t9:Int}:VN jn Q (m1+1) c0 all5 t8 t9 t10=(Aj (decide (t10<t9)) (CB t8.a t8.n t10 λB1 O2=>Ay B1 (O2+t10.toNat*4) λX3=>Ch B1 ((O2+t10.toNat*4)+1) λX4=>Ch B1 (((O2+t10.toNat*4)+1)+1) λX5=>Ay B1 ((((O2+t10.toNat*4)+1)+1)+1) λX6=>A1 [.i 0,.s Af,.s Af,.i 0] 41 λB7=>st B7 0 (.i X3)<|st B7 1 (.s X4)<|st B7 2 (.s X5)<|st B7 3 (.i X6)<|Ay B7 0 λX8=>Ch B7 1 λX9=>Ch B7 2 λX10=>Ay B7 3 λX11=>λw=>Calls PR 15 #[.p c0,.agg #[.i X8,.s X9,.s X10,.i X11]] w λe w'=>∃X12:Int,∃X13:Bool,∃X14:BA,∃X15:Sl,e = .returned (.agg #[.i X12,.b X13,.s X14,.l X15.a X15.n X15.c])/\(
 A1 [.i X12,.b X13,.s X14,.l X15.a X15.n X15.c] 38 λB16=>AU 38 4 56 [.i 0,.b false,.s Af,.l none 0 0] ⟨all5.a,all5.n,all5.c⟩ 1 (λw=>F9 w (some ⟨B16,0,none⟩) (1*4)) λG17=>VN jn Q m1 c0 G17 t8 t9 (IntKind.wrap .i64 (t10+1))) w') (A48 jn Q all5)):=by kernel_rfl
theorem Aw5{l1:Sl}:Au jn PR VM Tryz.f14 [.p c0,.l l1.a l1.n l1.c] Q=(DH λm=>VN jn Q m c0 ⟨none,0,0⟩ l1 (l1.n:Int) 0):=by kernel_rfl
theorem Adc:Y6 jn Q ((.p c0)::us 2 ((pq o3b o3o)::(pq t4b t4o)::(pq kinds5b kinds5o)::us 27 []))=(A5 λS=>Ez S o3b o3o λX13=>Bw ((0:Int)<=X13/\X13<((10:Nat):Int))<|A7f S kinds5b (kinds5o+X13.toNat*1) (Ay o3b o3o λX14=>Ch o3b (o3o+1) λX15=>Ch o3b ((o3o+1)+1) λX16=>Ay o3b (((o3o+1)+1)+1) λX17=>Ap true S<|Dr) [
 (15,
 Ay o3b o3o λX18=>Ch o3b (o3o+1) λX19=>Ch o3b ((o3o+1)+1) λX20=>Ay o3b (((o3o+1)+1)+1) λX21=>Ap true S<|λw=>Calls PR 15 #[.p c0,.agg #[.i X18,.s X19,.s X20,.i X21]] w λe w'=>∃X22:Int,∃X23:Bool,∃X24:BA,∃X25:Sl,e = .returned (.agg #[.i X22,.b X23,.s X24,.l X25.a X25.n X25.c])/\(st t4b t4o (.i X22)<|st t4b (t4o+1) (.b X23)<|st t4b ((t4o+1)+1) (.s X24)<|st t4b (((t4o+1)+1)+1) (.l X25.a X25.n X25.c)<|Ay t4b t4o λX26=>HI t4b (t4o+1) λX27=>Ch t4b ((t4o+1)+1) λX28=>Bu t4b (((t4o+1)+1)+1) λX29=>
 Q (.agg #[.i X26,.b X27,.s X28,.l X29.a X29.n X29.c])) w'),
 (28,
 Ay o3b o3o λX30=>Ch o3b (o3o+1) λX31=>Ch o3b ((o3o+1)+1) λX32=>Ay o3b (((o3o+1)+1)+1) λX33=>Ap true S<|λw=>Calls PR 28 #[.p c0,.agg #[.i X30,.s X31,.s X32,.i X33]] w λe w'=>∃X34:Int,∃X35:Bool,∃X36:BA,∃X37:Sl,e = .returned (.agg #[.i X34,.b X35,.s X36,.l X37.a X37.n X37.c])/\(st t4b t4o (.i X34)<|st t4b (t4o+1) (.b X35)<|st t4b ((t4o+1)+1) (.s X36)<|st t4b (((t4o+1)+1)+1) (.l X37.a X37.n X37.c)<|Ay t4b t4o λX38=>HI t4b (t4o+1) λX39=>Ch t4b ((t4o+1)+1) λX40=>Bu t4b (((t4o+1)+1)+1) λX41=>
 Q (.agg #[.i X38,.b X39,.s X40,.l X41.a X41.n X41.c])) w'),
 (29,
 Ay o3b o3o λX42=>Ch o3b (o3o+1) λX43=>Ch o3b ((o3o+1)+1) λX44=>Ay o3b (((o3o+1)+1)+1) λX45=>Ap true S<|λw=>Calls PR 29 #[.p c0,.agg #[.i X42,.s X43,.s X44,.i X45]] w λe w'=>∃X46:Int,∃X47:Bool,∃X48:BA,∃X49:Sl,e = .returned (.agg #[.i X46,.b X47,.s X48,.l X49.a X49.n X49.c])/\(st t4b t4o (.i X46)<|st t4b (t4o+1) (.b X47)<|st t4b ((t4o+1)+1) (.s X48)<|st t4b (((t4o+1)+1)+1) (.l X49.a X49.n X49.c)<|Ay t4b t4o λX50=>HI t4b (t4o+1) λX51=>Ch t4b ((t4o+1)+1) λX52=>Bu t4b (((t4o+1)+1)+1) λX53=>
 Q (.agg #[.i X50,.b X51,.s X52,.l X53.a X53.n X53.c])) w'),
 (30,
 Ay o3b o3o λX54=>Ch o3b (o3o+1) λX55=>Ch o3b ((o3o+1)+1) λX56=>Ay o3b (((o3o+1)+1)+1) λX57=>Ap true S<|λw=>Calls PR 30 #[.p c0,.agg #[.i X54,.s X55,.s X56,.i X57]] w λe w'=>∃X58:Int,∃X59:Bool,∃X60:BA,∃X61:Sl,e = .returned (.agg #[.i X58,.b X59,.s X60,.l X61.a X61.n X61.c])/\(st t4b t4o (.i X58)<|st t4b (t4o+1) (.b X59)<|st t4b ((t4o+1)+1) (.s X60)<|st t4b (((t4o+1)+1)+1) (.l X61.a X61.n X61.c)<|Ay t4b t4o λX62=>HI t4b (t4o+1) λX63=>Ch t4b ((t4o+1)+1) λX64=>Bu t4b (((t4o+1)+1)+1) λX65=>
 Q (.agg #[.i X62,.b X63,.s X64,.l X65.a X65.n X65.c])) w'),
 (31,
 Ay o3b o3o λX66=>Ch o3b (o3o+1) λX67=>Ch o3b ((o3o+1)+1) λX68=>Ay o3b (((o3o+1)+1)+1) λX69=>Ap true S<|λw=>Calls PR 31 #[.p c0,.agg #[.i X66,.s X67,.s X68,.i X69]] w λe w'=>∃X70:Int,∃X71:Bool,∃X72:BA,∃X73:Sl,e = .returned (.agg #[.i X70,.b X71,.s X72,.l X73.a X73.n X73.c])/\(st t4b t4o (.i X70)<|st t4b (t4o+1) (.b X71)<|st t4b ((t4o+1)+1) (.s X72)<|st t4b (((t4o+1)+1)+1) (.l X73.a X73.n X73.c)<|Ay t4b t4o λX74=>HI t4b (t4o+1) λX75=>Ch t4b ((t4o+1)+1) λX76=>Bu t4b (((t4o+1)+1)+1) λX77=>
 Q (.agg #[.i X74,.b X75,.s X76,.l X77.a X77.n X77.c])) w'),
 (32,
 Ay o3b o3o λX78=>Ch o3b (o3o+1) λX79=>Ch o3b ((o3o+1)+1) λX80=>Ay o3b (((o3o+1)+1)+1) λX81=>Ap true S<|λw=>Calls PR 32 #[.p c0,.agg #[.i X78,.s X79,.s X80,.i X81]] w λe w'=>∃X82:Int,∃X83:Bool,∃X84:BA,∃X85:Sl,e = .returned (.agg #[.i X82,.b X83,.s X84,.l X85.a X85.n X85.c])/\(st t4b t4o (.i X82)<|st t4b (t4o+1) (.b X83)<|st t4b ((t4o+1)+1) (.s X84)<|st t4b (((t4o+1)+1)+1) (.l X85.a X85.n X85.c)<|Ay t4b t4o λX86=>HI t4b (t4o+1) λX87=>Ch t4b ((t4o+1)+1) λX88=>Bu t4b (((t4o+1)+1)+1) λX89=>
 Q (.agg #[.i X86,.b X87,.s X88,.l X89.a X89.n X89.c])) w'),
 (33,
 Ay o3b o3o λX90=>Ch o3b (o3o+1) λX91=>Ch o3b ((o3o+1)+1) λX92=>Ay o3b (((o3o+1)+1)+1) λX93=>Ap true S<|λw=>Calls PR 33 #[.p c0,.agg #[.i X90,.s X91,.s X92,.i X93]] w λe w'=>∃X94:Int,∃X95:Bool,∃X96:BA,∃X97:Sl,e = .returned (.agg #[.i X94,.b X95,.s X96,.l X97.a X97.n X97.c])/\(st t4b t4o (.i X94)<|st t4b (t4o+1) (.b X95)<|st t4b ((t4o+1)+1) (.s X96)<|st t4b (((t4o+1)+1)+1) (.l X97.a X97.n X97.c)<|Ay t4b t4o λX98=>HI t4b (t4o+1) λX99=>Ch t4b ((t4o+1)+1) λX100=>Bu t4b (((t4o+1)+1)+1) λX101=>
 Q (.agg #[.i X98,.b X99,.s X100,.l X101.a X101.n X101.c])) w'),
 (34,
 Ay o3b o3o λX102=>Ch o3b (o3o+1) λX103=>Ch o3b ((o3o+1)+1) λX104=>Ay o3b (((o3o+1)+1)+1) λX105=>Ap true S<|λw=>Calls PR 34 #[.p c0,.agg #[.i X102,.s X103,.s X104,.i X105]] w λe w'=>∃X106:Int,∃X107:Bool,∃X108:BA,∃X109:Sl,e = .returned (.agg #[.i X106,.b X107,.s X108,.l X109.a X109.n X109.c])/\(st t4b t4o (.i X106)<|st t4b (t4o+1) (.b X107)<|st t4b ((t4o+1)+1) (.s X108)<|st t4b (((t4o+1)+1)+1) (.l X109.a X109.n X109.c)<|Ay t4b t4o λX110=>HI t4b (t4o+1) λX111=>Ch t4b ((t4o+1)+1) λX112=>
 Bu t4b (((t4o+1)+1)+1) λX113=>Q (.agg #[.i X110,.b X111,.s X112,.l X113.a X113.n X113.c])) w'),
 (35,
 Ay o3b o3o λX114=>Ch o3b (o3o+1) λX115=>Ch o3b ((o3o+1)+1) λX116=>Ay o3b (((o3o+1)+1)+1) λX117=>Ap true S<|λw=>Calls PR 35 #[.p c0,.agg #[.i X114,.s X115,.s X116,.i X117]] w λe w'=>∃X118:Int,∃X119:Bool,∃X120:BA,∃X121:Sl,e = .returned (.agg #[.i X118,.b X119,.s X120,.l X121.a X121.n X121.c])/\(st t4b t4o (.i X118)<|st t4b (t4o+1) (.b X119)<|st t4b ((t4o+1)+1) (.s X120)<|st t4b (((t4o+1)+1)+1) (.l X121.a X121.n X121.c)<|Ay t4b t4o λX122=>HI t4b (t4o+1) λX123=>Ch t4b ((t4o+1)+1) λX124=>
 Bu t4b (((t4o+1)+1)+1) λX125=>Q (.agg #[.i X122,.b X123,.s X124,.l X125.a X125.n X125.c])) w'),
 (36,
 Ay o3b o3o λX126=>Ch o3b (o3o+1) λX127=>Ch o3b ((o3o+1)+1) λX128=>Ay o3b (((o3o+1)+1)+1) λX129=>Ap true S<|λw=>Calls PR 36 #[.p c0,.agg #[.i X126,.s X127,.s X128,.i X129]] w λe w'=>∃X130:Int,∃X131:Bool,∃X132:BA,∃X133:Sl,e = .returned (.agg #[.i X130,.b X131,.s X132,.l X133.a X133.n X133.c])/\(st t4b t4o (.i X130)<|st t4b (t4o+1) (.b X131)<|st t4b ((t4o+1)+1) (.s X132)<|st t4b (((t4o+1)+1)+1) (.l X133.a X133.n X133.c)<|Ay t4b t4o λX134=>HI t4b (t4o+1) λX135=>Ch t4b ((t4o+1)+1) λX136=>
 Bu t4b (((t4o+1)+1)+1) λX137=>Q (.agg #[.i X134,.b X135,.s X136,.l X137.a X137.n X137.c])) w')]):=by kernel_rfl
theorem QF{t24:Bool}:Y5 jn Q ((.p c0)::us 2 ((pq o3b o3o)::(pq t4b t4o)::(pq kinds5b kinds5o)::us 18 ((.b t24)::us 8 [])))=(Aj t24 (st t4b t4o (.i 7)<|st t4b (t4o+1) (.b false)<|st t4b ((t4o+1)+1) (.s Af)<|st t4b (((t4o+1)+1)+1) (.l none 0 0)<|Ay t4b t4o λX9=>HI t4b (t4o+1) λX10=>Ch t4b ((t4o+1)+1) λX11=>Bu t4b (((t4o+1)+1)+1) λX12=>Q (.agg #[.i X9,.b X10,.s X11,.l X12.a X12.n X12.c])) (A5a jn Q c0 o3b o3o t4b t4o kinds5b kinds5o)):=by kernel_rfl
theorem Aw7:Au jn PR VT Tryz.f15 [.p c0,.agg #[.i o1_0,.s o1_1,.s o1_2,.i o1_3]] Q=(A1 [.i o1_0,.s o1_1,.s o1_2,.i o1_3] 41 λB1=>A1 [.i 0,.b false,.s Af,.l none 0 0] 38 λB2=>Aj (Option.isNone c0) (st B2 0 (.i 1)<|st B2 1 (.b false)<|st B2 2 (.s Af)<|st B2 3 (.l none 0 0)<|Ay B2 0 λX3=>HI B2 1 λX4=>Ch B2 2 λX5=>Bu B2 3 λX6=>Q (.agg #[.i X3,.b X4,.s X5,.l X6.a X6.n X6.c])) (A1 [.nilFunc,.nilFunc,.nilFunc,.nilFunc,.nilFunc,.nilFunc,.nilFunc,.nilFunc,.nilFunc,.nilFunc] 64 λB7=>
 st B7 0 .nilFunc<|st B7 1 (.func (.func 28) #[] #[])<|st B7 2 (.func (.func 29) #[] #[])<|st B7 3 (.func (.func 30) #[] #[])<|st B7 4 (.func (.func 31) #[] #[])<|st B7 5 (.func (.func 32) #[] #[])<|st B7 6 (.func (.func 33) #[] #[])<|st B7 7 (.func (.func 34) #[] #[])<|st B7 8 (.func (.func 35) #[] #[])<|st B7 9 (.func (.func 36) #[] #[])<|Ay B1 0 λX8=>Aj (decide (X8<0)) (EP jn Q c0 B1 0 B2 0 B7 0 true) (Ay B1 0 λX138=>Aj (decide (X138>=10)) (EP jn Q c0 B1 0 B2 0 B7 0 true) (Ay B1 0 λX139=>Bw ((0:Int)<=X139/\X139<((10:Nat):Int))<|ldV B7 (0+X139.toNat*1) (EP jn Q c0 B1 0 B2 0 B7 0 true) [
 (15,
 EP jn Q c0 B1 0 B2 0 B7 0 false),
 (28,
 EP jn Q c0 B1 0 B2 0 B7 0 false),
 (29,
 EP jn Q c0 B1 0 B2 0 B7 0 false),
 (30,
 EP jn Q c0 B1 0 B2 0 B7 0 false),
 (31,
 EP jn Q c0 B1 0 B2 0 B7 0 false),
 (32,
 EP jn Q c0 B1 0 B2 0 B7 0 false),
 (33,
 EP jn Q c0 B1 0 B2 0 B7 0 false),
 (34,
 EP jn Q c0 B1 0 B2 0 B7 0 false),
 (35,
 EP jn Q c0 B1 0 B2 0 B7 0 false),
 (36,
 EP jn Q c0 B1 0 B2 0 B7 0 false)])))):=by kernel_rfl
theorem Adf:YA jn Q (us 9 ((.l l9.a l9.n l9.c)::us 56 []))=(Q (.l l9.a l9.n l9.c)):=by kernel_rfl
theorem QH{o7 at8:Sl}:QG jn Q (m3+1) ops0 o7 at8 l9 k10=(Aj (decide (k10<(o7.n:Int))) (A5 λS=>CB o7.a o7.n k10 λB8 O9=>Ez S B8 (O9+k10.toNat*1) λX10=>CB ops0.a ops0.n X10 λB11 O12=>F5 S B11 (O12+X10.toNat*1) λX13=>CB o7.a o7.n k10 λB14 O15=>Ay B14 (O15+k10.toNat*1) λX16=>Ap true S<|CB at8.a at8.n X16 λB17 O18=>Ay B17 (O18+X16.toNat*1) λX19=>Ap true S<|CB X13.a X13.n X19 λB20 O21=>Ay B20 (O21+X19.toNat*4) λX22=>Ch B20 ((O21+X19.toNat*4)+1) λX23=>Ch B20 (((O21+X19.toNat*4)+1)+1) λX24=>
 Ay B20 ((((O21+X19.toNat*4)+1)+1)+1) λX25=>A1 [.i X22,.s X23,.s X24,.i X25] 41 λB26=>AU 41 4 48 [.i 0,.s Af,.s Af,.i 0] ⟨l9.a,l9.n,l9.c⟩ 1 (λw=>F9 w (some ⟨B26,0,none⟩) (1*4)) λG27=>CB o7.a o7.n k10 λB28 O29=>Ay B28 (O29+k10.toNat*1) λX30=>CB at8.a at8.n X30 λB31 O32=>Ay B31 (O32+X30.toNat*1) λX33=>CB at8.a at8.n X30 λB34 O35=>st B34 (O35+X30.toNat*1) (.i (IntKind.wrap .i64 (X33+1)))<|QG jn Q m3 ops0 o7 at8 G27 (IntKind.wrap .i64 (k10+1))) (A5d jn Q l9)):=by kernel_rfl
theorem Ade:Y9 jn Q ((.l ops0.a ops0.n ops0.c)::(.l picks1.a picks1.n picks1.c)::us 3 ((.l n5.a n5.n n5.c)::us 60 []))=(Gu 37 [.l n5.a n5.n n5.c,.l picks1.a picks1.n picks1.c] λX6=>Ht 3 8 [.i 0] (ops0.n:Int) (ops0.n:Int) λG7=>DH λm=>QG jn Q m ops0 X6 G7 ⟨none,0,0⟩ 0):=by kernel_rfl
theorem K7{i6:Int}:Adg jn Q (m1+1) ops0 picks1 n5 i6=(Aj (decide (i6<(ops0.n:Int))) (CB ops0.a ops0.n i6 λB1 O2=>Bu B1 (O2+i6.toNat*1) λX3=>A1 [.i (X3.n:Int)] 3 λB4=>AU 3 1 8 [.i 0] ⟨n5.a,n5.n,n5.c⟩ 1 (λw=>F9 w (some ⟨B4,0,none⟩) (1*1)) λG5=>Adg jn Q m1 ops0 picks1 G5 (IntKind.wrap .i64 (i6+1))) (A5c jn Q ops0 picks1 n5)):=by kernel_rfl
theorem Axb:Au jn PR K6 Tryz.f16 [.l ops0.a ops0.n ops0.c,.l picks1.a picks1.n picks1.c] Q=(DH λm=>Adg jn Q m ops0 picks1 ⟨none,0,0⟩ 0):=by kernel_rfl
theorem Adi:YB jn Q m1 (us 2 ((.l l2.a l2.n l2.c)::(.l r3.a r3.n r3.c)::us 5 ((.p j9)::(.i i10)::us 27 [])))=(A5 λS=>CB l2.a l2.n i10 λB2 O3=>Ez S B2 (O3+i10.toNat*4) λX4=>wLs S B2 ((O3+i10.toNat*4)+1) λX5=>wLs S B2 (((O3+i10.toNat*4)+1)+1) λX6=>Ez S B2 ((((O3+i10.toNat*4)+1)+1)+1) λX7=>CB r3.a r3.n i10 λB8 O9=>Ay B8 (O9+i10.toNat*4) λX10=>HI B8 ((O9+i10.toNat*4)+1) λX11=>Ch B8 (((O9+i10.toNat*4)+1)+1) λX12=>Bu B8 ((((O9+i10.toNat*4)+1)+1)+1) λX13=>
 Ap true S<|DD 39 [.p j9,.agg #[.i X4,.s X5,.s X6,.i X7],.agg #[.i X10,.b X11,.s X12,.l X13.a X13.n X13.c]] λX14=>Aj (!X14) (Q (.i i10)) (VU jn Q m1 l2 r3 j9 (IntKind.wrap .i64 (i10+1)))):=by kernel_rfl
theorem Adk:YC jn Q (us 38 [])=(Q (.i (-1))):=by kernel_rfl
theorem QI:VU jn Q (m1+1) l2 r3 j9 i10=(Aj (decide (i10<(l2.n:Int))) (Aj (decide (i10<(r3.n:Int))) (A5f jn Q m1 l2 r3 j9 i10) (Adj jn Q)) (Adj jn Q)):=by kernel_rfl
theorem Axc:Au jn PR M2 Tryz.f17 [.i shards0,.i room1,.l l2.a l2.n l2.c,.l r3.a r3.n r3.c] Q=(Lf 38 [.i shards0,.i room1] λX1=>DH λm=>VU jn Q m l2 r3 X1 0):=by kernel_rfl
theorem Adl:YJ jn Q ((.p c0)::(.i i1)::us 25 [])=(Ad c0 λB4 O5=>Bu B4 O5 λX6=>CB X6.a X6.n i1 λB7 O8=>BZ B7 (O8+i1.toNat*1) λX9=>Q (.p X9)):=by kernel_rfl
theorem Axr:Au jn PR M3 Tryz.f19 [.p c0,.i i1] Q=(Aj (Option.isNone c0) (Q (.p none)) (Aj (decide (i1<0)) (Q (.p none)) (Ad c0 λB1 O2=>Bu B1 O2 λX3=>Aj (decide (i1>=(X3.n:Int))) (Q (.p none)) (A5g jn Q c0 i1)))):=by kernel_rfl
theorem Adn:YY jn Q (us 1 ((pq c1b c1o)::us 2 ((pq x4b x4o)::us 91 [])))=(A5 λS=>Ez S c1b (c1o+6) λX27=>Ez S c1b (c1o+5) λX28=>Bu c1b (c1o+7) λX29=>Ap true S<|Lf 49 [.l X29.a X29.n X29.c] λX30=>Ap true S<|Agl 48 [.i X27,.i X28,.p X30] λX31 X32=>Aj (X32 != 0) (Q (.tuple #[.p none,.i X32])) (Ad (some ⟨x4b,x4o,none⟩) λB33 O34=>st B33 (O34+2) (.p X31)<|Q (.tuple #[pq x4b x4o,.i 0]))):=by kernel_rfl
theorem QK{t48 t49:Int}:Wk jn Q (m2+1) c1b c1o x4b x4o t48 t49=(Aj (decide (t49<t48)) (Ay c1b (c1o+1) λX14=>Ay c1b (c1o+2) λX15=>Ay c1b (c1o+3) λX16=>Ay c1b (c1o+6) λX17=>Agl 47 [.i X14,.i X15,.i X16,.i X17] λX18 X19=>Aj (X19 != 0) (Q (.tuple #[.p none,.i X19])) (Ad (some ⟨x4b,x4o,none⟩) λB20 O21=>Bu B20 O21 λX22=>A1 [.p X18] 50 λB23=>AU 50 1 8 [.p none] ⟨X22.a,X22.n,X22.c⟩ 1 (λw=>F9 w (some ⟨B23,0,none⟩) (1*1)) λG24=>
 Ad (some ⟨x4b,x4o,none⟩) λB25 O26=>st B25 O26 (.l G24.a G24.n G24.c)<|Wk jn Q m2 c1b c1o x4b x4o t48 (IntKind.wrap .i64 (t49+1)))) (Aqa jn Q c1b c1o x4b x4o)):=by kernel_rfl
theorem Adm:YX jn Q (us 1 ((pq c1b c1o)::us 94 []))=(Ay c1b (c1o+4) λX8=>Ay c1b (c1o+1) λX9=>Ay c1b c1o λX10=>Lf 46 [.i X8,.i (IntKind.wrap .i64 (X9*X10))] λX11=>A1 [.l none 0 0,.p X11,.p none,.i 0] 73 λB12=>Ay c1b c1o λX13=>DH λm=>Wk jn Q m c1b c1o B12 0 X13 0):=by kernel_rfl
theorem Aya:Au jn PR QJ Tryz.f27 [.agg #[.i c0_0,.i c0_1,.i c0_2,.i c0_3,.i c0_4,.i c0_5,.i c0_6,.l c0_7.a c0_7.n c0_7.c]] Q=(A1 [.i c0_0,.i c0_1,.i c0_2,.i c0_3,.i c0_4,.i c0_5,.i c0_6,.l c0_7.a c0_7.n c0_7.c] 24 λB1=>Ay B1 0 λX2=>Aj (decide (X2<1)) (Q (.tuple #[.p none,.i 1])) (Ay B1 0 λX3=>Aj (decide (X3>8)) (Q (.tuple #[.p none,.i 1])) (Ay B1 1 λX4=>Aj (decide (X4<1)) (Q (.tuple #[.p none,.i 1])) (
 Ay B1 1 λX5=>Aj (decide (X5>1024)) (Q (.tuple #[.p none,.i 1])) (Ay B1 4 λX6=>Aj (decide (X6<0)) (Q (.tuple #[.p none,.i 1])) (Ay B1 4 λX7=>Aj (decide (X7>16777216)) (Q (.tuple #[.p none,.i 1])) (A5i jn Q B1 0))))))):=by kernel_rfl
theorem Ayf:Au jn PR A5j Tryz.f28 [.p c0,.agg #[.i o1_0,.s o1_1,.s o1_2,.i o1_3]] Q=(A1 [.i o1_0,.s o1_1,.s o1_2,.i o1_3] 41 λB1=>A1 [.i 0,.b false,.s Af,.l none 0 0] 38 λB2=>A5 λS=>wLs S B1 1 λX3=>wLs S B1 1 λX4=>Ad c0 λB5 O6=>Ez S B5 (O6+3) λX7=>Lf 50 [.p c0,.s X3] λX8=>Ap true S<|λw=>Calls PR 51 #[.p X8,.s X4,.i X7] w λe w'=>∃X9:BA,∃X10:Bool,∃X11:Sl,∃X12:Int,e = .returned (.tuple #[.s X9,.b X10,.l X11.a X11.n X11.c,.i X12])/\(
 st B2 2 (.s X9)<|st B2 1 (.b X10)<|st B2 3 (.l X11.a X11.n X11.c)<|st B2 0 (.i X12)<|Ay B2 0 λX13=>Aj (X13==0) (A5 λS=>Ad c0 λB14 O15=>EZ S B14 (O15+1) λX16=>Ch B1 1 λX17=>Ap true S<|DD 52 [.p X16,.s X17] λX18=>Ay B2 0 λX19=>HI B2 1 λX20=>Ch B2 2 λX21=>Bu B2 3 λX22=>st B2 0 (.i X19)<|st B2 1 (.b X20)<|st B2 2 (.s X21)<|st B2 3 (.l X22.a X22.n X22.c)<|Ay B2 0 λX23=>HI B2 1 λX24=>Ch B2 2 λX25=>Bu B2 3 λX26=>Q (.agg #[.i X23,.b X24,.s X25,.l X26.a X26.n X26.c])) (
 Ay B2 0 λX27=>HI B2 1 λX28=>Ch B2 2 λX29=>Bu B2 3 λX30=>st B2 0 (.i X27)<|st B2 1 (.b X28)<|st B2 2 (.s X29)<|st B2 3 (.l X30.a X30.n X30.c)<|Ay B2 0 λX31=>HI B2 1 λX32=>Ch B2 2 λX33=>Bu B2 3 λX34=>Q (.agg #[.i X31,.b X32,.s X33,.l X34.a X34.n X34.c]))) w'):=by kernel_rfl
theorem Ayj:Au jn PR A5k Tryz.f29 [.p c0,.agg #[.i o1_0,.s o1_1,.s o1_2,.i o1_3]] Q=(A1 [.i o1_0,.s o1_1,.s o1_2,.i o1_3] 41 λB1=>A1 [.i 0,.b false,.s Af,.l none 0 0] 38 λB2=>A5 λS=>wLs S B1 1 λX3=>wLs S B1 1 λX4=>wLs S B1 2 λX5=>Ad c0 λB6 O7=>Ez S B6 (O7+3) λX8=>Ez S B1 3 λX9=>Lf 50 [.p c0,.s X3] λX10=>Ap true S<|Hd .slc (.int .i64) PR 53 [.p X10,.s X4,.s X5,.i X8,.i X9] λ(X11:Sl)(X12:Int)=>
 st B2 3 (.l X11.a X11.n X11.c)<|st B2 0 (.i X12)<|Ay B2 0 λX13=>Aj (X13==0) (A5 λS=>Ad c0 λB14 O15=>EZ S B14 (O15+1) λX16=>Ch B1 1 λX17=>Ap true S<|DD 52 [.p X16,.s X17] λX18=>Ay B2 0 λX19=>HI B2 1 λX20=>Ch B2 2 λX21=>Bu B2 3 λX22=>st B2 0 (.i X19)<|st B2 1 (.b X20)<|st B2 2 (.s X21)<|st B2 3 (.l X22.a X22.n X22.c)<|Ay B2 0 λX23=>HI B2 1 λX24=>Ch B2 2 λX25=>Bu B2 3 λX26=>Q (.agg #[.i X23,.b X24,.s X25,.l X26.a X26.n X26.c])) (
 Ay B2 0 λX27=>HI B2 1 λX28=>Ch B2 2 λX29=>Bu B2 3 λX30=>st B2 0 (.i X27)<|st B2 1 (.b X28)<|st B2 2 (.s X29)<|st B2 3 (.l X30.a X30.n X30.c)<|Ay B2 0 λX31=>HI B2 1 λX32=>Ch B2 2 λX33=>Bu B2 3 λX34=>Q (.agg #[.i X31,.b X32,.s X33,.l X34.a X34.n X34.c]))):=by kernel_rfl
theorem Ayo:Au jn PR A5l Tryz.f30 [.p c0,.agg #[.i o1_0,.s o1_1,.s o1_2,.i o1_3]] Q=(A1 [.i o1_0,.s o1_1,.s o1_2,.i o1_3] 41 λB1=>A1 [.i 0,.b false,.s Af,.l none 0 0] 38 λB2=>A5 λS=>wLs S B1 1 λX3=>wLs S B1 1 λX4=>Ad c0 λB5 O6=>Ez S B5 (O6+3) λX7=>Lf 50 [.p c0,.s X3] λX8=>Ap true S<|A8w .bool .slc (.int .i64) PR 54 [.p X8,.s X4,.i X7] λ(X9:Bool)(X10:Sl)(X11:Int)=>st B2 1 (.b X9)<|st B2 3 (.l X10.a X10.n X10.c)<|
 st B2 0 (.i X11)<|Ay B2 0 λX12=>HI B2 1 λX13=>Ch B2 2 λX14=>Bu B2 3 λX15=>st B2 0 (.i X12)<|st B2 1 (.b X13)<|st B2 2 (.s X14)<|st B2 3 (.l X15.a X15.n X15.c)<|Ay B2 0 λX16=>HI B2 1 λX17=>Ch B2 2 λX18=>Bu B2 3 λX19=>Q (.agg #[.i X16,.b X17,.s X18,.l X19.a X19.n X19.c])):=by kernel_rfl
theorem Adr:Zm jn Q (us 4 ((pq r4b r4o)::us 46 []))=(Ay r4b r4o λX26=>HI r4b (r4o+1) λX27=>Ch r4b ((r4o+1)+1) λX28=>Bu r4b (((r4o+1)+1)+1) λX29=>st r4b r4o (.i X26)<|st r4b (r4o+1) (.b X27)<|st r4b ((r4o+1)+1) (.s X28)<|st r4b (((r4o+1)+1)+1) (.l X29.a X29.n X29.c)<|Ay r4b r4o λX30=>HI r4b (r4o+1) λX31=>Ch r4b ((r4o+1)+1) λX32=>Bu r4b (((r4o+1)+1)+1) λX33=>Q (.agg #[.i X30,.b X31,.s X32,.l X33.a X33.n X33.c])):=by kernel_rfl
theorem QL{t33:Sl}{t34 t35:Int}:Ws jn Q (m3+1) c0 r4b r4o t33 t34 t35=(Aj (decide (t35<t34)) (CB t33.a t33.n t35 λB17 O18=>BZ B17 (O18+t35.toNat*1) λX19=>A5 λS=>F5 S r4b (r4o+3) λX20=>Ad c0 λB21 O22=>Ay B21 (O22+3) λX23=>Ap true S<|Gu 55 [.p X19,.i X23] λX24=>Ap true S<|AU 9 1 16 [.s Af] ⟨X20.a,X20.n,X20.c⟩ X24.n (λw=>F9 w X24.a (X24.n*1)) λG25=>st r4b (r4o+3) (.l G25.a G25.n G25.c)<|Ws jn Q m3 c0 r4b r4o t33 t34 (IntKind.wrap .i64 (t35+1))) (A5p jn Q r4b r4o)):=by kernel_rfl
theorem Adq:Zl jn Q ((.p c0)::us 2 ((pq o3b o3o)::(pq r4b r4o)::us 46 []))=(A5 λS=>Ad c0 λB8 O9=>Ez S B8 (O9+3) λX10=>Ay o3b (o3o+3) λX11=>Ap true S<|Ad c0 λB12 O13=>st B12 (O13+3) (.i (IntKind.wrap .i64 (X10+X11)))<|Ad c0 λB14 O15=>Bu B14 O15 λX16=>DH λm=>Ws jn Q m c0 r4b r4o X16 (X16.n:Int) 0):=by kernel_rfl
theorem Adp{t19:Bool}:Zk jn Q ((.p c0)::us 2 ((pq o3b o3o)::(pq r4b r4o)::us 14 ((.b t19)::us 31 [])))=(Aj t19 (st r4b r4o (.i 1)<|st r4b (r4o+1) (.b false)<|st r4b ((r4o+1)+1) (.s Af)<|st r4b (((r4o+1)+1)+1) (.l none 0 0)<|Ay r4b r4o λX4=>HI r4b (r4o+1) λX5=>Ch r4b ((r4o+1)+1) λX6=>Bu r4b (((r4o+1)+1)+1) λX7=>Q (.agg #[.i X4,.b X5,.s X6,.l X7.a X7.n X7.c])) (A5o jn Q c0 o3b o3o r4b r4o)):=by kernel_rfl
theorem Ayu:Au jn PR K8 Tryz.f31 [.p c0,.agg #[.i o1_0,.s o1_1,.s o1_2,.i o1_3]] Q=(A1 [.i o1_0,.s o1_1,.s o1_2,.i o1_3] 41 λB1=>A1 [.i 0,.b false,.s Af,.l none 0 0] 38 λB2=>A5 λS=>Ay B1 3 λX3=>Ap true S<|Aj (decide (X3<0)) (Ap true S<|Ado jn Q c0 B1 0 B2 0 true) (Ez S B1 3 λX34=>Ad c0 λB35 O36=>Ay B35 (O36+3) λX37=>Ap true S<|Ado jn Q c0 B1 0 B2 0 (decide (X34>(IntKind.wrap .i64 (1125899906842624-X37)))))):=by kernel_rfl
theorem Ay2:Au jn PR Aw Tryz.f32 [.p c0,.agg #[.i o1_0,.s o1_1,.s o1_2,.i o1_3]] Q=(A1 [.i o1_0,.s o1_1,.s o1_2,.i o1_3] 41 λB1=>A1 [.i 0,.b false,.s Af,.l none 0 0] 38 λB2=>Ay B1 3 λX3=>Lf 19 [.p c0,.i X3] λX4=>Aj (Option.isNone X4) (st B2 0 (.i 1)<|st B2 1 (.b false)<|st B2 2 (.s Af)<|st B2 3 (.l none 0 0)<|Ay B2 0 λX5=>HI B2 1 λX6=>Ch B2 2 λX7=>Bu B2 3 λX8=>Q (.agg #[.i X5,.b X6,.s X7,.l X8.a X8.n X8.c])) (
 Cc 56 [.p X4] λX9=>st B2 0 (.i 0)<|st B2 1 (.b (decide (X9>0)))<|st B2 2 (.s Af)<|st B2 3 (.l none 0 0)<|Ay B2 0 λX10=>HI B2 1 λX11=>Ch B2 2 λX12=>Bu B2 3 λX13=>Q (.agg #[.i X10,.b X11,.s X12,.l X13.a X13.n X13.c]))):=by kernel_rfl
theorem Ay8:Au jn PR Aw Tryz.f33 [.p c0,.agg #[.i o1_0,.s o1_1,.s o1_2,.i o1_3]] Q=(A1 [.i o1_0,.s o1_1,.s o1_2,.i o1_3] 41 λB1=>A1 [.i 0,.b false,.s Af,.l none 0 0] 38 λB2=>Ay B1 3 λX3=>Lf 19 [.p c0,.i X3] λX4=>Aj (Option.isNone X4) (st B2 0 (.i 1)<|st B2 1 (.b false)<|st B2 2 (.s Af)<|st B2 3 (.l none 0 0)<|Ay B2 0 λX5=>HI B2 1 λX6=>Ch B2 2 λX7=>Bu B2 3 λX8=>Q (.agg #[.i X5,.b X6,.s X7,.l X8.a X8.n X8.c])) (
 Fi 57 [.p X4] λX9 X10=>st B2 2 (.s X9)<|st B2 1 (.b X10)<|Ay B2 0 λX11=>HI B2 1 λX12=>Ch B2 2 λX13=>Bu B2 3 λX14=>st B2 0 (.i X11)<|st B2 1 (.b X12)<|st B2 2 (.s X13)<|st B2 3 (.l X14.a X14.n X14.c)<|Ay B2 0 λX15=>HI B2 1 λX16=>Ch B2 2 λX17=>Bu B2 3 λX18=>Q (.agg #[.i X15,.b X16,.s X17,.l X18.a X18.n X18.c]))):=by kernel_rfl
theorem Adt{pick5:Int}{change6:Bool}:Zu jn Q (us 4 ((pq t4b t4o)::(.i pick5)::(.b change6)::us 23 []))=(V1 61 [.i pick5] λX17=>st t4b t4o (.i 0)<|st t4b (t4o+1) (.b change6)<|st t4b ((t4o+1)+1) (.s X17)<|st t4b (((t4o+1)+1)+1) (.l none 0 0)<|Ay t4b t4o λX18=>HI t4b (t4o+1) λX19=>Ch t4b ((t4o+1)+1) λX20=>Bu t4b (((t4o+1)+1)+1) λX21=>Q (.agg #[.i X18,.b X19,.s X20,.l X21.a X21.n X21.c])):=by kernel_rfl
theorem Azf{p1_0:Int}{p1_1 p1_2:BA}{p1_3:Int}:Au jn PR Aro Tryz.f34 [.p c0,.agg #[.i p1_0,.s p1_1,.s p1_2,.i p1_3]] Q=(A1 [.i p1_0,.s p1_1,.s p1_2,.i p1_3] 41 λB1=>A1 [.i 0,.b false,.s Af,.l none 0 0] 38 λB2=>A5 λS=>Ad c0 λB3 O4=>EZ S B3 (O4+2) λX5=>Ad c0 λB6 O7=>BZ B6 (O7+1) λX8=>Ap true S<|λw=>Calls PR 59 #[.p X8] w λe w'=>∃X9:Int,∃X10:Int,∃X11:Int,∃X12:Int,∃X13:Int,∃X14:Int,e = .returned (.tuple #[.agg #[.i X9,.i X10,.i X11,.i X12,.i X13],.i X14])/\(
 Ap true S<|F0 58 [.p X5,.agg #[.i X9,.i X10,.i X11,.i X12,.i X13],.i X14] λX15 X16=>Aj X16 (wz 60 [.p c0,.i X15]<|Ads jn Q B2 0 X15 X16) (Ads jn Q B2 0 X15 X16)) w'):=by kernel_rfl
theorem Azt:Au jn PR A5q Tryz.f35 [.p c0,.agg #[.i o1_0,.s o1_1,.s o1_2,.i o1_3]] Q=(A1 [.i o1_0,.s o1_1,.s o1_2,.i o1_3] 41 λB1=>A1 [.i 0,.b false,.s Af,.l none 0 0] 38 λB2=>A5 λS=>Ad c0 λB3 O4=>EZ S B3 (O4+2) λX5=>Ay B1 3 λX6=>Ap true S<|Cc 62 [.p X5,.i X6] λX7=>Aj (X7==0) (Ay B1 3 λX8=>wz 60 [.p c0,.i X8]<|st B2 0 (.i X7)<|st B2 1 (.b false)<|st B2 2 (.s Af)<|
 st B2 3 (.l none 0 0)<|Ay B2 0 λX9=>HI B2 1 λX10=>Ch B2 2 λX11=>Bu B2 3 λX12=>Q (.agg #[.i X9,.b X10,.s X11,.l X12.a X12.n X12.c])) (st B2 0 (.i X7)<|st B2 1 (.b false)<|st B2 2 (.s Af)<|st B2 3 (.l none 0 0)<|Ay B2 0 λX13=>HI B2 1 λX14=>Ch B2 2 λX15=>Bu B2 3 λX16=>Q (.agg #[.i X13,.b X14,.s X15,.l X16.a X16.n X16.c]))):=by kernel_rfl
theorem Adx:Z3 jn Q ((.p c0)::us 2 ((pq o3b o3o)::(pq r4b r4o)::us 49 []))=(A5 λS=>Ad c0 λB19 O20=>EZ S B19 (O20+1) λX21=>Ez S o3b (o3o+3) λX22=>Ad c0 λB23 O24=>Bu B23 O24 λX25=>Ap true S<|wz 64 [.p X21,.i (IntKind.wrap .i64 (X22*(X25.n:Int)))]<|Ay r4b r4o λX26=>HI r4b (r4o+1) λX27=>Ch r4b ((r4o+1)+1) λX28=>Bu r4b (((r4o+1)+1)+1) λX29=>st r4b r4o (.i X26)<|st r4b (r4o+1) (.b X27)<|st r4b ((r4o+1)+1) (.s X28)<|st r4b (((r4o+1)+1)+1) (.l X29.a X29.n X29.c)<|
 Ay r4b r4o λX30=>HI r4b (r4o+1) λX31=>Ch r4b ((r4o+1)+1) λX32=>Bu r4b (((r4o+1)+1)+1) λX33=>Q (.agg #[.i X30,.b X31,.s X32,.l X33.a X33.n X33.c])):=by kernel_rfl
theorem QM{t21:Sl}{t23:Int}:Wz jn Q (m3+1) c0 o3b o3o r4b r4o t21 t22 t23=(Aj (decide (t23<t22)) (CB t21.a t21.n t23 λB11 O12=>BZ B11 (O12+t23.toNat*1) λX13=>Ay o3b (o3o+3) λX14=>Hd .slc (.int .i64) PR 63 [.p X13,.i X14] λ(X15:Sl)(X16:Int)=>Bu r4b (r4o+3) λX17=>AU 9 1 16 [.s Af] ⟨X17.a,X17.n,X17.c⟩ X15.n (λw=>F9 w X15.a (X15.n*1)) λG18=>st r4b (r4o+3) (.l G18.a G18.n G18.c)<|Wz jn Q m3 c0 o3b o3o r4b r4o t21 t22 (IntKind.wrap .i64 (t23+1))) (A5u jn Q c0 o3b o3o r4b r4o)):=by kernel_rfl
theorem Adw:Z2 jn Q ((.p c0)::us 2 ((pq o3b o3o)::(pq r4b r4o)::us 49 []))=(Ad c0 λB8 O9=>Bu B8 O9 λX10=>DH λm=>Wz jn Q m c0 o3b o3o r4b r4o X10 (X10.n:Int) 0):=by kernel_rfl
theorem Adv{t16:Bool}:Z1 jn Q ((.p c0)::us 2 ((pq o3b o3o)::(pq r4b r4o)::us 11 ((.b t16)::us 37 [])))=(Aj t16 (st r4b r4o (.i 1)<|st r4b (r4o+1) (.b false)<|st r4b ((r4o+1)+1) (.s Af)<|st r4b (((r4o+1)+1)+1) (.l none 0 0)<|Ay r4b r4o λX4=>HI r4b (r4o+1) λX5=>Ch r4b ((r4o+1)+1) λX6=>Bu r4b (((r4o+1)+1)+1) λX7=>Q (.agg #[.i X4,.b X5,.s X6,.l X7.a X7.n X7.c])) (A5t jn Q c0 o3b o3o r4b r4o)):=by kernel_rfl
theorem Azw:Au jn PR K9 Tryz.f36 [.p c0,.agg #[.i o1_0,.s o1_1,.s o1_2,.i o1_3]] Q=(A1 [.i o1_0,.s o1_1,.s o1_2,.i o1_3] 41 λB1=>A1 [.i 0,.b false,.s Af,.l none 0 0] 38 λB2=>Ay B1 3 λX3=>Aj (decide (X3<1)) (Adu jn Q c0 B1 0 B2 0 true) (Ay B1 3 λX34=>Adu jn Q c0 B1 0 B2 0 (decide (X34>1024)))):=by kernel_rfl
theorem Ad2:Z9 jn Q m3 (us 1 ((.l picks1.a picks1.n picks1.c)::us 3 ((.l left5.a left5.n left5.c)::(.i all6)::us 2 ((.l out9.a out9.n out9.c)::(.i k10)::us 73 []))))=(W4 jn Q m3 picks1 left5 all6 out9 (IntKind.wrap .i64 (k10+1))):=by kernel_rfl
theorem Ad1{p13:Int}:Z8 jn Q m3 (us 1 ((.l picks1.a picks1.n picks1.c)::us 3 ((.l left5.a left5.n left5.c)::(.i all6)::us 2 ((.l out9.a out9.n out9.c)::(.i k10)::(.l who11.a who11.n who11.c)::us 1 ((.i p13)::us 70 [])))))=(Bw ((who11.n:Int)≠0)<|CB who11.a who11.n (Int.tmod p13 (who11.n:Int)) λB14 O15=>Ay B14 (O15+((Int.tmod p13 (who11.n:Int))).toNat*1) λX16=>CB left5.a left5.n X16 λB17 O18=>Ay B17 (O18+X16.toNat*1) λX19=>CB left5.a left5.n X16 λB20 O21=>st B20 (O21+X16.toNat*1) (.i (IntKind.wrap .i64 (X19-1)))<|
 A1 [.i X16] 3 λB22=>AU 3 1 8 [.i 0] ⟨out9.a,out9.n,out9.c⟩ 1 (λw=>F9 w (some ⟨B22,0,none⟩) (1*1)) λG23=>Asc jn Q m3 picks1 left5 all6 G23 k10):=by kernel_rfl
theorem Adz:Z7 jn Q m3 (us 1 ((.l picks1.a picks1.n picks1.c)::us 3 ((.l left5.a left5.n left5.c)::(.i all6)::us 2 ((.l out9.a out9.n out9.c)::(.i k10)::(.l who11.a who11.n who11.c)::us 72 []))))=(Aj (decide (k10<(picks1.n:Int))) (CB picks1.a picks1.n k10 λB11 O12=>Ay B11 (O12+k10.toNat*1) λX13=>Ad0 jn Q m3 picks1 left5 all6 out9 k10 who11 (if X13>0 then X13 else 0)) (Ad0 jn Q m3 picks1 left5 all6 out9 k10 who11 0)):=by kernel_rfl
theorem KB{i12:Int}:M4 jn Q m3 (m4+1) picks1 left5 all6 out9 k10 who11 i12=(Aj (decide (i12<(left5.n:Int))) (CB left5.a left5.n i12 λB6 O7=>Ay B6 (O7+i12.toNat*1) λX8=>Aj (decide (X8>0)) (A1 [.i i12] 3 λB9=>AU 3 1 8 [.i 0] ⟨who11.a,who11.n,who11.c⟩ 1 (λw=>F9 w (some ⟨B9,0,none⟩) (1*1)) λG10=>M4 jn Q m3 m4 picks1 left5 all6 out9 k10 G10 (IntKind.wrap .i64 (i12+1))) (M4 jn Q m3 m4 picks1 left5 all6 out9 k10 who11 (IntKind.wrap .i64 (i12+1)))) (Asb jn Q m3 picks1 left5 all6 out9 k10 who11)):=by kernel_rfl
theorem Ad3:ZA jn Q (us 9 ((.l out9.a out9.n out9.c)::us 74 []))=(Q (.l out9.a out9.n out9.c)):=by kernel_rfl
theorem QN:W4 jn Q (m3+1) picks1 left5 all6 out9 k10=(Aj (decide (k10<all6)) (DH λm=>M4 jn Q m3 m picks1 left5 all6 out9 k10 ⟨none,0,0⟩ 0) (A5x jn Q out9)):=by kernel_rfl
theorem Ady:Z6 jn Q (us 1 ((.l picks1.a picks1.n picks1.c)::us 3 ((.l left5.a left5.n left5.c)::(.i all6)::us 77 [])))=(DH λm=>W4 jn Q m picks1 left5 all6 ⟨none,0,0⟩ 0):=by kernel_rfl
theorem KA:Ad4 jn Q (m1+1) counts0 picks1 left5 all6 i7=(Aj (decide (i7<(counts0.n:Int))) (CB counts0.a counts0.n i7 λB1 O2=>Ay B1 (O2+i7.toNat*1) λX3=>Aj (decide ((if X3>0 then X3 else 0)>(IntKind.wrap .i64 (65536-all6)))) (Q (.l none 0 0)) (A1 [.i (if X3>0 then X3 else 0)] 3 λB4=>AU 3 1 8 [.i 0] ⟨left5.a,left5.n,left5.c⟩ 1 (λw=>F9 w (some ⟨B4,0,none⟩) (1*1)) λG5=>Ad4 jn Q m1 counts0 picks1 G5 (IntKind.wrap .i64 (all6+(if X3>0 then X3 else 0))) (IntKind.wrap .i64 (i7+1)))) (A5w jn Q picks1 left5 all6)):=by kernel_rfl
theorem Az5:Au jn PR Fp Tryz.f37 [.l counts0.a counts0.n counts0.c,.l picks1.a picks1.n picks1.c] Q=(DH λm=>Ad4 jn Q m counts0 picks1 ⟨none,0,0⟩ 0 0):=by kernel_rfl
theorem Az9:Au jn PR Aw Tryz.f38 [.i shards0,.i room1] Q=(A1 [.l none 0 0] 110 λB1=>A1 [pq B1 0,.i 0,.i shards0,.i room1] 112 λB2=>Q (pq B2 0)):=by kernel_rfl
theorem Aec:ZF jn Q ((.p j0)::us 6 ((.b ok7)::us 107 []))=(Aj ok7 (DD 69 [.p j0] λX51=>Q (.b (!X51))) (Q (.b false))):=by kernel_rfl
theorem Aeb:ZE jn Q ((.p j0)::us 3 ((pq o4b o4o)::us 2 ((.b ok7)::us 107 [])))=(Ay o4b o4o λX39=>Aj (X39==2) (A5 λS=>Ad j0 λB40 O41=>EZ S B40 O41 λX42=>wLs S o4b (o4o+1) λX43=>wLs S o4b (o4o+2) λX44=>Ad j0 λB45 O46=>Ez S B45 (O46+1) λX47=>Ay o4b (o4o+3) λX48=>Ap true S<|A3u 68 [.p X42,.s X43,.s X44,.i X47,.i X48] λX49 X50=>QO jn Q j0 ok7) (Aj (X39==3) (A5 λS=>Ad j0 λB52 O53=>EZ S B52 O53 λX54=>
 Ch o4b (o4o+1) λX55=>Ap true S<|DD 67 [.p X54,.s X55] λX56=>QO jn Q j0 ok7) (Aj (X39==9) (Ay o4b (o4o+3) λX57=>Ad j0 λB58 O59=>st B58 (O59+3) (.i X57)<|QO jn Q j0 ok7) (QO jn Q j0 ok7)))):=by kernel_rfl
theorem QP{i8:Int}:W6 jn Q (m4+1) j0 o4b o4o r5b r5o ok7 i8=(Bu r5b (r5o+3) λX30=>Aj (decide (i8<(X30.n:Int))) (A5 λS=>Ad j0 λB31 O32=>EZ S B31 O32 λX33=>Bu r5b (r5o+3) λX34=>Ap true S<|CB X34.a X34.n i8 λB35 O36=>Ch B35 (O36+i8.toNat*1) λX37=>Ap true S<|DD 67 [.p X33,.s X37] λX38=>W6 jn Q m4 j0 o4b o4o r5b r5o ok7 (IntKind.wrap .i64 (i8+1))) (Asd jn Q j0 o4b o4o ok7)):=by kernel_rfl
theorem Aea:ZD jn Q ((.p j0)::us 3 ((pq o4b o4o)::(pq r5b r5o)::us 1 ((.b ok7)::us 107 [])))=(DH λm=>W6 jn Q m j0 o4b o4o r5b r5o ok7 0):=by kernel_rfl
theorem Ad8:ZC jn Q ((.p j0)::us 3 ((pq o4b o4o)::(pq r5b r5o)::us 109 []))=(Ay o4b o4o λX15=>Ch o4b (o4o+1) λX16=>Ch o4b ((o4o+1)+1) λX17=>Ay o4b (((o4o+1)+1)+1) λX18=>Ay r5b r5o λX19=>HI r5b (r5o+1) λX20=>Ch r5b ((r5o+1)+1) λX21=>Bu r5b (((r5o+1)+1)+1) λX22=>DD 65 [.p j0,.agg #[.i X15,.s X16,.s X17,.i X18],.agg #[.i X19,.b X20,.s X21,.l X22.a X22.n X22.c]] λX23=>Aj X23 (Ay o4b o4o λX24=>
 Ch o4b (o4o+1) λX25=>Ch o4b ((o4o+1)+1) λX26=>Ay o4b (((o4o+1)+1)+1) λX27=>Bu r5b (r5o+3) λX28=>DD 66 [.p j0,.agg #[.i X24,.s X25,.s X26,.i X27],.l X28.a X28.n X28.c] λX29=>Ad9 jn Q j0 o4b o4o r5b r5o X29) (Ad9 jn Q j0 o4b o4o r5b r5o false)):=by kernel_rfl
theorem Ad6{t33:Bool}:ZB jn Q ((.p j0)::us 3 ((pq o4b o4o)::(pq r5b r5o)::us 27 ((.b t33)::us 81 [])))=(Aj t33 (A5 λS=>Ad j0 λB9 O10=>Ez S B9 (O10+1) λX11=>Ay o4b (o4o+3) λX12=>Ap true S<|Ad j0 λB13 O14=>st B13 (O14+1) (.i (if (IntKind.wrap .i64 (X11+(if 1125899906842624<X12 then 1125899906842624 else X12)))<1125899906842624 then (IntKind.wrap .i64 (X11+(if 1125899906842624<X12 then 1125899906842624 else X12))) else 1125899906842624))<|Ad7 jn Q j0 o4b o4o r5b r5o) (Ad7 jn Q j0 o4b o4o r5b r5o)):=by kernel_rfl
theorem A0a:Au jn PR I5 Tryz.f39 [.p j0,.agg #[.i o1_0,.s o1_1,.s o1_2,.i o1_3],.agg #[.i r2_0,.b r2_1,.s r2_2,.l r2_3.a r2_3.n r2_3.c]] Q=(A1 [.i o1_0,.s o1_1,.s o1_2,.i o1_3] 41 λB1=>A1 [.i r2_0,.b r2_1,.s r2_2,.l r2_3.a r2_3.n r2_3.c] 38 λB2=>Ay B2 0 λX3=>Aj (X3 != 0) (HI B2 1 λX4=>Aj (!X4) (Ch B2 2 λX5=>Aj (Vr X5 Af) (Bu B2 3 λX6=>Q (.b ((X6.n:Int)==0))) (Q (.b false))) (Q (.b false))) (
 Ay B1 0 λX7=>Aj (X7==4) (Ay B1 3 λX8=>Ad5 jn Q j0 B1 0 B2 0 (decide (X8>0))) (Ad5 jn Q j0 B1 0 B2 0 false))):=by kernel_rfl
theorem A0b:Au jn PR Aw Tryz.f40 [.p t0] Q=(Aj (Option.isNone t0) (Q (.i 0)) (Ad t0 λB1 O2=>BZ B1 O2 λX3=>Cc 70 [.p X3] λX4=>Q (.i X4))):=by kernel_rfl
theorem A0c:Au jn PR Aw Tryz.f41 [.p t0] Q=(Aj (Option.isNone t0) (Q (.l none 0 0)) (Ad t0 λB1 O2=>BZ B1 O2 λX3=>Gu 71 [.p X3] λX4=>Q (.l X4.a X4.n X4.c))):=by kernel_rfl
theorem Ah3:Au jn PR Aw Tryz.f42 [.p m0] Q=(Aj (!Option.isNone m0) (Ad m0 λB1 O2=>Ot B1 (O2+3) (Q (.b false)) λ(t_3:TypeId)(v_4:Value)=>Q (.b true)) (Q (.b false))):=by kernel_rfl
theorem A0d:Au jn PR Aw Tryz.f43 [.p m0] Q=(Aj (Option.isNone m0) (Q (.i (-1))) (Ad m0 λB1 O2=>Ay B1 O2 λX3=>Q (.i X3))):=by kernel_rfl
theorem A0e:Au jn PR Aw Tryz.f46 [.i rate0,.i room1] Q=(Lf 73 [.i rate0] λX1=>A1 [.p X1,.i 0,.p none,.p none,.p none,.p none,.p none] 131 λB2=>wz 64 [pq B2 0,.i room1]<|Q (pq B2 0)):=by kernel_rfl
theorem A0f{reads1 writes2 kind3:Int}:Au jn PR Aw Tryz.f47 [.i room0,.i reads1,.i writes2,.i kind3] Q=(DD 74 [.i room0] λX1=>Aj (!X1) (Q (.tuple #[.p none,.i 1])) (Agl 75 [.i reads1,.i writes2] λX2 X3=>Aj (X3 != 0) (Q (.tuple #[.p none,.i X3])) (Agl 76 [.i kind3,.i room0] λX4 X5=>Aj (X5 != 0) (Q (.tuple #[.p none,.i X5])) (Lf 77 [] λX6=>A1 [.p X6,.p X2,.p X4,.i 0,.i 0,.i 0,.i 0,.i 0,.i 0,.l none 0 0] 79 λB7=>
 Q (.tuple #[pq B7 0,.i 0]))))):=by kernel_rfl
theorem Aed:ZG jn Q ((.i kind0)::(.i hold1)::(.p t2)::us 23 [])=(λw=>Calls PR 79 #[] w λe w'=>∃X2:Int,∃X3:Int,∃X4:Int,∃X5:Int,∃X6:Int,e = .returned (.agg #[.int .u64 X2,.int .u64 X3,.int .u64 X4,.int .u64 X5,.int .u64 X6])/\(A1 [.i kind0,.i hold1,.p t2,.int .u64 X2,.int .u64 X3,.int .u64 X4,.int .u64 X5,.int .u64 X6,.i kind0,.i 0] 143 λB7=>Q (.tuple #[pq B7 0,.i 0])) w'):=by kernel_rfl
theorem A0g:Au jn PR Ase Tryz.f48 [.i kind0,.i hold1,.p t2] Q=(DD 78 [.i kind0] λX1=>Aj (!X1) (Q (.tuple #[.p none,.i 4])) (Aj (decide (hold1<1)) (Q (.tuple #[.p none,.i 1])) (Aj (decide (hold1>256)) (Q (.tuple #[.p none,.i 1])) (A50 jn Q kind0 hold1 t2)))):=by kernel_rfl
theorem A0h{draws0:Sl}:Au jn PR Aw Tryz.f49 [.l draws0.a draws0.n draws0.c] Q=(Gu 80 [.l draws0.a draws0.n draws0.c] λX1=>A1 [.l X1.a X1.n X1.c,.i 0] 147 λB2=>Q (pq B2 0)):=by kernel_rfl
theorem A0i:Au jn PR A52 Tryz.f50 [.p c0,.s key1] Q=(A5 λS=>Ad c0 λB1 O2=>F5 S B1 O2 λX3=>Ad c0 λB4 O5=>Bu B4 O5 λX6=>Ap true S<|Cc 81 [.s key1,.i (X6.n:Int)] λX7=>Ap true S<|CB X3.a X3.n X7 λB8 O9=>BZ B8 (O9+X7.toNat*1) λX10=>Q (.p X10)):=by kernel_rfl
theorem A0j:Au jn PR Aw Tryz.f51 [.p s0,.s key1,.i now2] Q=(Cc 82 [.p s0,.s key1,.i now2] λX1=>Aj (X1 != 0) (Q (.tuple #[.s Af,.b false,.l none 0 0,.i X1])) (Gu 83 [.p s0,.s key1,.i now2] λX2=>Ad s0 λB3 O4=>wz 84 [.p (some ⟨B3,(O4+3),none⟩)]<|Ad s0 λB5 O6=>BZ B5 O6 λX7=>Fi 85 [.p X7,.s key1,.i now2] λX8 X9=>Aj X9 (Ad s0 λB10 O11=>wz 84 [.p (some ⟨B10,((O11+3)+1),none⟩)]<|
 Ad s0 λB12 O13=>BZ B12 (O13+1) λX14=>DD 86 [.p X14,.s key1] λX15=>Aj (!X15) (Ad s0 λB16 O17=>wz 84 [.p (some ⟨B16,((O17+3)+4),none⟩)]<|Q (.tuple #[.s X8,.b X9,.l X2.a X2.n X2.c,.i 0])) (Q (.tuple #[.s X8,.b X9,.l X2.a X2.n X2.c,.i 0]))) (Q (.tuple #[.s X8,.b X9,.l X2.a X2.n X2.c,.i 0])))):=by kernel_rfl
theorem Aef:ZI jn Q (us 29 [])=(Q (.b true)):=by kernel_rfl
theorem FF{t21_0 t21_1 t21_2 t21_3 t21_4:OA}:Aeg jn Q (m2+1) key1 t21_0 t21_1 t21_2 t21_3 t21_4 t22=(Aj (decide (t22<5)) (Bw ((0:Int)<=t22/\t22<((5:Nat):Int))<|λw=>∃X12:OA,([.p t21_0,.p t21_1,.p t21_2,.p t21_3,.p t21_4]:List Value)[t22.toNat]? = some (.p X12)/\CV (.p X12)=false/\(DD 88 [.p X12,.s key1] λX13=>Aeg jn Q m2 key1 t21_0 t21_1 t21_2 t21_3 t21_4 (IntKind.wrap .i64 (t22+1))) w) (A55 jn Q)):=by kernel_rfl
theorem Aee:ZH jn Q ((.p p0)::(.s key1)::us 27 [])=(Ad p0 λB5 O6=>BZ B5 (O6+2) λX7=>BZ B5 ((O6+2)+1) λX8=>BZ B5 (((O6+2)+1)+1) λX9=>BZ B5 ((((O6+2)+1)+1)+1) λX10=>BZ B5 (((((O6+2)+1)+1)+1)+1) λX11=>DH λm=>Aeg jn Q m key1 X7 X8 X9 X10 X11 0):=by kernel_rfl
theorem A0k:Au jn PR QQ Tryz.f52 [.p p0,.s key1] Q=(Aj (Option.isNone p0) (Q (.b false)) (Ad p0 λB1 O2=>BZ B1 O2 λX3=>DD 87 [.p X3,.s key1] λX4=>Aj (!X4) (Q (.b false)) (A54 jn Q p0 key1))):=by kernel_rfl
theorem Aei:ZK jn Q ((.p s0)::(.s key1)::(.s val2)::(.i now3)::(.i life4)::us 9 ((.l gone14.a gone14.n gone14.c)::us 90 []))=(Cc 93 [.p s0] λX16=>Ad s0 λB17 O18=>BZ B17 (O18+2) λX19=>Gu 94 [.p X19,.s key1] λX20=>Ad s0 λB21 O22=>Bu B21 (O22+9) λX23=>A1 [.i 2,.s key1] 159 λB24=>AU 159 2 24 [.i 0,.s Af] ⟨X23.a,X23.n,X23.c⟩ 1 (λw=>F9 w (some ⟨B24,0,none⟩) (1*2)) λG25=>Ad s0 λB26 O27=>st B26 (O27+9) (.l G25.a G25.n G25.c)<|
 wz 95 [.p s0,.l X20.a X20.n X20.c]<|Ad s0 λB28 O29=>BZ B28 O29 λX30=>A3u 89 [.p X30,.s key1,.s val2,.i now3,.i life4] λX31 X32=>AU 9 1 16 [.s Af] ⟨gone14.a,gone14.n,gone14.c⟩ X20.n (λw=>F9 w X20.a (X20.n*1)) λG33=>Q (.tuple #[.l G33.a G33.n G33.c,.i 0])):=by kernel_rfl
theorem Aeh{t57:Bool}:ZJ jn Q ((.p s0)::(.s key1)::(.s val2)::(.i now3)::(.i life4)::us 9 ((.l gone14.a gone14.n gone14.c)::us 42 ((.b t57)::us 47 [])))=(Aj t57 (Ad s0 λB11 O12=>BZ B11 O12 λX13=>A3u 89 [.p X13,.s key1,.s val2,.i now3,.i life4] λX14 X15=>wz 92 [.p s0,.i 2,.s key1]<|Q (.tuple #[.l gone14.a gone14.n gone14.c,.i 0])) (A56 jn Q s0 key1 val2 now3 life4 gone14)):=by kernel_rfl
theorem A0m:Au jn PR W8 Tryz.f53 [.p s0,.s key1,.s val2,.i now3,.i life4] Q=(Aj (Option.isNone s0) (Q (.tuple #[.l none 0 0,.i 1])) (Lf 77 [] λX1=>A3u 89 [.p X1,.s key1,.s val2,.i now3,.i life4] λX2 X3=>Aj (X3 != 0) (Q (.tuple #[.l none 0 0,.i X3])) (Gu 83 [.p s0,.s key1,.i now3] λX4=>Ad s0 λB5 O6=>wz 84 [.p (some ⟨B5,((O6+3)+2),none⟩)]<|A5 λS=>Ad s0 λB7 O8=>BZ B7 O8 λX9=>
 Ap true S<|DD 90 [.p X9,.s key1] λX10=>Ap true S<|Aj X10 (Ap true S<|W7 jn Q s0 key1 val2 now3 life4 X4 true) (Ad s0 λB34 O35=>EZ S B34 O35 λX36=>Ad s0 λB37 O38=>EZ S B37 (O38+2) λX39=>Cc 40 [.p X36] λX40=>Ap true S<|Cc 91 [.p X39] λX41=>W7 jn Q s0 key1 val2 now3 life4 X4 (decide (X40<X41)))))):=by kernel_rfl
theorem A0n:Au jn PR Aw Tryz.f54 [.p s0,.s key1,.i now2] Q=(Cc 82 [.p s0,.s key1,.i now2] λX1=>Aj (X1 != 0) (Q (.tuple #[.b false,.l none 0 0,.i X1])) (Gu 83 [.p s0,.s key1,.i now2] λX2=>Ad s0 λB3 O4=>BZ B3 O4 λX5=>DD 96 [.p X5,.s key1] λX6=>Aj X6 (wz 92 [.p s0,.i 3,.s key1]<|Q (.tuple #[.b X6,.l X2.a X2.n X2.c,.i 0])) (Q (.tuple #[.b X6,.l X2.a X2.n X2.c,.i 0])))):=by kernel_rfl
theorem Aek:ZM jn Q (us 5 ((.l gone5.a gone5.n gone5.c)::us 28 []))=(Q (.l gone5.a gone5.n gone5.c)):=by kernel_rfl
theorem QS{t20:Sl}{t21:Int}:W9 jn Q (m2+1) s0 now1 gone5 t20 t21 t22=(Aj (decide (t22<t21)) (CB t20.a t20.n t22 λB6 O7=>Ch B6 (O7+t22.toNat*1) λX8=>Gu 83 [.p s0,.s X8,.i now1] λX9=>AU 9 1 16 [.s Af] ⟨gone5.a,gone5.n,gone5.c⟩ X9.n (λw=>F9 w X9.a (X9.n*1)) λG10=>W9 jn Q m2 s0 now1 G10 t20 t21 (IntKind.wrap .i64 (t22+1))) (A59 jn Q gone5)):=by kernel_rfl
theorem Aej:ZL jn Q ((.p s0)::(.i now1)::us 32 [])=(Ad s0 λB2 O3=>BZ B2 O3 λX4=>Gu 98 [.p X4,.i now1] λX5=>DH λm=>W9 jn Q m s0 now1 ⟨none,0,0⟩ X5 (X5.n:Int) 0):=by kernel_rfl
theorem A0o:Au jn PR QR Tryz.f55 [.p s0,.i now1] Q=(Aj (Option.isNone s0) (Q (.l none 0 0)) (DD 97 [.i now1] λX1=>Aj (!X1) (Q (.l none 0 0)) (A58 jn Q s0 now1))):=by kernel_rfl
theorem A0p:Au jn PR Aw Tryz.f56 [.p s0] Q=(Aj (Option.isNone s0) (Q (.i 0)) (Cc 93 [.p s0] λX1=>Q (.i X1))):=by kernel_rfl
theorem A0q:Au jn PR Aw Tryz.f57 [.p s0] Q=(Aj (Option.isNone s0) (Q (.tuple #[.s Af,.b false])) (Cc 93 [.p s0] λX1=>Ad s0 λB2 O3=>BZ B2 (O3+2) λX4=>Fi 99 [.p X4] λX5 X6=>Aj X6 (Ad s0 λB7 O8=>wz 84 [.p (some ⟨B7,((O8+3)+5),none⟩)]<|Q (.tuple #[.s X5,.b X6])) (Q (.tuple #[.s X5,.b X6])))):=by kernel_rfl
theorem Aem{pick8:Int}:ZN jn Q ((.p c0)::us 7 ((.i pick8)::us 72 []))=(A5 λS=>Ad c0 λB48 O49=>Ez S B48 (O49+9) λX50=>Ad c0 λB51 O52=>Ay B51 (O52+1) λX53=>Ap true S<|Aj (decide (X50<X53)) (Q (.tuple #[.i pick8,.b false])) (Cc 62 [.p c0,.i pick8] λX54=>Q (.tuple #[.i pick8,.b true]))):=by kernel_rfl
theorem A0r{ghosts1_0 ghosts1_1 ghosts1_2 ghosts1_3 ghosts1_4 all2:Int}:Au jn PR Asf Tryz.f58 [.p c0,.agg #[.i ghosts1_0,.i ghosts1_1,.i ghosts1_2,.i ghosts1_3,.i ghosts1_4],.i all2] Q=(A1 [.i ghosts1_0,.i ghosts1_1,.i ghosts1_2,.i ghosts1_3,.i ghosts1_4] 100 λB1=>Aj (Option.isNone c0) (Q (.tuple #[.i 0,.b false])) (A5 λS=>Ad c0 λB2 O3=>wLu S B2 (O3+3) λX4=>wLu S B2 ((O3+3)+1) λX5=>wLu S B2 (((O3+3)+1)+1) λX6=>wLu S B2 ((((O3+3)+1)+1)+1) λX7=>wLu S B2 (((((O3+3)+1)+1)+1)+1) λX8=>
 Ay B1 0 λX9=>Ay B1 1 λX10=>Ay B1 2 λX11=>Ay B1 3 λX12=>Ay B1 4 λX13=>Ap true S<|λw=>Calls PR 100 #[.agg #[.int .u64 X4,.int .u64 X5,.int .u64 X6,.int .u64 X7,.int .u64 X8],.agg #[.i X9,.i X10,.i X11,.i X12,.i X13],.i all2] w λe w'=>∃X14:Int,∃X15:Int,∃X16:Int,∃X17:Int,∃X18:Int,e = .returned (.agg #[.int .u64 X14,.int .u64 X15,.int .u64 X16,.int .u64 X17,.int .u64 X18])/\(Ad c0 λB19 O20=>st B19 (O20+3) (.int .u64 X14)<|st B19 ((O20+3)+1) (.int .u64 X15)<|st B19 (((O20+3)+1)+1) (.int .u64 X16)<|st B19 ((((O20+3)+1)+1)+1) (.int .u64 X17)<|
 st B19 (((((O20+3)+1)+1)+1)+1) (.int .u64 X18)<|A5 λS=>Ad c0 λB21 O22=>wLu S B21 (O22+3) λX23=>wLu S B21 ((O22+3)+1) λX24=>wLu S B21 (((O22+3)+1)+1) λX25=>wLu S B21 ((((O22+3)+1)+1)+1) λX26=>wLu S B21 (((((O22+3)+1)+1)+1)+1) λX27=>Ad c0 λB28 O29=>BZ B28 (O29+2) λX30=>Ap true S<|call1 (.int .u32) PR 102 [.p X30] λ(X31:Int)=>Ap true S<|Cc 101 [.agg #[.int .u64 X23,.int .u64 X24,.int .u64 X25,.int .u64 X26,.int .u64 X27],.int .u32 X31] λX32=>Ad c0 λB33 O34=>Ay B33 O34 λX35=>Aj (X32==X35) (
 Ad c0 λB36 O37=>st B36 (O37+8) (.i X32)<|Ad c0 λB38 O39=>st B38 (O39+9) (.i 0)<|Q (.tuple #[.i X32,.b false])) (Ad c0 λB40 O41=>Ay B40 (O41+8) λX42=>Aj (X32==X42) (Ad c0 λB43 O44=>Ay B43 (O44+9) λX45=>Ad c0 λB46 O47=>st B46 (O47+9) (.i (IntKind.wrap .i64 (X45+1)))<|Ael jn Q c0 X32) (Ad c0 λB55 O56=>st B55 (O56+8) (.i X32)<|Ad c0 λB57 O58=>st B57 (O58+9) (.i 1)<|Ael jn Q c0 X32))) w')):=by kernel_rfl
theorem Aen:ZO jn Q (us 2 ((pq ghosts2b ghosts2o)::(.i all3)::us 25 []))=(Ay ghosts2b ghosts2o λX26=>Ay ghosts2b (ghosts2o+1) λX27=>Ay ghosts2b ((ghosts2o+1)+1) λX28=>Ay ghosts2b (((ghosts2o+1)+1)+1) λX29=>Ay ghosts2b ((((ghosts2o+1)+1)+1)+1) λX30=>st ghosts2b ghosts2o (.i X26)<|st ghosts2b (ghosts2o+1) (.i X27)<|st ghosts2b ((ghosts2o+1)+1) (.i X28)<|st ghosts2b (((ghosts2o+1)+1)+1) (.i X29)<|st ghosts2b ((((ghosts2o+1)+1)+1)+1) (.i X30)<|Ay ghosts2b ghosts2o λX31=>
 Ay ghosts2b (ghosts2o+1) λX32=>Ay ghosts2b ((ghosts2o+1)+1) λX33=>Ay ghosts2b (((ghosts2o+1)+1)+1) λX34=>Ay ghosts2b ((((ghosts2o+1)+1)+1)+1) λX35=>Q (.tuple #[.agg #[.i X31,.i X32,.i X33,.i X34,.i X35],.i all3])):=by kernel_rfl
theorem FG{t13_0 t13_1 t13_2 t13_3 t13_4:OA}{t14:Int}:Aeo jn Q (m1+1) ghosts2b ghosts2o all3 t13_0 t13_1 t13_2 t13_3 t13_4 t14=(Aj (decide (t14<5)) (Bw ((0:Int)<=t14/\t14<((5:Nat):Int))<|λw=>∃X19:OA,([.p t13_0,.p t13_1,.p t13_2,.p t13_3,.p t13_4]:List Value)[t14.toNat]? = some (.p X19)/\CV (.p X19)=false/\(λw=>Calls PR 103 #[.p X19] w λe w'=>∃X20:Int,∃X21:Int,∃X22:Int,e = .returned (.agg #[.i X20,.i X21,.i X22])/\(A1 [.i 0,.i 0,.i 0] 165 λB23=>st B23 0 (.i X20)<|st B23 1 (.i X21)<|
 st B23 2 (.i X22)<|A5 λS=>Ez S B23 2 λX24=>Ez S B23 0 λX25=>Bw ((0:Int)<=t14/\t14<((5:Nat):Int))<|st ghosts2b (ghosts2o+t14.toNat*1) (.i X24)<|Ap true S<|Aeo jn Q m1 ghosts2b ghosts2o X25 t13_0 t13_1 t13_2 t13_3 t13_4 (IntKind.wrap .i64 (t14+1))) w') w) (A6b jn Q ghosts2b ghosts2o all3)):=by kernel_rfl
theorem A0s:Au jn PR WA Tryz.f59 [.p p0] Q=(A1 [.i 0,.i 0,.i 0,.i 0,.i 0] 100 λB1=>Aj (Option.isNone p0) (Ay B1 0 λX2=>Ay B1 1 λX3=>Ay B1 2 λX4=>Ay B1 3 λX5=>Ay B1 4 λX6=>st B1 0 (.i X2)<|st B1 1 (.i X3)<|st B1 2 (.i X4)<|st B1 3 (.i X5)<|st B1 4 (.i X6)<|Ay B1 0 λX7=>Ay B1 1 λX8=>Ay B1 2 λX9=>Ay B1 3 λX10=>Ay B1 4 λX11=>Q (.tuple #[.agg #[.i X7,.i X8,.i X9,.i X10,.i X11],.i 0])) (
 Ad p0 λB12 O13=>BZ B12 (O13+2) λX14=>BZ B12 ((O13+2)+1) λX15=>BZ B12 (((O13+2)+1)+1) λX16=>BZ B12 ((((O13+2)+1)+1)+1) λX17=>BZ B12 (((((O13+2)+1)+1)+1)+1) λX18=>DH λm=>Aeo jn Q m B1 0 0 X14 X15 X16 X17 X18 0)):=by kernel_rfl
theorem QT{t9:Sl}{t11:Int}:WB jn Q (m1+1) kind1 t9 t10 t11=(Aj (decide (t11<t10)) (CB t9.a t9.n t11 λB4 O5=>BZ B4 (O5+t11.toNat*1) λX6=>Cc 104 [.p X6,.i kind1] λX7=>WB jn Q m1 kind1 t9 t10 (IntKind.wrap .i64 (t11+1))) (Q (.tuple #[]))):=by kernel_rfl
theorem A0t:Au jn PR Asg Tryz.f60 [.p c0,.i kind1] Q=(Ad c0 λB1 O2=>Bu B1 O2 λX3=>DH λm=>WB jn Q m kind1 X3 (X3.n:Int) 0):=by kernel_rfl
theorem A0u:Au jn PR Aw Tryz.f61 [.i kind0] Q=(Aj (kind0==0) (Q (.s A3e)) (Aj (kind0==1) (Q (.s Au5)) (Aj (kind0==2) (Q (.s A8c)) (Aj (kind0==3) (Q (.s Ab2)) (Aj (kind0==4) (Q (.s Agg)) (Q (.s Af))))))):=by kernel_rfl
theorem A0v:Au jn PR Aw Tryz.f62 [.p c0,.i kind1] Q=(Aj (Option.isNone c0) (Q (.i 1)) (DD 78 [.i kind1] λX1=>Aj (!X1) (Q (.i 4)) (Ad c0 λB2 O3=>st B2 O3 (.i kind1)<|Ad c0 λB4 O5=>st B4 (O5+8) (.i kind1)<|Ad c0 λB6 O7=>st B6 (O7+9) (.i 0)<|Q (.i 0)))):=by kernel_rfl
theorem Aep:ZP jn Q ((.p s0)::(.i room1)::us 24 [])=(Cc 93 [.p s0] λX2=>Ad s0 λB3 O4=>BZ B3 (O4+2) λX5=>Gu 105 [.p X5,.i room1] λX6=>wz 95 [.p s0,.l X6.a X6.n X6.c]<|Q (.tuple #[.l X6.a X6.n X6.c,.i 0])):=by kernel_rfl
theorem A0w:Au jn PR M3 Tryz.f63 [.p s0,.i room1] Q=(Aj (Option.isNone s0) (Q (.tuple #[.l none 0 0,.i 1])) (DD 74 [.i room1] λX1=>Aj (!X1) (Q (.tuple #[.l none 0 0,.i 1])) (A6c jn Q s0 room1))):=by kernel_rfl
theorem FH{t16:Int}:Aeq jn Q (m1+1) p0 t16=(Aj (decide (t16<5)) (A5 λS=>Ad p0 λB7 O8=>Ad p0 λB9 O10=>Ay B7 (O8+1) λX11=>Agl 107 [.i t16,.i X11] λX12 X13=>Bw ((0:Int)<=t16/\t16<((5:Nat):Int))<|st B9 ((O10+2)+t16.toNat*1) (.p X12)<|Aeq jn Q m1 p0 (IntKind.wrap .i64 (t16+1))) (Q (.tuple #[]))):=by kernel_rfl
theorem A0x:Au jn PR Ash Tryz.f64 [.p p0,.i room1] Q=(Aj (Option.isNone p0) (Q (.tuple #[])) (Ad p0 λB1 O2=>BZ B1 O2 λX3=>Cc 106 [.p X3,.i room1] λX4=>Ad p0 λB5 O6=>st B5 (O6+1) (.i X4)<|DH λm=>Aeq jn Q m p0 0)):=by kernel_rfl
theorem A0y:Au jn PR A6d Tryz.f65 [.p j0,.agg #[.i o1_0,.s o1_1,.s o1_2,.i o1_3],.agg #[.i r2_0,.b r2_1,.s r2_2,.l r2_3.a r2_3.n r2_3.c]] Q=(A1 [.i o1_0,.s o1_1,.s o1_2,.i o1_3] 41 λB1=>A1 [.i r2_0,.b r2_1,.s r2_2,.l r2_3.a r2_3.n r2_3.c] 38 λB2=>A5 λS=>Ad j0 λB3 O4=>EZ S B3 O4 λX5=>wLs S B1 1 λX6=>Ad j0 λB7 O8=>Ay B7 (O8+1) λX9=>Ap true S<|Fi 108 [.p X5,.s X6,.i X9] λX10 X11=>
 Ay B1 0 λX12=>Aj (X12==1) (HI B2 1 λX13=>Aj (X13==X11) (Ch B2 2 λX14=>Q (.b (Vr X14 X10))) (Q (.b false))) (Aj (X12==3) (HI B2 1 λX15=>Q (.b (X15==X11))) (Q (.b true)))):=by kernel_rfl
theorem Aes{may10:Bool}:ZR jn Q (us 2 ((.l l2.a l2.n l2.c)::us 7 ((.b may10)::us 79 [])))=(Aj ((l2.n:Int)==0) (Q (.b true)) (Q (.b may10))):=by kernel_rfl
theorem Aer:ZQ jn Q (us 2 ((.l l2.a l2.n l2.c)::us 1 ((pq o4b o4o)::us 85 [])))=(Ay o4b o4o λX24=>Aj (X24==1) (M5 jn Q l2 true) (Ay o4b o4o λX25=>Aj (X25==3) (M5 jn Q l2 true) (Ay o4b o4o λX26=>Aj (X26==4) (M5 jn Q l2 true) (Ay o4b o4o λX27=>Aj (X27==2) (M5 jn Q l2 true) (Ay o4b o4o λX28=>M5 jn Q l2 (X28==9)))))):=by kernel_rfl
theorem QV:M6 jn Q (m1+1) j0 l2 o4b o4o i7=(Aj (decide (i7<(l2.n:Int))) (A5 λS=>Ad j0 λB3 O4=>EZ S B3 O4 λX5=>CB l2.a l2.n i7 λB6 O7=>Ch B6 (O7+i7.toNat*1) λX8=>Ap true S<|DD 110 [.p X5,.s X8] λX9=>Aj (!X9) (Q (.b false)) (A5 λS=>Ad j0 λB10 O11=>EZ S B10 O11 λX12=>CB l2.a l2.n i7 λB13 O14=>wLs S B13 (O14+i7.toNat*1) λX15=>Ad j0 λB16 O17=>Ay B16 (O17+1) λX18=>Ap true S<|Fi 108 [.p X12,.s X15,.i X18] λX19 X20=>
 Aj X20 (Ay o4b o4o λX21=>Aj (X21==1) (Q (.b false)) (Ay o4b o4o λX22=>Aj (X22==3) (Q (.b false)) (Ay o4b o4o λX23=>Aj (X23==4) (Q (.b false)) (M6 jn Q m1 j0 l2 o4b o4o (IntKind.wrap .i64 (i7+1)))))) (M6 jn Q m1 j0 l2 o4b o4o (IntKind.wrap .i64 (i7+1))))) (A6f jn Q l2 o4b o4o)):=by kernel_rfl
theorem A0z:Au jn PR QU Tryz.f66 [.p j0,.agg #[.i o1_0,.s o1_1,.s o1_2,.i o1_3],.l l2.a l2.n l2.c] Q=(A1 [.i o1_0,.s o1_1,.s o1_2,.i o1_3] 41 λB1=>DD 109 [.l l2.a l2.n l2.c] λX2=>Aj X2 (Q (.b false)) (DH λm=>M6 jn Q m j0 l2 B1 0 0)):=by kernel_rfl
theorem A00:Au jn PR A6g Tryz.f67 [.p t0,.s key1] Q=(F0 111 [.p t0,.s key1] λX1 X2=>Aj X2 (A5 λS=>Ad t0 λB3 O4=>F5 S B3 O4 λX5=>Bw ((0:Int)<=X1/\X1<=(X5.c:Int))<|Ad t0 λB6 O7=>F5 S B6 O7 λX8=>Bw ((0:Int)<=(IntKind.wrap .i64 (X1+(1:Int)))/\(IntKind.wrap .i64 (X1+(1:Int)))<=(X8.n:Int))<|A1 [] 173 λB9=>Ap true S<|AU 173 3 40 [.s Af,.s Af,.i 0] ⟨(some ⟨B9,0,none⟩),0,0⟩ (X1.toNat-0) (λw=>F9 w (GC X5.a 0 X5.c 3) ((X1.toNat-0)*3)) λG10=>Ap true S<|AU 173 3 40 [.s Af,.s Af,.i 0] ⟨G10.a,G10.n,G10.c⟩ (X8.n-((IntKind.wrap .i64 (X1+(1:Int)))).toNat) (λw=>F9 w (GC X8.a (((IntKind.wrap .i64 (X1+(1:Int)))).toNat) X8.c 3) ((X8.n-((IntKind.wrap .i64 (X1+(1:Int)))).toNat)*3)) λG11=>
 Ad t0 λB12 O13=>st B12 O13 (.l G11.a G11.n G11.c)<|Q (.b X2)) (Q (.b X2))):=by kernel_rfl
theorem Aev{e12b e12o:Nat}:ZT jn Q ((.p t0)::(.s key1)::us 10 ((pq e12b e12o)::us 71 []))=(F0 111 [.p t0,.s key1] λX3 X4=>Aj X4 (A5 λS=>Ad t0 λB5 O6=>F5 S B5 O6 λX7=>Ch e12b e12o λX8=>Ch e12b (e12o+1) λX9=>Ay e12b ((e12o+1)+1) λX10=>Ap true S<|CB X7.a X7.n X3 λB11 O12=>st B11 (O12+X3.toNat*3) (.s X8)<|st B11 ((O12+X3.toNat*3)+1) (.s X9)<|st B11 (((O12+X3.toNat*3)+1)+1) (.i X10)<|Q (.tuple #[.b false,.i 0])) (A5 λS=>Ad t0 λB13 O14=>
 F5 S B13 O14 λX15=>Bw ((0:Int)<=X3/\X3<=(X15.c:Int))<|wLs S e12b e12o λX16=>wLs S e12b (e12o+1) λX17=>Ez S e12b ((e12o+1)+1) λX18=>SK [
 (A1 [] 173 λB19=>Ap true S<|SK [
 (AU 173 3 40 [.s Af,.s Af,.i 0] ⟨(some ⟨B19,0,none⟩),0,0⟩ (X3.toNat-0) (λw=>F9 w (GC X15.a 0 X15.c 3) ((X3.toNat-0)*3)) λG20=>Ap true S<|A1 [.s X16,.s X17,.i X18] 173 λB21=>Ap true S<|AU 173 3 40 [.s Af,.s Af,.i 0] ⟨G20.a,G20.n,G20.c⟩ 1 (λw=>F9 w (some ⟨B21,0,none⟩) (1*3)) λG22=>Ad t0 λB23 O24=>Bu B23 O24 λX25=>Bw ((0:Int)<=X3/\X3<=(X25.n:Int))<|AU 173 3 40 [.s Af,.s Af,.i 0] ⟨G22.a,G22.n,G22.c⟩ (X25.n-X3.toNat) (λw=>F9 w (GC X25.a (X3.toNat) X25.c 3) ((X25.n-X3.toNat)*3)) λG26=>Ad t0 λB27 O28=>
 st B27 O28 (.l G26.a G26.n G26.c)<|Q (.tuple #[.b true,.i 0])),
 (A1 [.s X16,.s X17,.i X18] 173 λB29=>Ap true S<|AU 173 3 40 [.s Af,.s Af,.i 0] ⟨(some ⟨B19,0,none⟩),0,0⟩ (X3.toNat-0) (λw=>F9 w (GC X15.a 0 X15.c 3) ((X3.toNat-0)*3)) λG30=>Ap true S<|AU 173 3 40 [.s Af,.s Af,.i 0] ⟨G30.a,G30.n,G30.c⟩ 1 (λw=>F9 w (some ⟨B29,0,none⟩) (1*3)) λG31=>Ad t0 λB32 O33=>Bu B32 O33 λX34=>Bw ((0:Int)<=X3/\X3<=(X34.n:Int))<|AU 173 3 40 [.s Af,.s Af,.i 0] ⟨G31.a,G31.n,G31.c⟩ (X34.n-X3.toNat) (λw=>F9 w (GC X34.a (X3.toNat) X34.c 3) ((X34.n-X3.toNat)*3)) λG35=>Ad t0 λB36 O37=>
 st B36 O37 (.l G35.a G35.n G35.c)<|Q (.tuple #[.b true,.i 0]))]),
 (A1 [.s X16,.s X17,.i X18] 173 λB38=>Ap true S<|A1 [] 173 λB39=>Ap true S<|AU 173 3 40 [.s Af,.s Af,.i 0] ⟨(some ⟨B39,0,none⟩),0,0⟩ (X3.toNat-0) (λw=>F9 w (GC X15.a 0 X15.c 3) ((X3.toNat-0)*3)) λG40=>Ap true S<|AU 173 3 40 [.s Af,.s Af,.i 0] ⟨G40.a,G40.n,G40.c⟩ 1 (λw=>F9 w (some ⟨B38,0,none⟩) (1*3)) λG41=>Ad t0 λB42 O43=>Bu B42 O43 λX44=>Bw ((0:Int)<=X3/\X3<=(X44.n:Int))<|AU 173 3 40 [.s Af,.s Af,.i 0] ⟨G41.a,G41.n,G41.c⟩ (X44.n-X3.toNat) (λw=>F9 w (GC X44.a (X3.toNat) X44.c 3) ((X44.n-X3.toNat)*3)) λG45=>
 Ad t0 λB46 O47=>st B46 O47 (.l G45.a G45.n G45.c)<|Q (.tuple #[.b true,.i 0]))])):=by kernel_rfl
theorem Aet:ZS jn Q ((.p t0)::(.s key1)::(.s val2)::(.i now3)::(.i life4)::us 79 [])=(A1 [.s Af,.s Af,.i 0] 173 λB2=>st B2 0 (.s key1)<|st B2 1 (.s val2)<|st B2 2 (.i 0)<|Aj (decide (life4>0)) (st B2 2 (.i (IntKind.wrap .i64 (now3+life4)))<|Aeu jn Q t0 key1 B2 0) (Aeu jn Q t0 key1 B2 0)):=by kernel_rfl
theorem A01:Au jn PR Aew Tryz.f68 [.p t0,.s key1,.s val2,.i now3,.i life4] Q=(DD 11 [.s key1] λX1=>Aj (!X1) (Q (.tuple #[.b false,.i 2])) (Aj (decide ((val2.size:Int)>64)) (Q (.tuple #[.b false,.i 3])) (Aj (decide (now3<0)) (Q (.tuple #[.b false,.i 1])) (Aj (decide (now3>1125899906842624)) (Q (.tuple #[.b false,.i 1])) (Aj (decide (life4<0)) (Q (.tuple #[.b false,.i 1])) (Aj (decide (life4>1099511627776)) (Q (.tuple #[.b false,.i 1])) (A6h jn Q t0 key1 val2 now3 life4))))))):=by kernel_rfl
theorem Aex:ZU jn Q ((.p j0)::us 46 [])=(A5 λS=>Ad j0 λB13 O14=>EZ S B13 O14 λX15=>Ad X15 λB16 O17=>F5 S B16 O17 λX18=>Ad j0 λB19 O20=>Ez S B19 (O20+2) λX21=>Ad j0 λB22 O23=>Ay B22 (O23+3) λX24=>Ap true S<|Q (.b (decide ((X18.n:Int)>(IntKind.wrap .i64 (X21*X24)))))):=by kernel_rfl
theorem A02:Au jn PR Asi Tryz.f69 [.p j0] Q=(Ad j0 λB1 O2=>Ay B1 (O2+2) λX3=>Aj (decide (X3<0)) (Q (.b false)) (Ad j0 λB4 O5=>Ay B4 (O5+3) λX6=>Aj (decide (X6<0)) (Q (.b false)) (Ad j0 λB7 O8=>Ay B7 (O8+2) λX9=>Aj (decide (X9>1048576)) (Q (.b false)) (Ad j0 λB10 O11=>Ay B10 (O11+3) λX12=>Aj (decide (X12>1048576)) (Q (.b false)) (A6i jn Q j0))))):=by kernel_rfl
theorem A03:Au jn PR Aw Tryz.f70 [.p x0] Q=(Aj (Option.isNone x0) (Q (.i 0)) (Ad x0 λB1 O2=>Ay B1 (O2+2) λX3=>Q (.i X3))):=by kernel_rfl
theorem Aey:ZV jn Q (us 3 ((.l l3.a l3.n l3.c)::us 25 []))=(wz 112 [.l l3.a l3.n l3.c]<|Q (.l l3.a l3.n l3.c)):=by kernel_rfl
theorem QX{t11:Sl}{t12 t13:Int}:QW jn Q (m1+1) l3 t11 t12 t13=(Aj (decide (t13<t12)) (CB t11.a t11.n t13 λB4 O5=>Ay B4 (O5+t13.toNat*4) λX6=>Ch B4 ((O5+t13.toNat*4)+1) λX7=>Ch B4 (((O5+t13.toNat*4)+1)+1) λX8=>Ay B4 ((((O5+t13.toNat*4)+1)+1)+1) λX9=>A1 [.i 0,.s Af,.s Af,.i 0] 178 λB10=>st B10 0 (.i X6)<|st B10 1 (.s X7)<|st B10 2 (.s X8)<|st B10 3 (.i X9)<|Ay B10 0 λX11=>Aj (X11==2) (Ch B10 1 λX12=>A1 [.s X12] 9 λB13=>AU 9 1 16 [.s Af] ⟨l3.a,l3.n,l3.c⟩ 1 (λw=>F9 w (some ⟨B13,0,none⟩) (1*1)) λG14=>
 QW jn Q m1 G14 t11 t12 (IntKind.wrap .i64 (t13+1))) (QW jn Q m1 l3 t11 t12 (IntKind.wrap .i64 (t13+1)))) (A6k jn Q l3)):=by kernel_rfl
theorem A04:Au jn PR WC Tryz.f71 [.p x0] Q=(Aj (Option.isNone x0) (Q (.l none 0 0)) (Ad x0 λB1 O2=>Bu B1 (O2+1) λX3=>DH λm=>QW jn Q m ⟨none,0,0⟩ X3 (X3.n:Int) 0)):=by kernel_rfl
theorem A05{n0 low1 high2:Int}:Au jn PR Aw Tryz.f72 [.i n0,.i low1,.i high2] Q=(Q (.i (if high2<(if low1>n0 then low1 else n0) then high2 else (if low1>n0 then low1 else n0)))):=by kernel_rfl
theorem A06:Au jn PR Aw Tryz.f73 [.i rate0] Q=(Cc 72 [.i rate0,.i 0,.i 16777216] λX1=>A1 [.i X1,.i 0,.i 0] 181 λB2=>Q (pq B2 0)):=by kernel_rfl
theorem A07:Au jn PR Aw Tryz.f74 [.i room0] Q=(Aj (decide (room0>=1)) (Q (.b (decide (room0<=1024)))) (Q (.b false))):=by kernel_rfl
end Go.Proofs.YtjipofkjmmpjdaaGreat
namespace Go.Proofs.YtjipofkjmmpjdaaGreat
open Go.Hb
section
variable(jn:Jn)(Q:VW)
def Asj:KP:=⟨[(8,[0,1])],[(3,[0,2,3,5,6,8,9])]⟩
def ZW:EW:=cE Tryz.f75 Asj jn Q [1,1] (rE Tryz.f75 Q) A6
def A6l(FN writes1:Int):WP:=jn 8 (ZW jn Q) ((.i FN)::(.i writes1)::us 26 [])
def WD:KP:=⟨[(9,[0,1,3]),(16,[0,1])],[]⟩
def A6m:EW:=sE Tryz.f79 WD jn Q [1,1,1] (rE Tryz.f79 Q) A6
def ZX:EW:=cE Tryz.f79 WD jn Q [1,1,1] (rE Tryz.f79 Q) A6
def A6n(t0b t0o w1b w1o:Nat):WP:=jn 16 (ZX jn Q) ((pq t0b t0o)::(pq w1b w1o)::us 9 [])
def WE(m1:Nat)(t0b t0o w1b w1o:Nat)(t3:Int):WP:=Dp PR WD jn (bE Tryz.f79 [1,1,0,1,0,0]) (A8 0 (A6m jn Q) A6) (rE Tryz.f79 Q) m1 ((pq t0b t0o)::(pq w1b w1o)::us 1 ((.i t3)::us 7 []))
def Asm:KP:=⟨[(10,[0,1])],[]⟩
def ZY:EW:=cE Tryz.f83 Asm jn Q [1,1] (rE Tryz.f83 Q) A6
def Asl(s0:OA)(key1:BA):WP:=jn 10 (ZY jn Q) ((.p s0)::(.s key1)::us 36 [])
def A6o:KP:=⟨[],[(4,[0,2,3,4,5,7])]⟩
def Ra:KP:=⟨[(12,[0,5,6,7]),(19,[0,5,43,44,45]),(26,[5])],[]⟩
def A6p:EW:=sE Tryz.f88 Ra jn Q [1,1,1,1,1,1,1] (rE Tryz.f88 Q) A6
def Aaa:EW:=cE Tryz.f88 Ra jn Q [1,1,1,1,1,1,1] (rE Tryz.f88 Q) A6
def A6q(hit5:Bool):WP:=jn 26 (Aaa jn Q) (us 5 ((.b hit5)::us 51 []))
def Ae4(m2:Nat)(s0:OA)(hit5:Bool)(t43:Sl)(t44 t45:Int):WP:=Dp PR Ra jn (bE Tryz.f88 [1,1,1,1,1,1,0,1,0,0]) (A8 0 (A6p jn Q) A6) (rE Tryz.f88 Q) m2 ((.p s0)::us 4 ((.b hit5)::us 37 ((.l t43.a t43.n t43.c)::(.i t44)::(.i t45)::us 11 [])))
def ZZ:EW:=cE Tryz.f88 Ra jn Q [1,1,1,1] (rE Tryz.f88 Q) A6
def Ae2(s0:OA)(hit5:Bool)(went6:Sl)(back7:Bool):WP:=jn 12 (ZZ jn Q) ((.p s0)::us 4 ((.b hit5)::(.l went6.a went6.n went6.c)::(.b back7)::us 49 []))
def Ae8:KP:=⟨[(20,[0,1,2,3,4]),(26,[0,1,12])],[(12,[0,1,2,3,4,7,8])]⟩
def Aac:EW:=cE Tryz.f89 Ae8 jn Q [1,1,1,1] (rE Tryz.f89 Q) A6
def Ae6(t0:OA)(key1:BA)(v12b v12o:Nat):WP:=jn 26 (Aac jn Q) ((.p t0)::(.s key1)::us 10 ((pq v12b v12o)::us 41 []))
def Aab:EW:=cE Tryz.f89 Ae8 jn Q [1,1] (rE Tryz.f89 Q) A6
def A6r(t0:OA)(key1 val2:BA)(now3 life4:Int):WP:=jn 20 (Aab jn Q) ((.p t0)::(.s key1)::(.s val2)::(.i now3)::(.i life4)::us 49 [])
def WF:KP:=⟨[(9,[0,3,11,12,13]),(16,[0,3])],[(5,[0,1,2,3,4])]⟩
def A6s:EW:=sE Tryz.f93 WF jn Q [1,1,1] (rE Tryz.f93 Q) A6
def Aad:EW:=cE Tryz.f93 WF jn Q [1,1,1] (rE Tryz.f93 Q) A6
def A6t(s0:OA)(l3:Sl):WP:=jn 16 (Aad jn Q) ((.p s0)::us 2 ((.l l3.a l3.n l3.c)::us 33 []))
def WG(m1:Nat)(s0:OA)(l3 t11:Sl)(t12 t13:Int):WP:=Dp PR WF jn (bE Tryz.f93 [1,1,0,1,0,0]) (A8 0 (A6s jn Q) A6) (rE Tryz.f93 Q) m1 ((.p s0)::us 2 ((.l l3.a l3.n l3.c)::us 7 ((.l t11.a t11.n t11.c)::(.i t12)::(.i t13)::us 23 [])))
def M7:KP:=⟨[(15,[0,1,5]),(16,[0,1,5]),(20,[0,1,5])],[(6,[0,2,3,4,5,6,7,8,10,11])]⟩
def Afa:EW:=sE Tryz.f94 M7 jn Q [1,1,1,1,1] (rE Tryz.f94 Q) A6
def A6u(m1:Nat):EW:=HZ PR M7 jn (bE Tryz.f94 [1,1,1,1,0,0,0]) (A8 0 (Afa jn Q) A6) (rE Tryz.f94 Q) m1
def Aae(m1:Nat):EW:=cE Tryz.f94 M7 jn Q [1,1,1,1,0,0,0,1] (A6u jn Q m1) (A8 0 (Afa jn Q) A6)
def Asn(m1:Nat)(m0:OA)(key1:BA)(gone5:Sl):WP:=jn 16 (Aae jn Q m1) ((.p m0)::(.s key1)::us 3 ((.l gone5.a gone5.n gone5.c)::us 45 []))
def Aaf:EW:=cE Tryz.f94 M7 jn Q [1,1,1,1,1] (rE Tryz.f94 Q) A6
def Rc(m0:OA)(key1:BA)(gone5:Sl):WP:=jn 20 (Aaf jn Q) ((.p m0)::(.s key1)::us 3 ((.l gone5.a gone5.n gone5.c)::us 45 []))
def WH(m1:Nat)(m0:OA)(key1:BA)(gone5:Sl):WP:=Dp PR M7 jn (bE Tryz.f94 [1,1,1,1,0,0,0]) (A8 0 (Afa jn Q) A6) (rE Tryz.f94 Q) m1 ((.p m0)::(.s key1)::us 3 ((.l gone5.a gone5.n gone5.c)::us 45 []))
def Aso:KP:=⟨[(5,[0,6,7,8])],[]⟩
def Rg(m1:Nat)(s0:OA)(t6:Sl)(t7 t8:Int):WP:=Dp PR Aso jn (bE Tryz.f95 [1,0,0]) (A8 0 (rE Tryz.f95 Q) A6) (rE Tryz.f95 Q) m1 ((.p s0)::us 5 ((.l t6.a t6.n t6.c)::(.i t7)::(.i t8)::us 15 []))
def WI:KP:=⟨[(9,[0,1,5,11,12,13]),(20,[5])],[]⟩
def A6v:EW:=sE Tryz.f98 WI jn Q [1,1,1] (rE Tryz.f98 Q) A6
def Aag:EW:=cE Tryz.f98 WI jn Q [1,1,1] (rE Tryz.f98 Q) A6
def A6w(l5:Sl):WP:=jn 20 (Aag jn Q) (us 5 ((.l l5.a l5.n l5.c)::us 29 []))
def Ri(m1:Nat)(t0:OA)(now1:Int)(l5 t11:Sl)(t12 t13:Int):WP:=Dp PR WI jn (bE Tryz.f98 [1,1,0,1,0,0]) (A8 0 (A6v jn Q) A6) (rE Tryz.f98 Q) m1 ((.p t0)::(.i now1)::us 3 ((.l l5.a l5.n l5.c)::us 5 ((.l t11.a t11.n t11.c)::(.i t12)::(.i t13)::us 21 [])))
def I1:KP:=⟨[(11,[2,3,4,6,14]),(18,[3,6]),(23,[3,6,8,32]),(30,[3,6])],[(6,[0,1,2,3,4,5,7,11])]⟩
def Av1:EW:=sE Tryz.f100 I1 jn Q [1,1,1] (rE Tryz.f100 Q) A6
def Ane:EW:=sE Tryz.f100 I1 jn Q [1,1,1,1,1] (rE Tryz.f100 Q) A6
def Tl:EW:=cE Tryz.f100 I1 jn Q [1,1,1,1,1] (rE Tryz.f100 Q) A6
def Av3(w3b w3o t6b t6o:Nat):WP:=jn 30 (Tl jn Q) (us 3 ((pq w3b w3o)::us 2 ((pq t6b t6o)::us 39 [])))
def OW(m3:Nat)(w3b w3o t6b t6o:Nat)(t8 t32:Int):WP:=Dp PR I1 jn (bE Tryz.f100 [1,1,1,1,0,1,0,0]) (A8 2 (Ane jn Q) A6) (rE Tryz.f100 Q) m3 (us 3 ((pq w3b w3o)::us 2 ((pq t6b t6o)::us 1 ((.int .u64 t8)::us 23 ((.i t32)::us 13 [])))))
def Tk:EW:=cE Tryz.f100 I1 jn Q [1,1,1] (rE Tryz.f100 Q) A6
def Av2(w3b w3o t6b t6o:Nat):WP:=jn 18 (Tk jn Q) (us 3 ((pq w3b w3o)::us 2 ((pq t6b t6o)::us 39 [])))
def OV(m1:Nat)(all2:Int)(w3b w3o ghosts4b ghosts4o t6b t6o:Nat)(t14:Int):WP:=Dp PR I1 jn (bE Tryz.f100 [1,1,0,1,0,0]) (A8 0 (Av1 jn Q) A6) (rE Tryz.f100 Q) m1 (us 2 ((.i all2)::(pq w3b w3o)::(pq ghosts4b ghosts4o)::us 1 ((pq t6b t6o)::us 7 ((.i t14)::us 31 []))))
def OX:KP:=⟨[(9,[1,5,8,9]),(20,[])],[]⟩
def Av4:EW:=sE Tryz.f101 OX jn Q [1,1,1] (rE Tryz.f101 Q) A6
def Tm:EW:=cE Tryz.f101 OX jn Q [1,1,1] (rE Tryz.f101 Q) A6
def Av5:WP:=jn 20 (Tm jn Q) (us 22 [])
def OY(m1:Nat)(draw1 sum5 t8_0 t8_1 t8_2 t8_3 t8_4 t9:Int):WP:=Dp PR OX jn (bE Tryz.f101 [1,1,0,1,0,0]) (A8 0 (Av4 jn Q) A6) (rE Tryz.f101 Q) m1 (us 1 ((.int .u32 draw1)::us 3 ((.int .u64 sum5)::us 2 ((.agg #[.int .u64 t8_0,.int .u64 t8_1,.int .u64 t8_2,.int .u64 t8_3,.int .u64 t8_4])::(.i t9)::us 12 []))))
def Av6:KP:=⟨[],[(4,[0,1,2,3,4,5,6,8,9]),(6,[0,1,2,3,4,5,6,8,9,11])]⟩
def OZ:KP:=⟨[(10,[0,1,8]),(16,[0,1])],[]⟩
def Agx:EW:=sE Tryz.f104 OZ jn Q [1,1] (rE Tryz.f104 Q) A6
def To:EW:=cE Tryz.f104 OZ jn Q [1,1] (rE Tryz.f104 Q) A6
def Av7(s0:OA)(kind1:Int):WP:=jn 16 (To jn Q) ((.p s0)::(.i kind1)::us 29 [])
def Tn:EW:=cE Tryz.f104 OZ jn Q [1,0,0,1,1,1] (Agx jn Q) (A8 0 (Agx jn Q) A6)
def Agy(s0:OA)(kind1:Int)(t8:Bool):WP:=jn 10 (Tn jn Q) ((.p s0)::(.i kind1)::us 6 ((.b t8)::us 22 []))
def Pa:KP:=⟨[(15,[0,5]),(20,[0,5])],[(6,[0,2,3,4,5,6]),(9,[0,1,2,3,4,5,6,7,8,9,10,11,15,16,17,18,19])]⟩
def Av8:EW:=sE Tryz.f105 Pa jn Q [1,1,1,1,1,1] (rE Tryz.f105 Q) A6
def Tp:EW:=cE Tryz.f105 Pa jn Q [1,1,1,1,1,1] (rE Tryz.f105 Q) A6
def Agz(m0:OA)(gone5:Sl):WP:=jn 20 (Tp jn Q) ((.p m0)::us 4 ((.l gone5.a gone5.n gone5.c)::us 48 []))
def Pb(m1:Nat)(m0:OA)(gone5:Sl):WP:=Dp PR Pa jn (bE Tryz.f105 [1,1,1,1,1,0,0,0]) (A8 0 (Av8 jn Q) A6) (rE Tryz.f105 Q) m1 ((.p m0)::us 4 ((.l gone5.a gone5.n gone5.c)::us 48 []))
def Av9:KP:=⟨[],[(3,[0,2,3,4,5,6,7,8,9])]⟩
def Ag0:KP:=⟨[(10,[0,8])],[]⟩
def Tq:EW:=cE Tryz.f108 Ag0 jn Q [1,1,1] (rE Tryz.f108 Q) A6
def Awa(t0:OA)(i8:Int):WP:=jn 10 (Tq jn Q) ((.p t0)::us 7 ((.i i8)::us 28 []))
def Hf:KP:=⟨[(7,[0,3]),(8,[0,3]),(13,[0,3,4]),(20,[])],[(7,[0,1,2,3,4,5,6,8])]⟩
def Lx:EW:=sE Tryz.f109 Hf jn Q [1,1] (rE Tryz.f109 Q) A6
def Ag1(m1:Nat):EW:=HZ PR Hf jn (bE Tryz.f109 [1,0,1,0,0]) (A8 0 (Lx jn Q) A6) (rE Tryz.f109 Q) m1
def Ag2(m1:Nat):EW:=sE Tryz.f109 Hf jn Q [1,0,1,0,0,1,1] (Ag1 jn Q m1) (A8 0 (Lx jn Q) A6)
def Awb(m1:Nat):Nat->EW:=A8 1 (Ag2 jn Q m1) (A8 0 (Lx jn Q) A6)
def Awc(m1:Nat):Nat->EW:=A8 2 (Ag2 jn Q m1) (Awb jn Q m1)
def Tr(m1:Nat):EW:=cE Tryz.f109 Hf jn Q [1,0,1,0,0,1,1] (Ag1 jn Q m1) (A8 0 (Lx jn Q) A6)
def Awd(m1:Nat)(l0:Sl)(i3:Int):WP:=jn 8 (Tr jn Q m1) ((.l l0.a l0.n l0.c)::us 2 ((.i i3)::us 21 []))
def Pd(m1 m2:Nat)(l0:Sl)(i3 k4:Int):WP:=Dp PR Hf jn (bE Tryz.f109 [1,0,1,0,0,1,0,0,1,0,0]) (Awc jn Q m1) (rE Tryz.f109 Q) m2 ((.l l0.a l0.n l0.c)::us 2 ((.i i3)::(.i k4)::us 20 []))
def Tt:EW:=cE Tryz.f109 Hf jn Q [1,1] (rE Tryz.f109 Q) A6
def Awe:WP:=jn 20 (Tt jn Q) (us 25 [])
def Pc(m1:Nat)(l0:Sl)(i3:Int):WP:=Dp PR Hf jn (bE Tryz.f109 [1,0,1,0,0]) (A8 0 (Lx jn Q) A6) (rE Tryz.f109 Q) m1 ((.l l0.a l0.n l0.c)::us 2 ((.i i3)::us 21 []))
def Pe:KP:=⟨[(7,[0,1,6]),(10,[0,1,6])],[(4,[0,1,2,3,4,6,7,8,9,10,11,13,14,15,17,18,19,20,21])]⟩
def Awg:EW:=sE Tryz.f111 Pe jn Q [1,1,1] (rE Tryz.f111 Q) A6
def Tu:EW:=cE Tryz.f111 Pe jn Q [1,1,1] (rE Tryz.f111 Q) A6
def Ag3(t0:OA)(key1:BA)(i6:Int):WP:=jn 10 (Tu jn Q) ((.p t0)::(.s key1)::us 4 ((.i i6)::us 41 []))
def Pf(m1:Nat)(t0:OA)(key1:BA)(i6:Int):WP:=Dp PR Pe jn (bE Tryz.f111 [1,1,0,0,0]) (A8 0 (Awg jn Q) A6) (rE Tryz.f111 Q) m1 ((.p t0)::(.s key1)::us 4 ((.i i6)::us 41 []))
def Pg:KP:=⟨[(9,[1,2,3,5]),(18,[1,2,3])],[(5,[0,1,2,3,4,6]),(8,[0,1,2,5,6,7])]⟩
def Awh:EW:=sE Tryz.f115 Pg jn Q [1,1,1] (rE Tryz.f115 Q) A6
def Tv:EW:=cE Tryz.f115 Pg jn Q [1,1,1] (rE Tryz.f115 Q) A6
def Ag4(w1b w1o t2b t2o:Nat)(best3:Int):WP:=jn 18 (Tv jn Q) (us 1 ((pq w1b w1o)::(pq t2b t2o)::(.i best3)::us 22 []))
def Ly(m1:Nat)(w1b w1o t2b t2o:Nat)(best3 t5:Int):WP:=Dp PR Pg jn (bE Tryz.f115 [1,1,0,1,0,0]) (A8 0 (Awh jn Q) A6) (rE Tryz.f115 Q) m1 (us 1 ((pq w1b w1o)::(pq t2b t2o)::(.i best3)::us 1 ((.i t5)::us 20 [])))
def Ph:KP:=⟨[(9,[1,5,14,15]),(16,[5])],[]⟩
def Awi:EW:=sE Tryz.f117 Ph jn Q [1,1,1] (rE Tryz.f117 Q) A6
def Tw:EW:=cE Tryz.f117 Ph jn Q [1,1,1] (rE Tryz.f117 Q) A6
def Awj(h5:Int):WP:=jn 16 (Tw jn Q) (us 5 ((.int .u64 h5)::us 22 []))
def Pi(m1:Nat)(s1:BA)(h5 t14 t15:Int):WP:=Dp PR Ph jn (bE Tryz.f117 [1,1,0,1,0,0]) (A8 0 (Awi jn Q) A6) (rE Tryz.f117 Q) m1 (us 1 ((.s s1)::us 3 ((.int .u64 h5)::us 8 ((.i t14)::(.i t15)::us 12 []))))
def Lz:KP:=⟨[(8,[0]),(11,[0,14,15]),(22,[])],[]⟩
def Awk:EW:=sE Tryz.f118 Lz jn Q [1,1,1] (rE Tryz.f118 Q) A6
def Ty:EW:=cE Tryz.f118 Lz jn Q [1,1,1] (rE Tryz.f118 Q) A6
def Awm:WP:=jn 22 (Ty jn Q) (us 49 [])
def CU(m2:Nat)(s0:BA)(t14 t15:Int):WP:=Dp PR Lz jn (bE Tryz.f118 [1,1,0,1,0,0]) (A8 0 (Awk jn Q) A6) (rE Tryz.f118 Q) m2 ((.s s0)::us 13 ((.i t14)::(.i t15)::us 33 []))
def Tx:EW:=cE Tryz.f118 Lz jn Q [1,1] (rE Tryz.f118 Q) A6
def Awl(s0:BA):WP:=jn 8 (Tx jn Q) ((.s s0)::us 48 [])
def EL:KP:=⟨[(12,[4])],[]⟩
def Tz:EW:=cE Tryz.f120 EL jn Q [1,1] (rE Tryz.f120 Q) A6
def Ag5(t4b t4o:Nat):WP:=jn 12 (Tz jn Q) (us 4 ((pq t4b t4o)::us 22 []))
def Ag6:KP:=⟨[(8,[0,2])],[]⟩
def T0:EW:=cE Tryz.f125 Ag6 jn Q [1,1] (rE Tryz.f125 Q) A6
def VK(c0:OA)(gone2:Bool):WP:=jn 8 (T0 jn Q) ((.p c0)::us 1 ((.b gone2)::us 29 []))
def Awo:KP:=⟨[],[(4,[0,1,2,3,4,5,6,7,9]),(5,[0,1,2,3,5,6,7,8,9]),(7,[0,1,2,3,4,5,6,10,11,12,13,14])]⟩
def JI:KP:=⟨[],[(5,[0,1,2,3,4,6,7]),(8,[0,1,2,3,4,5,6,7,9,10])]⟩
def Ag7:KP:=⟨[(8,[0,1,2])],[]⟩
def T3:EW:=cE Tryz.f128 Ag7 jn Q [1,1] (rE Tryz.f128 Q) A6
def VL(f0:OA)(kind1:Int)(key2:BA):WP:=jn 8 (T3 jn Q) ((.p f0)::(.i kind1)::(.s key2)::us 21 [])
def Pj:KP:=⟨[(13,[0,3,4]),(20,[3])],[]⟩
def Awp:EW:=sE Tryz.f129 Pj jn Q [1,1,1,1] (rE Tryz.f129 Q) A6
def T4:EW:=cE Tryz.f129 Pj jn Q [1,1,1,1] (rE Tryz.f129 Q) A6
def Awq(all3:Sl):WP:=jn 20 (T4 jn Q) (us 3 ((.l all3.a all3.n all3.c)::us 21 []))
def L0(m1:Nat)(f0:OA)(all3:Sl)(l4:OA):WP:=Dp PR Pj jn (bE Tryz.f129 [1,1,1,0,1,0,0]) (A8 0 (Awp jn Q) A6) (rE Tryz.f129 Q) m1 ((.p f0)::us 2 ((.l all3.a all3.n all3.c)::(.p l4)::us 20 []))
def Aws:KP:=⟨[],[(10,[0,1,2,3,4]),(12,[0,1,2,3,4])]⟩
def T5:EW:=cE Tryz.f132 M3 jn Q [1,1] (rE Tryz.f132 Q) A6
def Pk(m0:OA)(key1:BA):WP:=jn 8 (T5 jn Q) ((.p m0)::(.s key1)::us 28 [])
def Awt:KP:=⟨[],[(3,[0,2,3,4,5,7,8])]⟩
def Pm:KP:=⟨[(7,[1,5,6]),(16,[1])],[]⟩
def Awu:EW:=sE Tryz.f138 Pm jn Q [1,1] (rE Tryz.f138 Q) A6
def T6:EW:=cE Tryz.f138 Pm jn Q [1,1] (rE Tryz.f138 Q) A6
def Awv(w1b w1o:Nat):WP:=jn 16 (T6 jn Q) (us 1 ((pq w1b w1o)::us 17 []))
def Pn(m1:Nat)(w1b w1o:Nat)(t5_0 t5_1 t5_2 t5_3 t5_4 t6:Int):WP:=Dp PR Pm jn (bE Tryz.f138 [1,0,1,0,0]) (A8 0 (Awu jn Q) A6) (rE Tryz.f138 Q) m1 (us 1 ((pq w1b w1o)::us 3 ((.agg #[.int .u64 t5_0,.int .u64 t5_1,.int .u64 t5_2,.int .u64 t5_3,.int .u64 t5_4])::(.i t6)::us 12 [])))
def Po:KP:=⟨[(9,[3,5,6]),(14,[3])],[]⟩
def Awx:EW:=sE Tryz.f140 Po jn Q [1,1,1] (rE Tryz.f140 Q) A6
def T7:EW:=cE Tryz.f140 Po jn Q [1,1,1] (rE Tryz.f140 Q) A6
def Awy(x3:Int):WP:=jn 14 (T7 jn Q) (us 3 ((.int .u64 x3)::us 9 []))
def Pp(m1:Nat)(x3 t5 t6:Int):WP:=Dp PR Po jn (bE Tryz.f140 [1,1,0,1,0,0]) (A8 0 (Awx jn Q) A6) (rE Tryz.f140 Q) m1 (us 3 ((.int .u64 x3)::us 1 ((.i t5)::(.i t6)::us 6 [])))
def Pq:KP:=⟨[(9,[3,6,7]),(16,[3])],[]⟩
def Awz:EW:=sE Tryz.f142 Pq jn Q [1,1,1] (rE Tryz.f142 Q) A6
def T8:EW:=cE Tryz.f142 Pq jn Q [1,1,1] (rE Tryz.f142 Q) A6
def Aw0(sum3:Int):WP:=jn 16 (T8 jn Q) (us 3 ((.int .u64 sum3)::us 11 []))
def Pr(m1:Nat)(sum3 t6_0 t6_1 t6_2 t6_3 t6_4 t7:Int):WP:=Dp PR Pq jn (bE Tryz.f142 [1,1,0,1,0,0]) (A8 0 (Awz jn Q) A6) (rE Tryz.f142 Q) m1 (us 3 ((.int .u64 sum3)::us 2 ((.agg #[.int .u64 t6_0,.int .u64 t6_1,.int .u64 t6_2,.int .u64 t6_3,.int .u64 t6_4])::(.i t7)::us 7 [])))
def Pt:KP:=⟨[(7,[0,3]),(14,[3])],[]⟩
def Aw1:EW:=sE Tryz.f145 Pt jn Q [1,1,1] (rE Tryz.f145 Q) A6
def T9:EW:=cE Tryz.f145 Pt jn Q [1,1,1] (rE Tryz.f145 Q) A6
def Aw2(n3:Int):WP:=jn 14 (T9 jn Q) (us 3 ((.i n3)::us 13 []))
def JJ(m1:Nat)(m0:OA)(n3:Int):WP:=Dp PR Pt jn (bE Tryz.f145 [1,1,0,0,0]) (A8 0 (Aw1 jn Q) A6) (rE Tryz.f145 Q) m1 ((.p m0)::us 2 ((.i n3)::us 13 []))
def L1:KP:=⟨[(13,[8,21,22,23]),(20,[8])],[]⟩
def Ag8:EW:=sE Tryz.f146 L1 jn Q [1,1,1,1] (rE Tryz.f146 Q) A6
def Aw4(m1:Nat)(t21:Sl)(t22 t23:Int):WP:=Dp PR L1 jn (bE Tryz.f146 [1,1,1,0,1,0,0]) (A8 0 (Ag8 jn Q) A6) (rE Tryz.f146 Q) m1 (us 8 ((.nilIface)::us 12 ((.l t21.a t21.n t21.c)::(.i t22)::(.i t23)::us 8 [])))
def TA:EW:=cE Tryz.f146 L1 jn Q [1,1,1,1] (rE Tryz.f146 Q) A6
def Aw3(e8_t:TypeId)(e8_v:Value):WP:=jn 20 (TA jn Q) (us 8 ((.iface e8_t e8_v)::us 23 []))
def Pu(m3:Nat)(e8_t:TypeId)(e8_v:Value)(t21:Sl)(t22 t23:Int):WP:=Dp PR L1 jn (bE Tryz.f146 [1,1,1,0,1,0,0]) (A8 0 (Ag8 jn Q) A6) (rE Tryz.f146 Q) m3 (us 8 ((.iface e8_t e8_v)::us 12 ((.l t21.a t21.n t21.c)::(.i t22)::(.i t23)::us 8 [])))
def AI:KP:=⟨[(8,[0,1,6,7]),(11,[0,1,6,7]),(14,[0,1,6,7,8,35]),(18,[0,1,6,7,8,50]),(22,[0,1,6,7,8,61])],[(2,[0,1,2,3,4,6,7,8,9,10,12])]⟩
def Ag9(m1:Nat):EW:=HZ PR AI jn (bE Tryz.f158 [1,1,1,0,0]) (A8 0 (rE Tryz.f158 Q) A6) (rE Tryz.f158 Q) m1
def L2(m1:Nat):EW:=sE Tryz.f158 AI jn Q [1,1,1,0,0,1] (Ag9 jn Q m1) (A8 0 (rE Tryz.f158 Q) A6)
def Aw6(m1:Nat):Nat->EW:=A8 1 (L2 jn Q m1) (A8 0 (rE Tryz.f158 Q) A6)
def VO(m1:Nat):Nat->EW:=A8 2 (L2 jn Q m1) (Aw6 jn Q m1)
def TD(m1:Nat):EW:=cE Tryz.f158 AI jn Q [1,1,1,0,0,1] (Ag9 jn Q m1) (A8 0 (rE Tryz.f158 Q) A6)
def VR(m1:Nat)(x0:OA)(key1:BA)(free6 i7:Int):WP:=jn 8 (TD jn Q m1) ((.p x0)::(.s key1)::us 4 ((.i free6)::(.i i7)::us 71 []))
def TE(m1:Nat):EW:=cE Tryz.f158 AI jn Q [1,1,1,0,0,0,0,1,0,1,1,1,1,1] (L2 jn Q m1) (VO jn Q m1)
def VS(m1:Nat)(x0:OA)(key1:BA)(free6 i7:Int)(p8b p8o:Nat)(t61:Bool):WP:=jn 22 (TE jn Q m1) ((.p x0)::(.s key1)::us 4 ((.i free6)::(.i i7)::(pq p8b p8o)::us 52 ((.b t61)::us 17 [])))
def TC(m1:Nat):EW:=cE Tryz.f158 AI jn Q [1,1,1,0,0,0,0,1,0,1,1,1] (L2 jn Q m1) (VO jn Q m1)
def VQ(m1:Nat)(x0:OA)(key1:BA)(free6 i7:Int)(p8b p8o:Nat)(t50:Bool):WP:=jn 18 (TC jn Q m1) ((.p x0)::(.s key1)::us 4 ((.i free6)::(.i i7)::(pq p8b p8o)::us 41 ((.b t50)::us 28 [])))
def TB(m1:Nat):EW:=cE Tryz.f158 AI jn Q [1,1,1,0,0,0,0,1,0,1] (L2 jn Q m1) (VO jn Q m1)
def VP(m1:Nat)(x0:OA)(key1:BA)(free6 i7:Int)(p8b p8o:Nat)(t35:Bool):WP:=jn 14 (TB jn Q m1) ((.p x0)::(.s key1)::us 4 ((.i free6)::(.i i7)::(pq p8b p8o)::us 26 ((.b t35)::us 43 [])))
def Pv(m1:Nat)(x0:OA)(key1:BA)(free6 i7:Int):WP:=Dp PR AI jn (bE Tryz.f158 [1,1,1,0,0]) (A8 0 (rE Tryz.f158 Q) A6) (rE Tryz.f158 Q) m1 ((.p x0)::(.s key1)::us 4 ((.i free6)::(.i i7)::us 71 []))
def Aw8:KP:=⟨[],[(8,[0,1,2,3,4,5,6,7,9,10])]⟩
def EM:KP:=⟨[(8,[0,1,2,7])],[(3,[0,1,2,3,4,5,7,8])]⟩
def TF:EW:=cE Tryz.f166 EM jn Q [1,1] (rE Tryz.f166 Q) A6
def Aha(x0:OA)(i1:Int)(key2:BA)(v7b v7o:Nat):WP:=jn 8 (TF jn Q) ((.p x0)::(.i i1)::(.s key2)::us 4 ((pq v7b v7o)::us 32 []))
def Ec:KP:=⟨[(9,[0,28,29,30])],[]⟩
def L3(m1:Nat)(x0:OA)(t28:Sl)(t29 t30:Int):WP:=Dp PR Ec jn (bE Tryz.f167 [1,1,1,0,0]) (A8 0 (rE Tryz.f167 Q) A6) (rE Tryz.f167 Q) m1 ((.p x0)::us 27 ((.l t28.a t28.n t28.c)::(.i t29)::(.i t30)::us 21 []))
def L5:KP:=⟨[(8,[0,3,4,13]),(10,[0,3,13])],[(1,[0,1,2,4,5,6,8,9]),(2,[0,1,2,3,4,5,6,7,8,9,10,11,12,13,14,15,17,18,19])]⟩
def L4:EW:=sE Tryz.f168 L5 jn Q [1,1,1] (rE Tryz.f168 Q) A6
def Aw9:EW:=sE Tryz.f168 L5 jn Q [1,1,0,0,1] (L4 jn Q) (A8 0 (L4 jn Q) A6)
def TH:EW:=cE Tryz.f168 L5 jn Q [1,1,0,0,1] (L4 jn Q) (A8 0 (L4 jn Q) A6)
def Px(f0:OA)(r3 t13:Bool):WP:=jn 10 (TH jn Q) ((.p f0)::us 2 ((.b r3)::us 9 ((.b t13)::us 32 [])))
def TG:EW:=cE Tryz.f168 L5 jn Q [1,1,0,0,0,1] (Aw9 jn Q) (A8 0 (L4 jn Q) A6)
def Pw(f0:OA)(r3 w4 t13:Bool):WP:=jn 8 (TG jn Q) ((.p f0)::us 2 ((.b r3)::(.b w4)::us 8 ((.b t13)::us 32 [])))
def Dz:KP:=⟨[(9,[2,3,6,7]),(14,[2,3])],[(4,[0,1,5])]⟩
def Axd:EW:=sE Tryz.f184 Dz jn Q [1,1,1] (rE Tryz.f184 Q) A6
def Ajk:EW:=cE Tryz.f184 Dz jn Q [1,1,1] (rE Tryz.f184 Q) A6
def Axe(m1:Nat)(t2b t2o r3b r3o:Nat)(t6 t7:Int):WP:=Dp PR Dz jn (bE Tryz.f184 [1,1,0,1,0,0]) (A8 0 (Axd jn Q) A6) (rE Tryz.f184 Q) m1 (us 2 ((pq t2b t2o)::(pq r3b r3o)::us 2 ((.i t6)::(.i t7)::us 9 [])))
def Axf:EW:=sE Tryz.f186 Dz jn Q [1,1,1] (rE Tryz.f186 Q) A6
def Ajl:EW:=cE Tryz.f186 Dz jn Q [1,1,1] (rE Tryz.f186 Q) A6
def Axg(m1:Nat)(t2b t2o r3b r3o:Nat)(t6 t7:Int):WP:=Dp PR Dz jn (bE Tryz.f186 [1,1,0,1,0,0]) (A8 0 (Axf jn Q) A6) (rE Tryz.f186 Q) m1 (us 2 ((pq t2b t2o)::(pq r3b r3o)::us 2 ((.i t6)::(.i t7)::us 9 [])))
def Axh:EW:=sE Tryz.f187 Dz jn Q [1,1,1] (rE Tryz.f187 Q) A6
def Ajm:EW:=cE Tryz.f187 Dz jn Q [1,1,1] (rE Tryz.f187 Q) A6
def Axi(m1:Nat)(t2b t2o r3b r3o:Nat)(t6 t7:Int):WP:=Dp PR Dz jn (bE Tryz.f187 [1,1,0,1,0,0]) (A8 0 (Axh jn Q) A6) (rE Tryz.f187 Q) m1 (us 2 ((pq t2b t2o)::(pq r3b r3o)::us 2 ((.i t6)::(.i t7)::us 9 [])))
def Hg:KP:=⟨[(7,[0,3]),(10,[3])],[]⟩
def Axj:EW:=sE Tryz.f188 Hg jn Q [1,1,1] (rE Tryz.f188 Q) A6
def TI:EW:=cE Tryz.f188 Hg jn Q [1,1,1] (rE Tryz.f188 Q) A6
def Axk(n3:Int):WP:=jn 10 (TI jn Q) (us 3 ((.i n3)::us 13 []))
def Py(m1:Nat)(room0 n3:Int):WP:=Dp PR Hg jn (bE Tryz.f188 [1,1,0,0,0]) (A8 0 (Axj jn Q) A6) (rE Tryz.f188 Q) m1 ((.i room0)::us 2 ((.i n3)::us 13 []))
end
variable{jn:Jn}{Q:VW}{key1 key2 val2 s1:BA}{m1 w1b w1o w3b w3o t6b t6o m2 p8b p8o t0b t0o m3 t2b t2o:Nat}{m0 s0 t0 x0 f0 l0 g0 c0:OA}{room0 kind1 kind0 room1 w0_0 w0_1 w0_2 w0_3 w0_4 free6 i7 now2 now1 seed0 n3 t14 i3 FN writes1 n1 now3 life4 t12 t13 t7 t8 all2 draw1 i6 best3 t5 h0 h5 t15 t6 a0 x3 sum3 h1 i1:Int}{gone5 l3 t11 l5 all3:Sl}{hit5 gone2 r3:Bool}{e8_t:TypeId}{e8_v:Value}
theorem Aez:ZW jn Q ((.i FN)::(.i writes1)::us 26 [])=(A5 λS=>SK [
 (Alb PR 182 (.i FN) λB1=>Alb PR 182 (.i writes1) λB2=>A1 [.chan (some B1),.i 0,.s Af,.i 0,.b false,.chan (some B2),.i 0,.s Af,.i 0,.b false,.i 0,.i 0] 188 λB3=>Q (.tuple #[pq B3 0,.i 0])),
 (Alb PR 182 (.i writes1) λB4=>Alb PR 182 (.i FN) λB5=>A1 [.chan (some B5),.i 0,.s Af,.i 0,.b false,.chan (some B4),.i 0,.s Af,.i 0,.b false,.i 0,.i 0] 188 λB6=>Q (.tuple #[pq B6 0,.i 0]))]):=by kernel_rfl
theorem A08:Au jn PR Asj Tryz.f75 [.i FN,.i writes1] Q=(Aj (decide (FN<0)) (Q (.tuple #[.p none,.i 1])) (Aj (decide (FN>256)) (Q (.tuple #[.p none,.i 1])) (Aj (decide (writes1<1)) (Q (.tuple #[.p none,.i 1])) (Aj (decide (writes1>256)) (Q (.tuple #[.p none,.i 1])) (A6l jn Q FN writes1))))):=by kernel_rfl
theorem A09:Au jn PR Aw Tryz.f76 [.i kind0,.i room1] Q=(Q1 (.int .i64) PR 113 [.i kind0,.i room1] (λ(X1:Int)=>Aj (X1 != 0) (Q (.tuple #[.p none,.i X1])) (Dr)) λ(t_2:TypeId)(v_3:Value)(X1:Int)=>Aj (X1 != 0) (Q (.tuple #[.p none,.i X1])) (
 F8 PR t_2 v_3 "Room" fun f_4 r_5 =>Cc f_4 [r_5] fun X6=>A1 [.i kind0,.i X6,.iface t_2 v_3,.nilIface] 124 fun B7=>Q (.tuple #[pq B7 0,.i 0]))):=by kernel_rfl
theorem A1a:Au jn PR Aw Tryz.f77 [] Q=(Lf 114 [.int .u64 0] λX1=>A1 [.p X1] 118 λB2=>Q (pq B2 0)):=by kernel_rfl
theorem A1b:Au jn PR Aw Tryz.f78 [.i kind0] Q=(Aj (decide (kind0>=0)) (Q (.b (decide (kind0<5)))) (Q (.b false))):=by kernel_rfl
theorem Ae0:ZX jn Q ((pq t0b t0o)::(pq w1b w1o)::us 9 [])=(Ef w1b w1o λX3=>Ef w1b (w1o+1) λX4=>Ef w1b ((w1o+1)+1) λX5=>Ef w1b (((w1o+1)+1)+1) λX6=>Ef w1b ((((w1o+1)+1)+1)+1) λX7=>λw=>Calls PR 115 #[.agg #[.int .u64 X3,.int .u64 X4,.int .u64 X5,.int .u64 X6,.int .u64 X7]] w λe w'=>∃X8:Int,∃X9:Int,∃X10:Int,∃X11:Int,∃X12:Int,e = .returned (.agg #[.int .u64 X8,.int .u64 X9,.int .u64 X10,.int .u64 X11,.int .u64 X12])/\(st t0b t0o (.int .u64 X8)<|st t0b (t0o+1) (.int .u64 X9)<|st t0b ((t0o+1)+1) (.int .u64 X10)<|
 st t0b (((t0o+1)+1)+1) (.int .u64 X11)<|st t0b ((((t0o+1)+1)+1)+1) (.int .u64 X12)<|Ef t0b t0o λX13=>Ef t0b (t0o+1) λX14=>Ef t0b ((t0o+1)+1) λX15=>Ef t0b (((t0o+1)+1)+1) λX16=>Ef t0b ((((t0o+1)+1)+1)+1) λX17=>Q (.agg #[.int .u64 X13,.int .u64 X14,.int .u64 X15,.int .u64 X16,.int .u64 X17])) w'):=by kernel_rfl
theorem QY{t3:Int}:WE jn Q (m1+1) t0b t0o w1b w1o t3=(Aj (decide (t3<5)) (Bw ((0:Int)<=t3/\t3<((5:Nat):Int))<|st w1b (w1o+t3.toNat*1) (.int .u64 858993459)<|WE jn Q m1 t0b t0o w1b w1o (IntKind.wrap .i64 (t3+1))) (A6n jn Q t0b t0o w1b w1o)):=by kernel_rfl
theorem A1c:Au jn PR WD Tryz.f79 [] Q=(A1 [.int .u64 0,.int .u64 0,.int .u64 0,.int .u64 0,.int .u64 0] 140 λB1=>A1 [.int .u64 0,.int .u64 0,.int .u64 0,.int .u64 0,.int .u64 0] 140 λB2=>DH λm=>WE jn Q m B1 0 B2 0 0):=by kernel_rfl
theorem A1d{s0:Sl}:Au jn PR Aw Tryz.f80 [.l s0.a s0.n s0.c] Q=(Aj (Option.isNone s0.a) (Q (.l none 0 0)) (A1 [] 145 λB1=>AU 145 1 4 [.int .u32 0] ⟨(some ⟨B1,0,none⟩),0,0⟩ s0.n (λw=>F9 w s0.a (s0.n*1)) λG2=>Q (.l G2.a G2.n G2.c))):=by kernel_rfl
theorem A1e{key0:BA}:Au jn PR Aw Tryz.f81 [.s key0,.i n1] Q=(wcu 117 [.int .u64 31,.s key0] λX1=>Cc 72 [.i n1,.i 1,.i 8] λX2=>Cc 116 [.int .u64 X1,.i X2] λX3=>Q (.i X3)):=by kernel_rfl
theorem A1f:Au jn PR Aw Tryz.f82 [.p s0,.s key1,.i now2] Q=(Aj (Option.isNone s0) (Q (.i 1)) (DD 118 [.s key1] λX1=>Aj (!X1) (Q (.i 2)) (DD 97 [.i now2] λX2=>Aj (!X2) (Q (.i 1)) (Q (.i 0))))):=by kernel_rfl
theorem Ae1:ZY jn Q ((.p s0)::(.s key1)::us 36 [])=(A1 [.s key1] 9 λB10=>wz 95 [.p s0,.l (some ⟨B10,0,none⟩) 1 1]<|wz 92 [.p s0,.i 3,.s key1]<|A1 [.s key1] 9 λB11=>Q (.l (some ⟨B11,0,none⟩) 1 1)):=by kernel_rfl
theorem A1g:Au jn PR Asm Tryz.f83 [.p s0,.s key1,.i now2] Q=(Ad s0 λB1 O2=>BZ B1 O2 λX3=>Fi 85 [.p X3,.s key1,.i now2] λX4 X5=>Aj X5 (Q (.l none 0 0)) (Ad s0 λB6 O7=>BZ B6 O7 λX8=>DD 90 [.p X8,.s key1] λX9=>Aj (!X9) (Q (.l none 0 0)) (Asl jn Q s0 key1))):=by kernel_rfl
theorem A1h{n0:OA}:Au jn PR Aw Tryz.f84 [.p n0] Q=(Ad n0 λB1 O2=>Ay B1 O2 λX3=>Cc 119 [.i X3,.i 1099511627776] λX4=>Ad n0 λB5 O6=>st B5 O6 (.i X4)<|Q (.tuple #[])):=by kernel_rfl
theorem A1i:Au jn PR Aw Tryz.f85 [.p t0,.s key1,.i now2] Q=(Aj (Option.isNone t0) (Q (.tuple #[.s Af,.b false])) (Ad t0 λB1 O2=>BZ B1 O2 λX3=>λw=>Calls PR 120 #[.p X3,.s key1] w λe w'=>∃X4:BA,∃X5:Int,∃X6:Bool,e = .returned (.tuple #[.agg #[.s X4,.i X5],.b X6])/\(A1 [.s Af,.i 0] 120 λB7=>st B7 0 (.s X4)<|st B7 1 (.i X5)<|Aj (!X6) (Q (.tuple #[.s Af,.b false])) (Ch B7 0 λX8=>Ay B7 1 λX9=>DD 121 [.agg #[.s X8,.i X9],.i now2] λX10=>
 Aj X10 (Q (.tuple #[.s Af,.b false])) (Ch B7 0 λX11=>Q (.tuple #[.s X11,.b true])))) w')):=by kernel_rfl
theorem A1j:Au jn PR Aw Tryz.f86 [.p f0,.s key1] Q=(Aj (Option.isNone f0) (Q (.b false)) (Ad f0 λB1 O2=>DD 122 [.p f0,pq B1 O2,.i 1,.s key1] λX3=>Aj (!X3) (Ad f0 λB4 O5=>Ay B4 (O5+11) λX6=>Ad f0 λB7 O8=>st B7 (O8+11) (.i (IntKind.wrap .i64 (X6+1)))<|Q (.b X3)) (Q (.b X3)))):=by kernel_rfl
theorem A1k:Au jn PR A6o Tryz.f87 [.p s0,.s key1] Q=(Aj (Option.isNone s0) (Q (.b false)) (Ad s0 λB1 O2=>Ay B1 (O2+1) λX3=>Cc 119 [.i X3,.i 1099511627776] λX4=>Ad s0 λB5 O6=>st B5 (O6+1) (.i X4)<|A5 λS=>Ad s0 λB7 O8=>Ez S B7 O8 λX9=>wcu 117 [.int .u64 21,.s key1] λX10=>Ap true S<|DD 123 [.int .u64 X10,.i X9] λX11=>Aj (!X11) (Q (.b false)) (Ad s0 λB12 O13=>Ay B12 (O13+2) λX14=>Cc 119 [.i X14,.i 1099511627776] λX15=>
 Ad s0 λB16 O17=>st B16 (O17+2) (.i X15)<|Q (.b true)))):=by kernel_rfl
theorem QZ:Aaa jn Q (us 5 ((.b hit5)::us 51 []))=(Q (.b hit5)):=by kernel_rfl
theorem KC{t43:Sl}{t44 t45:Int}:Ae4 jn Q (m2+1) s0 hit5 t43 t44 t45=(Aj (decide (t45<t44)) (CB t43.a t43.n t45 λB17 O18=>Ch B17 (O18+t45.toNat*1) λX19=>Ad s0 λB20 O21=>BZ B20 (O21+2) λX22=>Fi 126 [.p X22,.s X19] λX23 X24=>Ae4 jn Q m2 s0 hit5 t43 t44 (IntKind.wrap .i64 (t45+1))) (A6q jn Q hit5)):=by kernel_rfl
theorem Ae3{went6:Sl}{back7:Bool}:ZZ jn Q ((.p s0)::us 4 ((.b hit5)::(.l went6.a went6.n went6.c)::(.b back7)::us 49 []))=(Ad s0 λB13 O14=>wz 125 [.p (some ⟨B13,(O14+3),none⟩),.b hit5,.b back7]<|Ad s0 λB15 O16=>wz 125 [.p (some ⟨B15,(O16+6),none⟩),.b hit5,.b back7]<|DH λm=>Ae4 jn Q m s0 hit5 went6 (went6.n:Int) 0):=by kernel_rfl
theorem A1l:Au jn PR Ra Tryz.f88 [.p s0,.s key1] Q=(Aj (Option.isNone s0) (Q (.b false)) (Ad s0 λB1 O2=>Ot B1 (O2+1) (Dr) λ(t_3:TypeId)(v_4:Value)=>
 F8 PR t_3 v_4 "Access" fun f_5 r_6 =>A8k f_5 [r_6,.s key1] fun X7 X8=>Aj (!X7) (Ad s0 fun B9 O10=>BZ B9 (O10+2) fun X11=>DD 124 [.p X11,.s key1] fun X12=>Ae2 jn Q s0 X7 X8 X12) (Ae2 jn Q s0 X7 X8 false))):=by kernel_rfl
theorem Ae7{v12b v12o:Nat}:Aac jn Q ((.p t0)::(.s key1)::us 10 ((pq v12b v12o)::us 41 []))=(A5 λS=>Ad t0 λB3 O4=>EZ S B3 O4 λX5=>Ch v12b v12o λX6=>Ay v12b (v12o+1) λX7=>Ap true S<|DD 127 [.p X5,.s key1,.agg #[.s X6,.i X7]] λX8=>Q (.tuple #[.b X8,.i 0])):=by kernel_rfl
theorem Ae5:Aab jn Q ((.p t0)::(.s key1)::(.s val2)::(.i now3)::(.i life4)::us 49 [])=(A1 [.s Af,.i 0] 120 λB2=>st B2 0 (.s val2)<|st B2 1 (.i 0)<|Aj (decide (life4>0)) (st B2 1 (.i (IntKind.wrap .i64 (now3+life4)))<|Ae6 jn Q t0 key1 B2 0) (Ae6 jn Q t0 key1 B2 0)):=by kernel_rfl
theorem A1m:Au jn PR Ae8 Tryz.f89 [.p t0,.s key1,.s val2,.i now3,.i life4] Q=(Aj (Option.isNone t0) (Q (.tuple #[.b false,.i 1])) (DD 118 [.s key1] λX1=>Aj (!X1) (Q (.tuple #[.b false,.i 2])) (Aj (decide ((val2.size:Int)>64)) (Q (.tuple #[.b false,.i 3])) (Aj (decide (now3<0)) (Q (.tuple #[.b false,.i 1])) (Aj (decide (now3>1125899906842624)) (Q (.tuple #[.b false,.i 1])) (Aj (decide (life4<0)) (Q (.tuple #[.b false,.i 1])) (Aj (decide (life4>1099511627776)) (Q (.tuple #[.b false,.i 1])) (
 A6r jn Q t0 key1 val2 now3 life4)))))))):=by kernel_rfl
theorem A1n:Au jn PR Aw Tryz.f90 [.p t0,.s key1] Q=(Aj (Option.isNone t0) (Q (.b false)) (Ad t0 λB1 O2=>BZ B1 O2 λX3=>λw=>Calls PR 120 #[.p X3,.s key1] w λe w'=>∃X4:BA,∃X5:Int,∃X6:Bool,e = .returned (.tuple #[.agg #[.s X4,.i X5],.b X6])/\(A1 [.s Af,.i 0] 120 λB7=>st B7 0 (.s X4)<|st B7 1 (.i X5)<|Q (.b X6)) w')):=by kernel_rfl
theorem A1o:Au jn PR Aw Tryz.f91 [.p m0] Q=(Aj (Option.isNone m0) (Q (.i 0)) (Ad m0 λB1 O2=>Ay B1 (O2+1) λX3=>Q (.i X3))):=by kernel_rfl
theorem A1p:Au jn PR Aw Tryz.f92 [.p s0,.i kind1,.s key2] Q=(Ad s0 λB1 O2=>BZ B1 (O2+1) λX3=>DD 128 [.p X3,.i kind1,.s key2] λX4=>Aj (!X4) (Cc 93 [.p s0] λX5=>Ad s0 λB6 O7=>BZ B6 (O7+1) λX8=>DD 128 [.p X8,.i kind1,.s key2] λX9=>Q (.tuple #[])) (Q (.tuple #[]))):=by kernel_rfl
theorem Ae9:Aad jn Q ((.p s0)::us 2 ((.l l3.a l3.n l3.c)::us 33 []))=(Ad s0 λB16 O17=>Bu B16 (O17+9) λX18=>AU 159 2 24 [.i 0,.s Af] ⟨X18.a,X18.n,X18.c⟩ l3.n (λw=>F9 w l3.a (l3.n*2)) λG19=>Ad s0 λB20 O21=>st B20 (O21+9) (.l G19.a G19.n G19.c)<|Q (.i (l3.n:Int))):=by kernel_rfl
theorem Rb:WG jn Q (m1+1) s0 l3 t11 t12 t13=(Aj (decide (t13<t12)) (CB t11.a t11.n t13 λB5 O6=>Ay B5 (O6+t13.toNat*2) λX7=>Ch B5 ((O6+t13.toNat*2)+1) λX8=>A1 [.i 0,.s Af] 159 λB9=>st B9 0 (.i X7)<|st B9 1 (.s X8)<|A5 λS=>Ad s0 λB10 O11=>EZ S B10 (O11+2) λX12=>Ay B9 0 λX13=>Ch B9 1 λX14=>Ap true S<|Gu 130 [.p X12,.agg #[.i X13,.s X14]] λX15=>wz 95 [.p s0,.l X15.a X15.n X15.c]<|WG jn Q m1 s0 l3 t11 t12 (IntKind.wrap .i64 (t13+1))) (
 A6t jn Q s0 l3)):=by kernel_rfl
theorem A1q:Au jn PR WF Tryz.f93 [.p s0] Q=(Ad s0 λB1 O2=>BZ B1 (O2+1) λX3=>Gu 129 [.p X3] λX4=>DH λm=>WG jn Q m s0 X4 X4 (X4.n:Int) 0):=by kernel_rfl
theorem Afb:Aae jn Q m1 ((.p m0)::(.s key1)::us 3 ((.l gone5.a gone5.n gone5.c)::us 45 []))=(Fi 135 [.p m0] λX8 X9=>A1 [.s X8] 9 λB10=>AU 9 1 16 [.s Af] ⟨gone5.a,gone5.n,gone5.c⟩ 1 (λw=>F9 w (some ⟨B10,0,none⟩) (1*1)) λG11=>WH jn Q m1 m0 key1 G11):=by kernel_rfl
theorem Re:Aaf jn Q ((.p m0)::(.s key1)::us 3 ((.l gone5.a gone5.n gone5.c)::us 45 []))=(Ad m0 λB12 O13=>Ot B12 (O13+2) (Dr) λ(t_14:TypeId)(v_15:Value)=>
 F8 PR t_14 v_15 "Access" fun f_16 r_17 =>A8k f_16 [r_17,.s key1] fun X18 X19=>AU 9 1 16 [.s Af] ⟨gone5.a,gone5.n,gone5.c⟩ X19.n (fun w=>F9 w X19.a (X19.n*1)) fun G20=>Q (.l G20.a G20.n G20.c)):=by kernel_rfl
theorem Rf:WH jn Q (m1+1) m0 key1 gone5=(A5 λS=>Ad m0 λB3 O4=>Ez S B3 (O4+1) λX5=>Cc 133 [.p m0] λX6=>Ap true S<|Aj (decide (X6>=X5)) (Cc 134 [.p m0] λX7=>Aj (decide (X7>0)) (Asn jn Q m1 m0 key1 gone5) (Rc jn Q m0 key1 gone5)) (Rc jn Q m0 key1 gone5)):=by kernel_rfl
theorem A1r:Au jn PR M7 Tryz.f94 [.p m0,.s key1] Q=(Aj (Option.isNone m0) (Q (.l none 0 0)) (DD 131 [.p m0,.s key1] λX1=>Aj X1 (Gu 132 [.p m0,.s key1] λX2=>Q (.l X2.a X2.n X2.c)) (DH λm=>WH jn Q m m0 key1 ⟨none,0,0⟩))):=by kernel_rfl
theorem Rh{t6:Sl}:Rg jn Q (m1+1) s0 t6 t7 t8=(Aj (decide (t8<t7)) (CB t6.a t6.n t8 λB1 O2=>Ch B1 (O2+t8.toNat*1) λX3=>Ad s0 λB4 O5=>BZ B4 O5 λX6=>DD 96 [.p X6,.s X3] λX7=>Aj X7 (Ad s0 λB8 O9=>wz 84 [.p (some ⟨B8,((O9+3)+3),none⟩)]<|Rg jn Q m1 s0 t6 t7 (IntKind.wrap .i64 (t8+1))) (Rg jn Q m1 s0 t6 t7 (IntKind.wrap .i64 (t8+1)))) (Q (.tuple #[]))):=by kernel_rfl
theorem A1s{keys1:Sl}:Au jn PR Aso Tryz.f95 [.p s0,.l keys1.a keys1.n keys1.c] Q=(DH λm=>Rg jn Q m s0 keys1 (keys1.n:Int) 0):=by kernel_rfl
theorem A1t:Au jn PR Aw Tryz.f96 [.p t0,.s key1] Q=(Aj (Option.isNone t0) (Q (.b false)) (Ad t0 λB1 O2=>BZ B1 O2 λX3=>λw=>Calls PR 136 #[.p X3,.s key1] w λe w'=>∃X4:BA,∃X5:Int,∃X6:Bool,e = .returned (.tuple #[.agg #[.s X4,.i X5],.b X6])/\(A1 [.s Af,.i 0] 120 λB7=>st B7 0 (.s X4)<|st B7 1 (.i X5)<|Q (.b X6)) w')):=by kernel_rfl
theorem A1u{now0:Int}:Au jn PR Aw Tryz.f97 [.i now0] Q=(Aj (decide (now0>=0)) (Q (.b (decide (now0<=1125899906842624)))) (Q (.b false))):=by kernel_rfl
theorem Afc:Aag jn Q (us 5 ((.l l5.a l5.n l5.c)::us 29 []))=(Q (.l l5.a l5.n l5.c)):=by kernel_rfl
theorem Rj:Ri jn Q (m1+1) t0 now1 l5 t11 t12 t13=(Aj (decide (t13<t12)) (CB t11.a t11.n t13 λB2 O3=>Ch B2 (O3+t13.toNat*1) λX4=>Ad t0 λB5 O6=>BZ B5 O6 λX7=>λw=>Calls PR 120 #[.p X7,.s X4] w λe w'=>∃X8:BA,∃X9:Int,∃X10:Bool,e = .returned (.tuple #[.agg #[.s X8,.i X9],.b X10])/\(A1 [.s Af,.i 0] 120 λB11=>st B11 0 (.s X8)<|st B11 1 (.i X9)<|Ch B11 0 λX12=>Ay B11 1 λX13=>DD 121 [.agg #[.s X12,.i X13],.i now1] λX14=>
 Aj X14 (A1 [.s X4] 9 λB15=>AU 9 1 16 [.s Af] ⟨l5.a,l5.n,l5.c⟩ 1 (λw=>F9 w (some ⟨B15,0,none⟩) (1*1)) λG16=>Ri jn Q m1 t0 now1 G16 t11 t12 (IntKind.wrap .i64 (t13+1))) (Ri jn Q m1 t0 now1 l5 t11 t12 (IntKind.wrap .i64 (t13+1)))) w') (A6w jn Q l5)):=by kernel_rfl
theorem A1v:Au jn PR WI Tryz.f98 [.p t0,.i now1] Q=(Gu 41 [.p t0] λX1=>DH λm=>Ri jn Q m t0 now1 ⟨none,0,0⟩ X1 (X1.n:Int) 0):=by kernel_rfl
theorem Ah5:Au jn PR Aw Tryz.f99 [.p m0] Q=(DD 42 [.p m0] λX1=>Aj (!X1) (Q (.tuple #[.s Af,.b false])) (Ad m0 λB2 O3=>Ot B2 (O3+3) (Dr) λ(t_4:TypeId)(v_5:Value)=>
 F8 PR t_4 v_5 "Keys" fun f_6 r_7 =>Gu f_6 [r_7] fun X8=>Aj ((X8.n:Int) == 0) (Ad m0 fun B9 O10=>st B9 (O10+3) .nilIface <|Q (.tuple #[.s Af,.b false])) (CB X8.a X8.n 0 fun B11 O12=>Ch B11 (O12+((0:Int)).toNat * 1) fun X13=>wz 137 [.p m0,.s X13] <|CB X8.a X8.n 0 fun B14 O15=>Ch B14 (O15+((0:Int)).toNat * 1) fun X16=>Q (.tuple #[.s X16,.b true])))):=by kernel_rfl
theorem XX:Tl jn Q (us 3 ((pq w3b w3o)::us 2 ((pq t6b t6o)::us 39 [])))=(Ef w3b w3o λX33=>Ef w3b (w3o+1) λX34=>Ef w3b ((w3o+1)+1) λX35=>Ef w3b (((w3o+1)+1)+1) λX36=>Ef w3b ((((w3o+1)+1)+1)+1) λX37=>λw=>Calls PR 115 #[.agg #[.int .u64 X33,.int .u64 X34,.int .u64 X35,.int .u64 X36,.int .u64 X37]] w λe w'=>∃X38:Int,∃X39:Int,∃X40:Int,∃X41:Int,∃X42:Int,e = .returned (.agg #[.int .u64 X38,.int .u64 X39,.int .u64 X40,.int .u64 X41,.int .u64 X42])/\(st t6b t6o (.int .u64 X38)<|st t6b (t6o+1) (.int .u64 X39)<|
 st t6b ((t6o+1)+1) (.int .u64 X40)<|st t6b (((t6o+1)+1)+1) (.int .u64 X41)<|st t6b ((((t6o+1)+1)+1)+1) (.int .u64 X42)<|Ef t6b t6o λX43=>Ef t6b (t6o+1) λX44=>Ef t6b ((t6o+1)+1) λX45=>Ef t6b (((t6o+1)+1)+1) λX46=>Ef t6b ((((t6o+1)+1)+1)+1) λX47=>Q (.agg #[.int .u64 X43,.int .u64 X44,.int .u64 X45,.int .u64 X46,.int .u64 X47])) w'):=by kernel_rfl
theorem MY{t32:Int}:OW jn Q (m3+1) w3b w3o t6b t6o t8 t32=(Aj (decide (t32<5)) (Bw ((0:Int)<=t32/\t32<((5:Nat):Int))<|Ef w3b (w3o+t32.toNat*1) λX31=>wcu 143 [.int .u64 X31,.int .u64 4294967296,.int .u64 t8] λX32=>Bw ((0:Int)<=t32/\t32<((5:Nat):Int))<|st w3b (w3o+t32.toNat*1) (.int .u64 (if X32>42949672 then X32 else 42949672))<|OW jn Q m3 w3b w3o t6b t6o t8 (IntKind.wrap .i64 (t32+1))) (Av3 jn Q w3b w3o t6b t6o)):=by kernel_rfl
theorem XW:Tk jn Q (us 3 ((pq w3b w3o)::us 2 ((pq t6b t6o)::us 39 [])))=(Ef w3b w3o λX25=>Ef w3b (w3o+1) λX26=>Ef w3b ((w3o+1)+1) λX27=>Ef w3b (((w3o+1)+1)+1) λX28=>Ef w3b ((((w3o+1)+1)+1)+1) λX29=>wcu 142 [.agg #[.int .u64 X25,.int .u64 X26,.int .u64 X27,.int .u64 X28,.int .u64 X29]] λX30=>DH λm=>OW jn Q m w3b w3o t6b t6o X30 0):=by kernel_rfl
theorem MX{ghosts4b ghosts4o:Nat}:OV jn Q (m1+1) all2 w3b w3o ghosts4b ghosts4o t6b t6o t14=(Aj (decide (t14<5)) (A5 λS=>Bw ((0:Int)<=t14/\t14<((5:Nat):Int))<|wLu S w3b (w3o+t14.toNat*1) λX20=>Bw ((0:Int)<=t14/\t14<((5:Nat):Int))<|Ay ghosts4b (ghosts4o+t14.toNat*1) λX21=>Ap true S<|Cc 141 [.i X21,.i all2] λX22=>Ap true S<|wcu 140 [.i X22] λX23=>Ap true S<|wcu 139 [.int .u64 X20,.int .u64 X23] λX24=>Bw ((0:Int)<=t14/\t14<((5:Nat):Int))<|
 st w3b (w3o+t14.toNat*1) (.int .u64 X24)<|OV jn Q m1 all2 w3b w3o ghosts4b ghosts4o t6b t6o (IntKind.wrap .i64 (t14+1))) (Av2 jn Q w3b w3o t6b t6o)):=by kernel_rfl
theorem Anf{ghosts1_0 ghosts1_1 ghosts1_2 ghosts1_3 ghosts1_4:Int}:Au jn PR I1 Tryz.f100 [.agg #[.int .u64 w0_0,.int .u64 w0_1,.int .u64 w0_2,.int .u64 w0_3,.int .u64 w0_4],.agg #[.i ghosts1_0,.i ghosts1_1,.i ghosts1_2,.i ghosts1_3,.i ghosts1_4],.i all2] Q=(A1 [.int .u64 w0_0,.int .u64 w0_1,.int .u64 w0_2,.int .u64 w0_3,.int .u64 w0_4] 140 λB1=>A1 [.i ghosts1_0,.i ghosts1_1,.i ghosts1_2,.i ghosts1_3,.i ghosts1_4] 100 λB2=>A1 [.int .u64 0,.int .u64 0,.int .u64 0,.int .u64 0,.int .u64 0] 140 λB3=>Ef B1 0 λX4=>Ef B1 1 λX5=>
 Ef B1 2 λX6=>Ef B1 3 λX7=>Ef B1 4 λX8=>DD 138 [.agg #[.int .u64 X4,.int .u64 X5,.int .u64 X6,.int .u64 X7,.int .u64 X8]] λX9=>Aj (!X9) (λw=>Calls PR 79 #[] w λe w'=>∃X10:Int,∃X11:Int,∃X12:Int,∃X13:Int,∃X14:Int,e = .returned (.agg #[.int .u64 X10,.int .u64 X11,.int .u64 X12,.int .u64 X13,.int .u64 X14])/\(st B3 0 (.int .u64 X10)<|st B3 1 (.int .u64 X11)<|st B3 2 (.int .u64 X12)<|st B3 3 (.int .u64 X13)<|st B3 4 (.int .u64 X14)<|Ef B3 0 λX15=>Ef B3 1 λX16=>Ef B3 2 λX17=>Ef B3 3 λX18=>Ef B3 4 λX19=>
 Q (.agg #[.int .u64 X15,.int .u64 X16,.int .u64 X17,.int .u64 X18,.int .u64 X19])) w') (DH λm=>OV jn Q m all2 B1 0 B2 0 B3 0 0)):=by kernel_rfl
theorem XY:Tm jn Q (us 22 [])=(Q (.i 4)):=by kernel_rfl
theorem MZ{sum5 t8_0 t8_1 t8_2 t8_3 t8_4 t9:Int}:OY jn Q (m1+1) draw1 sum5 t8_0 t8_1 t8_2 t8_3 t8_4 t9=(Aj (decide (t9<5)) (Bw ((0:Int)<=t9/\t9<((5:Nat):Int))<|λw=>∃X7:Int,([.int .u64 t8_0,.int .u64 t8_1,.int .u64 t8_2,.int .u64 t8_3,.int .u64 t8_4]:List Value)[t9.toNat]? = some (.int .u64 X7)/\CV (.int .u64 X7)=false/\(Aj (decide ((IntKind.wrap .u64 (sum5+X7))>(IntKind.wrap .u64 draw1))) (Q (.i t9)) (OY jn Q m1 draw1 (IntKind.wrap .u64 (sum5+X7)) t8_0 t8_1 t8_2 t8_3 t8_4 (IntKind.wrap .i64 (t9+1)))) w) (Av5 jn Q)):=by kernel_rfl
theorem Ang:Au jn PR OX Tryz.f101 [.agg #[.int .u64 w0_0,.int .u64 w0_1,.int .u64 w0_2,.int .u64 w0_3,.int .u64 w0_4],.int .u32 draw1] Q=(A1 [.int .u64 w0_0,.int .u64 w0_1,.int .u64 w0_2,.int .u64 w0_3,.int .u64 w0_4] 140 λB1=>Ef B1 0 λX2=>Ef B1 1 λX3=>Ef B1 2 λX4=>Ef B1 3 λX5=>Ef B1 4 λX6=>DH λm=>OY jn Q m draw1 0 X2 X3 X4 X5 X6 0):=by kernel_rfl
theorem Anh:Au jn PR Av6 Tryz.f102 [.p t0] Q=(Aj (Option.isNone t0) (Q (.int .u32 0)) (Ad t0 λB1 O2=>Ay B1 (O2+1) λX3=>Ad t0 λB4 O5=>st B4 (O5+1) (.i (IntKind.wrap .i64 (X3+1)))<|A5 λS=>Ad t0 λB6 O7=>Ez S B6 (O7+1) λX8=>Ad t0 λB9 O10=>Bu B9 O10 λX11=>Ap true S<|Aj (decide (X8>(X11.n:Int))) (Q (.int .u32 0)) (A5 λS=>Ad t0 λB12 O13=>F5 S B12 O13 λX14=>Ad t0 λB15 O16=>Ay B15 (O16+1) λX17=>Ap true S<|CB X14.a X14.n (IntKind.wrap .i64 (X17-1)) λB18 O19=>ld (.int .u32) B18 (O19+((IntKind.wrap .i64 (X17-(1:Int)))).toNat*1) λ(X20:Int)=>
 Q (.int .u32 X20)))):=by kernel_rfl
theorem Ani:Au jn PR Aw Tryz.f103 [.p s0] Q=(A1 [.i 0,.i 0,.i 0] 165 λB1=>Aj (Option.isNone s0) (st B1 0 (.i 0)<|st B1 1 (.i 0)<|st B1 2 (.i 0)<|Ay B1 0 λX2=>Ay B1 1 λX3=>Ay B1 2 λX4=>Q (.agg #[.i X2,.i X3,.i X4])) (Ad s0 λB5 O6=>Ay B5 (O6+3) λX7=>Ay B5 ((O6+3)+1) λX8=>Ay B5 (((O6+3)+1)+1) λX9=>A1 [.i 0,.i 0,.i 0] 165 λB10=>st B10 0 (.i X7)<|st B10 1 (.i X8)<|st B10 2 (.i X9)<|Ad s0 λB11 O12=>
 st B11 (O12+3) (.i 0)<|st B11 ((O12+3)+1) (.i 0)<|st B11 (((O12+3)+1)+1) (.i 0)<|Ay B10 0 λX13=>Ay B10 1 λX14=>Ay B10 2 λX15=>st B1 0 (.i X13)<|st B1 1 (.i X14)<|st B1 2 (.i X15)<|Ay B1 0 λX16=>Ay B1 1 λX17=>Ay B1 2 λX18=>Q (.agg #[.i X16,.i X17,.i X18]))):=by kernel_rfl
theorem Ya:To jn Q ((.p s0)::(.i kind1)::us 29 [])=(Cc 93 [.p s0] λX5=>Ad s0 λB6 O7=>BZ B6 (O7+2) λX8=>Cc 144 [.p X8,.i kind1] λX9=>Q (.i X9)):=by kernel_rfl
theorem XZ{t8:Bool}:Tn jn Q ((.p s0)::(.i kind1)::us 6 ((.b t8)::us 22 []))=(Aj t8 (Q (.i 4)) (Ad s0 λB1 O2=>BZ B1 (O2+2) λX3=>Cc 43 [.p X3] λX4=>Aj (kind1==X4) (Q (.i 8)) (Av7 jn Q s0 kind1))):=by kernel_rfl
theorem Anj:Au jn PR OZ Tryz.f104 [.p s0,.i kind1] Q=(Aj (Option.isNone s0) (Q (.i 1)) (Aj (decide (kind1<0)) (Agy jn Q s0 kind1 true) (Agy jn Q s0 kind1 (decide (kind1>=5))))):=by kernel_rfl
theorem Yb:Tp jn Q ((.p m0)::us 4 ((.l gone5.a gone5.n gone5.c)::us 48 []))=(A5 λS=>Ad m0 λB13 O14=>Ez S B13 O14 λX15=>Ad m0 λB16 O17=>Ez S B16 (O17+1) λX18=>Ad m0 λB19 O20=>Ot B19 (O20+2) (Ap true S<|Dr) λ(t_21:TypeId)(v_22:Value)=>Ap true S<|
 F8 PR t_21 v_22 "Keys" fun f_23 r_24 =>Gu f_23 [r_24] fun X25=>Ap true S <|Q1 (.int .i64) PR 146 [.i X15,.i X18,.l X25.a X25.n X25.c] (fun (X26:Int)=>Ad m0 fun B29 O30=>st B29 (O30+2) .nilIface <|Q (.l gone5.a gone5.n gone5.c)) fun (t_27:TypeId) (v_28:Value) (X26:Int)=>Ad m0 fun B31 O32=>st B31 (O32+2) (.iface t_27 v_28) <|Q (.l gone5.a gone5.n gone5.c)):=by kernel_rfl
theorem Na:Pb jn Q (m1+1) m0 gone5=(A5 λS=>Ad m0 λB5 O6=>Ez S B5 (O6+1) λX7=>Cc 133 [.p m0] λX8=>Ap true S<|Aj (decide (X8>X7)) (Fi 135 [.p m0] λX9 X10=>A1 [.s X9] 9 λB11=>AU 9 1 16 [.s Af] ⟨gone5.a,gone5.n,gone5.c⟩ 1 (λw=>F9 w (some ⟨B11,0,none⟩) (1*1)) λG12=>Pb jn Q m1 m0 G12) (Agz jn Q m0 gone5)):=by kernel_rfl
theorem Ank:Au jn PR Pa Tryz.f105 [.p m0,.i room1] Q=(Aj (Option.isNone m0) (Q (.l none 0 0)) (Cc 72 [.i room1,.i 1,.i 1024] λX1=>Ad m0 λB2 O3=>st B2 (O3+1) (.i X1)<|Cc 145 [.p m0] λX4=>DH λm=>Pb jn Q m m0 ⟨none,0,0⟩)):=by kernel_rfl
theorem Anl{c1:Int}:Au jn PR Av9 Tryz.f106 [.p s0,.i c1] Q=(Aj (Option.isNone s0) (Q (.i 0)) (A5 λS=>Ad s0 λB1 O2=>Ez S B1 O2 λX3=>Cc 72 [.i c1,.i 0,.i 1024] λX4=>Ap true S<|Bw ((16777216:Int)≠0)<|Q (.i (if (IntKind.wrap .i64 (Int.tdiv (IntKind.wrap .i64 (X4*X3)) 16777216))>1 then (IntKind.wrap .i64 (Int.tdiv (IntKind.wrap .i64 (X4*X3)) 16777216)) else 1)))):=by kernel_rfl
theorem Anm:Au jn PR Aw Tryz.f107 [.i kind0,.i room1] Q=(Q1 (.int .i64) PR 113 [.i kind0,.i room1] (λ(X1:Int)=>Aj (X1 != 0) (Q (.tuple #[.p none,.i X1])) (Lf 147 [.i room1] λX4=>A1 [.i kind0,.nilIface,.p X4,.i 0,.i 0,.i 0,.i 0,.i 0,.i 0] 203 λB5=>Q (.tuple #[pq B5 0,.i 0]))) λ(t_2:TypeId)(v_3:Value)(X1:Int)=>Aj (X1 != 0) (Q (.tuple #[.p none,.i X1])) (Lf 147 [.i room1] λX6=>A1 [.i kind0,.iface t_2 v_3,.p X6,.i 0,.i 0,.i 0,.i 0,.i 0,.i 0] 203 λB7=>
 Q (.tuple #[pq B7 0,.i 0]))):=by kernel_rfl
theorem Yc{i8:Int}:Tq jn Q ((.p t0)::us 7 ((.i i8)::us 28 []))=(Ad t0 λB12 O13=>Bu B12 O13 λX14=>CB X14.a X14.n i8 λB15 O16=>Ch B15 ((O16+i8.toNat*3)+1) λX17=>Q (.tuple #[.s X17,.b true])):=by kernel_rfl
theorem Ann:Au jn PR Ag0 Tryz.f108 [.p t0,.s key1,.i now2] Q=(F0 111 [.p t0,.s key1] λX1 X2=>Aj (!X2) (Q (.tuple #[.s Af,.b false])) (Ad t0 λB3 O4=>Bu B3 O4 λX5=>CB X5.a X5.n X1 λB6 O7=>Ch B6 (O7+X1.toNat*3) λX8=>Ch B6 ((O7+X1.toNat*3)+1) λX9=>Ay B6 (((O7+X1.toNat*3)+1)+1) λX10=>DD 148 [.agg #[.s X8,.s X9,.i X10],.i now2] λX11=>Aj X11 (Q (.tuple #[.s Af,.b false])) (Awa jn Q t0 X1))):=by kernel_rfl
theorem Yd{l0:Sl}:Tr jn Q m1 ((.l l0.a l0.n l0.c)::us 2 ((.i i3)::us 21 []))=(Pc jn Q m1 l0 (IntKind.wrap .i64 (i3+1))):=by kernel_rfl
theorem Nc{l0:Sl}{k4:Int}:Pd jn Q m1 (m2+1) l0 i3 k4=(Aj (decide (k4<i3)) (A5 λS=>CB l0.a l0.n i3 λB1 O2=>wLs S B1 (O2+i3.toNat*1) λX3=>CB l0.a l0.n k4 λB4 O5=>Ch B4 (O5+k4.toNat*1) λX6=>Ap true S<|Aj (Vr X3 X6) (Q (.b true)) (Pd jn Q m1 m2 l0 i3 (IntKind.wrap .i64 (k4+1)))) (Awd jn Q m1 l0 i3)):=by kernel_rfl
theorem Ye:Tt jn Q (us 25 [])=(Q (.b false)):=by kernel_rfl
theorem Nb{l0:Sl}:Pc jn Q (m1+1) l0 i3=(Aj (decide (i3<(l0.n:Int))) (DH λm=>Pd jn Q m1 m l0 i3 0) (Awe jn Q)):=by kernel_rfl
theorem Ano{l0:Sl}:Au jn PR Hf Tryz.f109 [.l l0.a l0.n l0.c] Q=(DH λm=>Pc jn Q m l0 0):=by kernel_rfl
theorem Anp:Au jn PR Aw Tryz.f110 [.p t0,.s key1] Q=(F0 111 [.p t0,.s key1] λX1 X2=>Q (.b X2)):=by kernel_rfl
theorem Nd:Tu jn Q ((.p t0)::(.s key1)::us 4 ((.i i6)::us 41 []))=(A5 λS=>Ad t0 λB10 O11=>Bu B10 O11 λX12=>Aj (decide (i6<(X12.n:Int))) (Ad t0 λB13 O14=>Bu B13 O14 λX15=>CB X15.a X15.n i6 λB16 O17=>Ch B16 (O17+i6.toNat*3) λX18=>Q (.tuple #[.i i6,.b (Vr X18 key1)])) (Q (.tuple #[.i i6,.b false]))):=by kernel_rfl
theorem Nf:Pf jn Q (m1+1) t0 key1 i6=(Ad t0 λB1 O2=>Bu B1 O2 λX3=>Aj (decide (i6<(X3.n:Int))) (Ad t0 λB4 O5=>Bu B4 O5 λX6=>CB X6.a X6.n i6 λB7 O8=>Ch B7 (O8+i6.toNat*3) λX9=>Aj (sLt X9 key1) (Pf jn Q m1 t0 key1 (IntKind.wrap .i64 (i6+1))) (Ag3 jn Q t0 key1 i6)) (Ag3 jn Q t0 key1 i6)):=by kernel_rfl
theorem Anq:Au jn PR Pe Tryz.f111 [.p t0,.s key1] Q=(DH λm=>Pf jn Q m t0 key1 0):=by kernel_rfl
theorem Anr:Au jn PR Aw Tryz.f113 [.i kind0,.i room1] Q=(Aj (kind0==0) (Lf 151 [.i room1] λX1=>Q (.tuple #[.iface 223 (.p X1),.i 0])) (Aj (kind0==1) (Lf 152 [.i room1] λX2=>Q (.tuple #[.iface 225 (.p X2),.i 0])) (Aj (kind0==2) (Lf 153 [.i room1] λX3=>Q (.tuple #[.iface 227 (.p X3),.i 0])) (Aj (kind0==3) (Lf 154 [.i room1] λX4=>Q (.tuple #[.iface 229 (.p X4),.i 0])) (Aj (kind0==4) (Lf 155 [.i room1] λX5=>
 Q (.tuple #[.iface 231 (.p X5),.i 0])) (Q (.tuple #[.nilIface,.i 4]))))))):=by kernel_rfl
theorem Ant:Au jn PR Aw Tryz.f114 [.int .u64 seed0] Q=(Ht 178 48 [.i 0,.s Af,.s Af,.i 0] 8 8 λG1=>A1 [.int .u64 seed0,.l G1.a G1.n G1.c,.i 0,.i 0] 176 λB2=>Q (pq B2 0)):=by kernel_rfl
theorem Yf:Tv jn Q (us 1 ((pq w1b w1o)::(pq t2b t2o)::(.i best3)::us 22 []))=(A5 λS=>Bw ((0:Int)<=best3/\best3<((5:Nat):Int))<|wLu S w1b (w1o+best3.toNat*1) λX5=>Ef w1b w1o λX6=>Ef w1b (w1o+1) λX7=>Ef w1b ((w1o+1)+1) λX8=>Ef w1b (((w1o+1)+1)+1) λX9=>Ef w1b ((((w1o+1)+1)+1)+1) λX10=>Ap true S<|wcu 142 [.agg #[.int .u64 X6,.int .u64 X7,.int .u64 X8,.int .u64 X9,.int .u64 X10]] λX11=>Ap true S<|Bw ((0:Int)<=best3/\best3<((5:Nat):Int))<|
 st w1b (w1o+best3.toNat*1) (.int .u64 (IntKind.wrap .u64 (X5+(IntKind.wrap .u64 (4294967296-X11)))))<|Ef w1b w1o λX12=>Ef w1b (w1o+1) λX13=>Ef w1b ((w1o+1)+1) λX14=>Ef w1b (((w1o+1)+1)+1) λX15=>Ef w1b ((((w1o+1)+1)+1)+1) λX16=>st t2b t2o (.int .u64 X12)<|st t2b (t2o+1) (.int .u64 X13)<|st t2b ((t2o+1)+1) (.int .u64 X14)<|st t2b (((t2o+1)+1)+1) (.int .u64 X15)<|st t2b ((((t2o+1)+1)+1)+1) (.int .u64 X16)<|Ef t2b t2o λX17=>Ef t2b (t2o+1) λX18=>Ef t2b ((t2o+1)+1) λX19=>Ef t2b (((t2o+1)+1)+1) λX20=>Ef t2b ((((t2o+1)+1)+1)+1) λX21=>
 Q (.agg #[.int .u64 X17,.int .u64 X18,.int .u64 X19,.int .u64 X20,.int .u64 X21])):=by kernel_rfl
theorem Ng:Ly jn Q (m1+1) w1b w1o t2b t2o best3 t5=(Aj (decide (t5<5)) (A5 λS=>Bw ((0:Int)<=t5/\t5<((5:Nat):Int))<|wLu S w1b (w1o+t5.toNat*1) λX3=>Bw ((0:Int)<=best3/\best3<((5:Nat):Int))<|Ef w1b (w1o+best3.toNat*1) λX4=>Ap true S<|Aj (decide (X3>X4)) (Ly jn Q m1 w1b w1o t2b t2o t5 (IntKind.wrap .i64 (t5+1))) (Ly jn Q m1 w1b w1o t2b t2o best3 (IntKind.wrap .i64 (t5+1)))) (Ag4 jn Q w1b w1o t2b t2o best3)):=by kernel_rfl
theorem Anu:Au jn PR Pg Tryz.f115 [.agg #[.int .u64 w0_0,.int .u64 w0_1,.int .u64 w0_2,.int .u64 w0_3,.int .u64 w0_4]] Q=(A1 [.int .u64 w0_0,.int .u64 w0_1,.int .u64 w0_2,.int .u64 w0_3,.int .u64 w0_4] 140 λB1=>A1 [.int .u64 0,.int .u64 0,.int .u64 0,.int .u64 0,.int .u64 0] 140 λB2=>DH λm=>Ly jn Q m B1 0 B2 0 0 0):=by kernel_rfl
theorem Anv:Au jn PR Aw Tryz.f116 [.int .u64 h0,.i n1] Q=(Aj (decide (n1<1)) (Q (.i 0)) (Bw ((IntKind.wrap .u64 n1)≠0)<|Q (.i (IntKind.wrap .i64 (Int.tmod h0 (IntKind.wrap .u64 n1)))))):=by kernel_rfl
theorem Yg:Tw jn Q (us 5 ((.int .u64 h5)::us 22 []))=(Q (.int .u64 h5)):=by kernel_rfl
theorem Nh:Pi jn Q (m1+1) s1 h5 t14 t15=(Aj (decide (t15<t14)) (Bw ((0:Int)<=t15/\t15<(s1.size:Int))<|wcu 156 [.int .u64 (IntKind.wrap .u64 ((bits .xor .u64 h5 (IntKind.wrap .u64 (AG s1 t15.toNat)))+11400714819323198485))] λX2=>Pi jn Q m1 s1 X2 t14 (IntKind.wrap .i64 (t15+1))) (Awj jn Q h5)):=by kernel_rfl
theorem Anw:Au jn PR Ph Tryz.f117 [.int .u64 seed0,.s s1] Q=(wcu 156 [.int .u64 (bits .xor .u64 seed0 (IntKind.wrap .u64 (s1.size:Int)))] λX1=>DH λm=>Pi jn Q m s1 X1 (s1.size:Int) 0):=by kernel_rfl
theorem Yi:Ty jn Q (us 49 [])=(Q (.b true)):=by kernel_rfl
theorem Ni{s0:BA}:CU jn Q (m2+1) s0 t14 t15=(Aj (decide (t15<t14)) (Bw ((0:Int)<=t15/\t15<(s0.size:Int))<|Aj (decide ((AG s0 t15.toNat)<97)) (Aj (decide ((AG s0 t15.toNat)<65)) (Aj (decide ((AG s0 t15.toNat)<48)) (Cc 157 [.s DC,.int .u8 (AG s0 t15.toNat)] λX1=>Aj (decide (X1<0)) (Q (.b false)) (CU jn Q m2 s0 t14 (IntKind.wrap .i64 (t15+1)))) (Aj (decide ((AG s0 t15.toNat)>57)) (Cc 157 [.s DC,.int .u8 (AG s0 t15.toNat)] λX2=>Aj (decide (X2<0)) (Q (.b false)) (CU jn Q m2 s0 t14 (IntKind.wrap .i64 (t15+1)))) (
 CU jn Q m2 s0 t14 (IntKind.wrap .i64 (t15+1))))) (Aj (decide ((AG s0 t15.toNat)>90)) (Aj (decide ((AG s0 t15.toNat)<48)) (Cc 157 [.s DC,.int .u8 (AG s0 t15.toNat)] λX3=>Aj (decide (X3<0)) (Q (.b false)) (CU jn Q m2 s0 t14 (IntKind.wrap .i64 (t15+1)))) (Aj (decide ((AG s0 t15.toNat)>57)) (Cc 157 [.s DC,.int .u8 (AG s0 t15.toNat)] λX4=>Aj (decide (X4<0)) (Q (.b false)) (CU jn Q m2 s0 t14 (IntKind.wrap .i64 (t15+1)))) (CU jn Q m2 s0 t14 (IntKind.wrap .i64 (t15+1))))) (CU jn Q m2 s0 t14 (IntKind.wrap .i64 (t15+1))))) (Aj (decide ((AG s0 t15.toNat)>122)) (
 Aj (decide ((AG s0 t15.toNat)<65)) (Aj (decide ((AG s0 t15.toNat)<48)) (Cc 157 [.s DC,.int .u8 (AG s0 t15.toNat)] λX5=>Aj (decide (X5<0)) (Q (.b false)) (CU jn Q m2 s0 t14 (IntKind.wrap .i64 (t15+1)))) (Aj (decide ((AG s0 t15.toNat)>57)) (Cc 157 [.s DC,.int .u8 (AG s0 t15.toNat)] λX6=>Aj (decide (X6<0)) (Q (.b false)) (CU jn Q m2 s0 t14 (IntKind.wrap .i64 (t15+1)))) (CU jn Q m2 s0 t14 (IntKind.wrap .i64 (t15+1))))) (Aj (decide ((AG s0 t15.toNat)>90)) (Aj (decide ((AG s0 t15.toNat)<48)) (Cc 157 [.s DC,.int .u8 (AG s0 t15.toNat)] λX7=>
 Aj (decide (X7<0)) (Q (.b false)) (CU jn Q m2 s0 t14 (IntKind.wrap .i64 (t15+1)))) (Aj (decide ((AG s0 t15.toNat)>57)) (Cc 157 [.s DC,.int .u8 (AG s0 t15.toNat)] λX8=>Aj (decide (X8<0)) (Q (.b false)) (CU jn Q m2 s0 t14 (IntKind.wrap .i64 (t15+1)))) (CU jn Q m2 s0 t14 (IntKind.wrap .i64 (t15+1))))) (CU jn Q m2 s0 t14 (IntKind.wrap .i64 (t15+1))))) (CU jn Q m2 s0 t14 (IntKind.wrap .i64 (t15+1))))) (Awm jn Q)):=by kernel_rfl
theorem Yh{s0:BA}:Tx jn Q ((.s s0)::us 48 [])=(DH λm=>CU jn Q m s0 (s0.size:Int) 0):=by kernel_rfl
theorem Anx{s0:BA}:Au jn PR Lz Tryz.f118 [.s s0] Q=(Aj (decide ((s0.size:Int)<1)) (Q (.b false)) (Aj (decide ((s0.size:Int)>24)) (Q (.b false)) (Awl jn Q s0))):=by kernel_rfl
theorem Anz{n0 most1:Int}:Au jn PR Aw Tryz.f119 [.i n0,.i most1] Q=(Aj (decide (n0>=most1)) (Q (.i n0)) (Q (.i (IntKind.wrap .i64 (n0+1))))):=by kernel_rfl
theorem Ym{t4b t4o:Nat}:Tz jn Q (us 4 ((pq t4b t4o)::us 22 []))=(A1 [.s Af,.i 0] 120 λB13=>Ch B13 0 λX14=>Ay B13 1 λX15=>st t4b t4o (.s X14)<|st t4b (t4o+1) (.i X15)<|Ch t4b t4o λX16=>Ay t4b (t4o+1) λX17=>Q (.tuple #[.agg #[.s X16,.i X17],.b false])):=by kernel_rfl
theorem An2:Au jn PR EL Tryz.f120 [.p x0,.s key1] Q=(A1 [.s Af,.i 0] 120 λB1=>Aj (!Option.isNone x0) (F0 158 [.p x0,.s key1] λX2 X3=>Aj X3 (Ad x0 λB4 O5=>Bu B4 (O5+1) λX6=>CB X6.a X6.n X2 λB7 O8=>Ch B7 ((O8+X2.toNat*4)+2) λX9=>Ay B7 (((O8+X2.toNat*4)+2)+1) λX10=>st B1 0 (.s X9)<|st B1 1 (.i X10)<|Ch B1 0 λX11=>Ay B1 1 λX12=>Q (.tuple #[.agg #[.s X11,.i X12],.b true])) (Ag5 jn Q B1 0)) (Ag5 jn Q B1 0)):=by kernel_rfl
theorem An3{v0_0:BA}{v0_1:Int}:Au jn PR Aw Tryz.f121 [.agg #[.s v0_0,.i v0_1],.i now1] Q=(A1 [.s v0_0,.i v0_1] 120 λB1=>Ay B1 1 λX2=>Aj (X2 != 0) (Ay B1 1 λX3=>Q (.b (decide (X3<=now1)))) (Q (.b false))):=by kernel_rfl
theorem An4{rate1:Int}:Au jn PR Aw Tryz.f123 [.int .u64 h0,.i rate1] Q=(Bw ((16777216:Int)≠0)<|Q (.b (decide ((IntKind.wrap .i64 (Int.tmod h0 16777216))<rate1)))):=by kernel_rfl
theorem An5:Au jn PR Aw Tryz.f124 [.p g0,.s key1] Q=(Aj (Option.isNone g0) (Q (.b false)) (Ad g0 λB1 O2=>BZ B1 (O2+2) λX3=>F0 159 [.p X3,.s key1] λX4 X5=>Aj X5 (Ad g0 λB6 O7=>BZ B6 (O7+1) λX8=>Fi 160 [.p X8,.i X4] λX9 X10=>Q (.b X5)) (Q (.b X5)))):=by kernel_rfl
theorem Yn:T0 jn Q ((.p c0)::us 1 ((.b gone2)::us 29 []))=(Aj gone2 (Ad c0 λB13 O14=>Ay B13 (O14+2) λX15=>Cc 119 [.i X15,.i 1099511627776] λX16=>Ad c0 λB17 O18=>st B17 (O18+2) (.i X16)<|Q (.tuple #[])) (Q (.tuple #[]))):=by kernel_rfl
theorem An6{hit1:Bool}:Au jn PR Ag6 Tryz.f125 [.p c0,.b hit1,.b gone2] Q=(Ad c0 λB1 O2=>Ay B1 O2 λX3=>Cc 119 [.i X3,.i 1099511627776] λX4=>Ad c0 λB5 O6=>st B5 O6 (.i X4)<|Aj hit1 (Ad c0 λB7 O8=>Ay B7 (O8+1) λX9=>Cc 119 [.i X9,.i 1099511627776] λX10=>Ad c0 λB11 O12=>st B11 (O12+1) (.i X10)<|VK jn Q c0 gone2) (VK jn Q c0 gone2)):=by kernel_rfl
theorem An7:Au jn PR Awo Tryz.f126 [.p g0,.s key1] Q=(Aj (Option.isNone g0) (Q (.tuple #[.s Af,.b false])) (DD 124 [.p g0,.s key1] λX1=>A5 λS=>Ad g0 λB2 O3=>EZ S B2 (O3+2) λX4=>Ad g0 λB5 O6=>BZ B5 (O6+1) λX7=>Ap true S<|Cc 162 [.p X7,.s key1] λX8=>Ap true S<|DD 161 [.p X4,.s key1,.i X8] λX9=>A5 λS=>Ad g0 λB10 O11=>EZ S B10 (O11+1) λX12=>Ad g0 λB13 O14=>Ez S B13 O14 λX15=>Cc 163 [.p X12] λX16=>
 Ap true S<|Aj (decide (X16<=X15)) (Q (.tuple #[.s Af,.b false])) (A5 λS=>Ad g0 λB17 O18=>EZ S B17 (O18+1) λX19=>Ad g0 λB20 O21=>BZ B20 (O21+1) λX22=>Ap true S<|Cc 165 [.p X22] λX23=>Ap true S<|Fi 164 [.p X19,.i X23] λX24 X25=>DD 124 [.p g0,.s X24] λX26=>Q (.tuple #[.s X24,.b X25])))):=by kernel_rfl
theorem An8{v2_0:BA}{v2_1:Int}:Au jn PR JI Tryz.f127 [.p x0,.s key1,.agg #[.s v2_0,.i v2_1]] Q=(A1 [.s v2_0,.i v2_1] 120 λB1=>Aj (Option.isNone x0) (Q (.b false)) (F0 158 [.p x0,.s key1] λX2 X3=>Aj X3 (A5 λS=>Ad x0 λB4 O5=>F5 S B4 (O5+1) λX6=>Ch B1 0 λX7=>Ay B1 1 λX8=>Ap true S<|CB X6.a X6.n X2 λB9 O10=>st B9 ((O10+X2.toNat*4)+2) (.s X7)<|st B9 (((O10+X2.toNat*4)+2)+1) (.i X8)<|Q (.b false)) (Ch B1 0 λX11=>Ay B1 1 λX12=>
 wz 166 [.p x0,.i X2,.s key1,.agg #[.s X11,.i X12]]<|A5 λS=>Ad x0 λB13 O14=>Ez S B13 (O14+3) λX15=>Ad x0 λB16 O17=>Bu B16 (O17+1) λX18=>Ap true S<|Aj (decide ((IntKind.wrap .i64 (2*X15))>(X18.n:Int))) (wz 167 [.p x0]<|Q (.b true)) (Q (.b true))))):=by kernel_rfl
theorem Yo:T3 jn Q ((.p f0)::(.i kind1)::(.s key2)::us 21 [])=(Ad f0 λB1 O2=>DD 122 [.p f0,.p (some ⟨B1,(O2+5),none⟩),.i kind1,.s key2] λX3=>Q (.b X3)):=by kernel_rfl
theorem An9:Au jn PR Ag7 Tryz.f128 [.p f0,.i kind1,.s key2] Q=(Aj (Option.isNone f0) (Q (.b false)) (Aj (kind1 != 2) (Aj (kind1 != 3) (Q (.b false)) (VL jn Q f0 kind1 key2)) (VL jn Q f0 kind1 key2))):=by kernel_rfl
theorem Yp:T4 jn Q (us 3 ((.l all3.a all3.n all3.c)::us 21 []))=(Q (.l all3.a all3.n all3.c)):=by kernel_rfl
theorem Nj{l4:OA}:L0 jn Q (m1+1) f0 all3 l4=(Aj (!Option.isNone l4) (Ad l4 λB2 O3=>Ay B2 (O3+1) λX4=>Ch B2 ((O3+1)+1) λX5=>A1 [.i X4,.s X5] 159 λB6=>AU 159 2 24 [.i 0,.s Af] ⟨all3.a,all3.n,all3.c⟩ 1 (λw=>F9 w (some ⟨B6,0,none⟩) (1*2)) λG7=>Ad l4 λB8 O9=>st B8 (O9+4) (.b false)<|Lf 168 [.p f0] λX10=>L0 jn Q m1 f0 G7 X10) (Awq jn Q all3)):=by kernel_rfl
theorem Aoa:Au jn PR Pj Tryz.f129 [.p f0] Q=(Aj (Option.isNone f0) (Q (.l none 0 0)) (Lf 168 [.p f0] λX1=>DH λm=>L0 jn Q m f0 ⟨none,0,0⟩ X1)):=by kernel_rfl
theorem Aoc{e1_0:Int}{e1_1:BA}:Au jn PR Aws Tryz.f130 [.p m0,.agg #[.i e1_0,.s e1_1]] Q=(A1 [.i e1_0,.s e1_1] 159 λB1=>Aj (Option.isNone m0) (Q (.l none 0 0)) (Ay B1 0 λX2=>Aj (X2==1) (Ch B1 1 λX3=>DD 131 [.p m0,.s X3] λX4=>Aj X4 (Ch B1 1 λX5=>Gu 132 [.p m0,.s X5] λX6=>Q (.l X6.a X6.n X6.c)) (Q (.l none 0 0))) (Aj (X2==2) (Ch B1 1 λX7=>Gu 94 [.p m0,.s X7] λX8=>Q (.l X8.a X8.n X8.c)) (Aj (X2==3) (A5 λS=>Ad m0 λB9 O10=>
 Atl S B9 (O10+2) (Ch B1 1 λX13=>Ap true S<|Dr) λ(t_11:TypeId)(v_12:Value)=>Ch B1 1 λX14=>Ap true S<|
 F8 PR t_11 v_12 "Remove" fun f_15 r_16 =>DD f_15 [r_16,.s X14] fun X17=>DD 42 [.p m0] fun X18=>Aj X18 (A5 fun S=>Ad m0 fun B19 O20=>Atl S B19 (O20+3) (Ch B1 1 fun X23=>Ap true S <|Dr) fun (t_21:TypeId) (v_22:Value)=>Ch B1 1 fun X24=>Ap true S <|
 F8 PR t_21 v_22 "Remove" fun f_25 r_26 =>DD f_25 [r_26,.s X24] fun X27=>Q (.l none 0 0)) (Q (.l none 0 0))) (Q (.l none 0 0)))))):=by kernel_rfl
theorem Aod:Au jn PR Aw Tryz.f131 [.p m0,.s key1] Q=(Aj (!Option.isNone m0) (Ad m0 λB1 O2=>Ot B1 (O2+2) (Dr) λ(t_3:TypeId)(v_4:Value)=>
 F8 PR t_3 v_4 "Has" fun f_5 r_6 =>DD f_5 [r_6,.s key1] fun X7=>Aj X7 (Q (.b true)) (DD 42 [.p m0] fun X8=>Aj X8 (Ad m0 fun B9 O10=>Ot B9 (O10+3) (Dr) fun (t_11:TypeId) (v_12:Value)=>
 F8 PR t_11 v_12 "Has" fun f_13 r_14 =>DD f_13 [r_14,.s key1] fun X15=>Q (.b X15)) (Q (.b false)))) (Q (.b false))):=by kernel_rfl
theorem Nk:T5 jn Q ((.p m0)::(.s key1)::us 28 [])=(Ad m0 λB9 O10=>Ot B9 (O10+2) (Dr) λ(t_11:TypeId)(v_12:Value)=>
 F8 PR t_11 v_12 "Access" fun f_13 r_14 =>A8k f_13 [r_14,.s key1] fun X15 X16=>Q (.l X16.a X16.n X16.c)):=by kernel_rfl
theorem Aoe:Au jn PR M3 Tryz.f132 [.p m0,.s key1] Q=(DD 42 [.p m0] λX1=>Aj X1 (Ad m0 λB2 O3=>Ot B2 (O3+3) (Dr) λ(t_4:TypeId)(v_5:Value)=>
 F8 PR t_4 v_5 "Has" fun f_6 r_7 =>DD f_6 [r_7,.s key1] fun X8=>Aj X8 (wz 137 [.p m0,.s key1] <|Pk jn Q m0 key1) (Pk jn Q m0 key1)) (Pk jn Q m0 key1)):=by kernel_rfl
theorem Yr:Au jn PR Awt Tryz.f133 [.p m0] Q=(Aj (Option.isNone m0) (Q (.i 0)) (A5 λS=>Ad m0 λB1 O2=>Atl S B1 (O2+2) (Cc 134 [.p m0] λX5=>Ap true S<|Dr) λ(t_3:TypeId)(v_4:Value)=>Cc 134 [.p m0] λX6=>Ap true S<|
 F8 PR t_3 v_4 "Len" fun f_7 r_8 =>Cc f_7 [r_8] fun X9=>Q (.i (IntKind.wrap .i64 (X6+X9))))):=by kernel_rfl
theorem Ys:Au jn PR Aw Tryz.f134 [.p m0] Q=(DD 42 [.p m0] λX1=>Aj (!X1) (Q (.i 0)) (Ad m0 λB2 O3=>Ot B2 (O3+3) (Dr) λ(t_4:TypeId)(v_5:Value)=>
 F8 PR t_4 v_5 "Len" fun f_6 r_7 =>Cc f_6 [r_7] fun X8=>Q (.i X8))):=by kernel_rfl
theorem Yt:Au jn PR Aw Tryz.f135 [.p m0] Q=(Aj (Option.isNone m0) (Q (.tuple #[.s Af,.b false])) (Cc 134 [.p m0] λX1=>Aj (decide (X1>0)) (Ad m0 λB2 O3=>Ot B2 (O3+3) (Dr) λ(t_4:TypeId)(v_5:Value)=>
 F8 PR t_4 v_5 "Evict" fun f_6 r_7 =>Fi f_6 [r_7] fun X8 X9=>Q (.tuple #[.s X8,.b X9])) (Ad m0 fun B10 O11=>Ot B10 (O11+2) (Dr) fun (t_12:TypeId) (v_13:Value)=>
 F8 PR t_12 v_13 "Evict" fun f_14 r_15 =>Fi f_14 [r_15] fun X16 X17=>Q (.tuple #[.s X16,.b X17])))):=by kernel_rfl
theorem Aof:Au jn PR Aw Tryz.f136 [.p x0,.s key1] Q=(A1 [.s Af,.i 0] 120 λB1=>λw=>Calls PR 120 #[.p x0,.s key1] w λe w'=>∃X2:BA,∃X3:Int,∃X4:Bool,e = .returned (.tuple #[.agg #[.s X2,.i X3],.b X4])/\(A1 [.s Af,.i 0] 120 λB5=>st B5 0 (.s X2)<|st B5 1 (.i X3)<|Aj X4 (F0 158 [.p x0,.s key1] λX6 X7=>Ad x0 λB8 O9=>Bu B8 (O9+1) λX10=>CB X10.a X10.n X6 λB11 O12=>st B11 (O12+X6.toNat*4) (.i 1)<|st B11 ((O12+X6.toNat*4)+1) (.s Af)<|
 st B11 (((O12+X6.toNat*4)+1)+1) (.s Af)<|st B11 ((((O12+X6.toNat*4)+1)+1)+1) (.i 0)<|Ad x0 λB13 O14=>Ay B13 (O14+2) λX15=>Ad x0 λB16 O17=>st B16 (O17+2) (.i (IntKind.wrap .i64 (X15-1)))<|Ch B5 0 λX18=>Ay B5 1 λX19=>st B1 0 (.s X18)<|st B1 1 (.i X19)<|Ch B1 0 λX20=>Ay B1 1 λX21=>Q (.tuple #[.agg #[.s X20,.i X21],.b X4])) (Ch B5 0 λX22=>Ay B5 1 λX23=>st B1 0 (.s X22)<|st B1 1 (.i X23)<|Ch B1 0 λX24=>Ay B1 1 λX25=>Q (.tuple #[.agg #[.s X24,.i X25],.b X4]))) w'):=by kernel_rfl
theorem Aog:Au jn PR Aw Tryz.f137 [.p m0,.s key1] Q=(Ad m0 λB1 O2=>Ot B1 (O2+3) (Dr) λ(t_3:TypeId)(v_4:Value)=>
 F8 PR t_3 v_4 "Remove" fun f_5 r_6 =>DD f_5 [r_6,.s key1] fun X7=>Ad m0 fun B8 O9=>Ot B8 (O9+2) (Dr) fun (t_10:TypeId) (v_11:Value)=>
 F8 PR t_10 v_11 "Load" fun f_12 r_13 =>DD f_12 [r_13,.s key1] fun X14=>Q (.tuple #[])):=by kernel_rfl
theorem Yu:T6 jn Q (us 1 ((pq w1b w1o)::us 17 []))=(Ef w1b w1o λX8=>Ef w1b (w1o+1) λX9=>Ef w1b ((w1o+1)+1) λX10=>Ef w1b (((w1o+1)+1)+1) λX11=>Ef w1b ((((w1o+1)+1)+1)+1) λX12=>wcu 142 [.agg #[.int .u64 X8,.int .u64 X9,.int .u64 X10,.int .u64 X11,.int .u64 X12]] λX13=>Q (.b (X13==4294967296))):=by kernel_rfl
theorem Nl{t5_0 t5_1 t5_2 t5_3 t5_4:Int}:Pn jn Q (m1+1) w1b w1o t5_0 t5_1 t5_2 t5_3 t5_4 t6=(Aj (decide (t6<5)) (Bw ((0:Int)<=t6/\t6<((5:Nat):Int))<|λw=>∃X7:Int,([.int .u64 t5_0,.int .u64 t5_1,.int .u64 t5_2,.int .u64 t5_3,.int .u64 t5_4]:List Value)[t6.toNat]? = some (.int .u64 X7)/\CV (.int .u64 X7)=false/\(Aj (decide (X7<42949672)) (Q (.b false)) (Aj (decide (X7>4294967296)) (Q (.b false)) (Pn jn Q m1 w1b w1o t5_0 t5_1 t5_2 t5_3 t5_4 (IntKind.wrap .i64 (t6+1))))) w) (Awv jn Q w1b w1o)):=by kernel_rfl
theorem Aoh:Au jn PR Pm Tryz.f138 [.agg #[.int .u64 w0_0,.int .u64 w0_1,.int .u64 w0_2,.int .u64 w0_3,.int .u64 w0_4]] Q=(A1 [.int .u64 w0_0,.int .u64 w0_1,.int .u64 w0_2,.int .u64 w0_3,.int .u64 w0_4] 140 λB1=>Ef B1 0 λX2=>Ef B1 1 λX3=>Ef B1 2 λX4=>Ef B1 3 λX5=>Ef B1 4 λX6=>DH λm=>Pn jn Q m B1 0 X2 X3 X4 X5 X6 0):=by kernel_rfl
theorem Aoi{b1:Int}:Au jn PR Aw Tryz.f139 [.int .u64 a0,.int .u64 b1] Q=(wcu 143 [.int .u64 a0,.int .u64 b1,.int .u64 4294967296] λX1=>Q (.int .u64 X1)):=by kernel_rfl
theorem Yv:T7 jn Q (us 3 ((.int .u64 x3)::us 9 []))=(Q (.int .u64 x3)):=by kernel_rfl
theorem Nm:Pp jn Q (m1+1) x3 t5 t6=(Aj (decide (t6<t5)) (Bw ((10:Int)≠0)<|Pp jn Q m1 (IntKind.wrap .u64 (Int.tdiv (IntKind.wrap .u64 (x3*9)) 10)) t5 (IntKind.wrap .i64 (t6+1))) (Awy jn Q x3)):=by kernel_rfl
theorem Aoj{k0:Int}:Au jn PR Po Tryz.f140 [.i k0] Q=(Cc 72 [.i k0,.i 0,.i 15] λX1=>DH λm=>Pp jn Q m 4294967296 X1 0):=by kernel_rfl
theorem Aok{ghosts0 all1:Int}:Au jn PR Aw Tryz.f141 [.i ghosts0,.i all1] Q=(Cc 72 [.i ghosts0,.i 0,.i 1099511627776] λX1=>Cc 72 [.i all1,.i 0,.i 1099511627776] λX2=>Aj (X2==0) (Q (.i 0)) (Bw (X2≠0)<|Q (.i (if 15<(IntKind.wrap .i64 (Int.tdiv (IntKind.wrap .i64 (16*X1)) X2)) then 15 else (IntKind.wrap .i64 (Int.tdiv (IntKind.wrap .i64 (16*X1)) X2)))))):=by kernel_rfl
theorem Yw:T8 jn Q (us 3 ((.int .u64 sum3)::us 11 []))=(Q (.int .u64 sum3)):=by kernel_rfl
theorem Nn{t6_0 t6_1 t6_2 t6_3 t6_4:Int}:Pr jn Q (m1+1) sum3 t6_0 t6_1 t6_2 t6_3 t6_4 t7=(Aj (decide (t7<5)) (Bw ((0:Int)<=t7/\t7<((5:Nat):Int))<|λw=>∃X7:Int,([.int .u64 t6_0,.int .u64 t6_1,.int .u64 t6_2,.int .u64 t6_3,.int .u64 t6_4]:List Value)[t7.toNat]? = some (.int .u64 X7)/\CV (.int .u64 X7)=false/\(Pr jn Q m1 (IntKind.wrap .u64 (sum3+X7)) t6_0 t6_1 t6_2 t6_3 t6_4 (IntKind.wrap .i64 (t7+1))) w) (Aw0 jn Q sum3)):=by kernel_rfl
theorem Aol:Au jn PR Pq Tryz.f142 [.agg #[.int .u64 w0_0,.int .u64 w0_1,.int .u64 w0_2,.int .u64 w0_3,.int .u64 w0_4]] Q=(A1 [.int .u64 w0_0,.int .u64 w0_1,.int .u64 w0_2,.int .u64 w0_3,.int .u64 w0_4] 140 λB1=>Ef B1 0 λX2=>Ef B1 1 λX3=>Ef B1 2 λX4=>Ef B1 3 λX5=>Ef B1 4 λX6=>DH λm=>Pr jn Q m 0 X2 X3 X4 X5 X6 0):=by kernel_rfl
theorem Aom{num1 den2:Int}:Au jn PR Aw Tryz.f143 [.int .u64 a0,.int .u64 num1,.int .u64 den2] Q=(Hd (.int .u64) (.int .u64) PR 169 [.int .u64 a0,.int .u64 num1] λ(X1:Int)(X2:Int)=>Aj (decide (X1>=den2)) (Q (.int .u64 18446744073709551615)) (Hd (.int .u64) (.int .u64) PR 170 [.int .u64 X1,.int .u64 X2,.int .u64 den2] λ(X3:Int)(X4:Int)=>Q (.int .u64 X3))):=by kernel_rfl
theorem Aon:Au jn PR Aw Tryz.f144 [.p m0,.i kind1] Q=(Aj (Option.isNone m0) (Q (.i 1)) (Ad m0 λB1 O2=>Ay B1 (O2+1) λX3=>Q1 (.int .i64) PR 113 [.i kind1,.i X3] (λ(X4:Int)=>Aj (X4 != 0) (Q (.i X4)) (Cc 145 [.p m0] λX7=>Ad m0 λB8 O9=>Ot B8 (O9+2) (Ad m0 λB12 O13=>st B12 O13 (.i kind1)<|Ad m0 λB14 O15=>st B14 (O15+2) .nilIface<|Ad m0 λB16 O17=>st B16 (O17+3) .nilIface<|Q (.i 0)) λ(t_10:TypeId)(v_11:Value)=>Ad m0 λB18 O19=>st B18 O19 (.i kind1)<|Ad m0 λB20 O21=>
 st B20 (O21+2) .nilIface<|Ad m0 λB22 O23=>st B22 (O23+3) (.iface t_10 v_11)<|Q (.i 0))) λ(t_5:TypeId)(v_6:Value)(X4:Int)=>Aj (X4 != 0) (Q (.i X4)) (Cc 145 [.p m0] λX24=>Ad m0 λB25 O26=>Ot B25 (O26+2) (Ad m0 λB29 O30=>st B29 O30 (.i kind1)<|Ad m0 λB31 O32=>st B31 (O32+2) (.iface t_5 v_6)<|Ad m0 λB33 O34=>st B33 (O34+3) .nilIface<|Q (.i 0)) λ(t_27:TypeId)(v_28:Value)=>Ad m0 λB35 O36=>st B35 O36 (.i kind1)<|Ad m0 λB37 O38=>st B37 (O38+2) (.iface t_5 v_6)<|Ad m0 λB39 O40=>st B39 (O40+3) (.iface t_27 v_28)<|Q (.i 0)))):=by kernel_rfl
theorem Yx:T9 jn Q (us 3 ((.i n3)::us 13 []))=(Q (.i n3)):=by kernel_rfl
theorem Jk:JJ jn Q (m1+1) m0 n3=(DD 42 [.p m0] λX1=>Aj X1 (Fi 99 [.p m0] λX2 X3=>Aj X3 (JJ jn Q m1 m0 (IntKind.wrap .i64 (n3+1))) (JJ jn Q m1 m0 n3)) (Aw2 jn Q n3)):=by kernel_rfl
theorem Aoo:Au jn PR Pt Tryz.f145 [.p m0] Q=(DH λm=>JJ jn Q m m0 0):=by kernel_rfl
theorem Yy:TA jn Q (us 8 ((.iface e8_t e8_v)::us 23 []))=(Q (.tuple #[.iface e8_t e8_v,.i 0])):=by kernel_rfl
theorem No{t21:Sl}{t22 t23:Int}:Pu jn Q (m3+1) e8_t e8_v t21 t22 t23=(Aj (decide (t23<t22)) (CB t21.a t21.n t23 λB7 O8=>Ch B7 (O8+t23.toNat*1) λX9=>
 F8 PR e8_t e8_v "Load" fun f_10 r_11 =>DD f_10 [r_11,.s X9] fun X12=>Pu jn Q m3 e8_t e8_v t21 t22 (IntKind.wrap .i64 (t23+1))) (Aw3 jn Q e8_t e8_v)):=by kernel_rfl
theorem Aop{keys2:Sl}:Au jn PR L1 Tryz.f146 [.i kind0,.i room1,.l keys2.a keys2.n keys2.c] Q=(Q1 (.int .i64) PR 113 [.i kind0,.i room1] (λ(X1:Int)=>Aj (X1 != 0) (Q (.tuple #[.nilIface,.i X1])) (DH λm=>Aw4 jn Q m keys2 (keys2.n:Int) 0)) λ(t_2:TypeId)(v_3:Value)(X1:Int)=>Aj (X1 != 0) (Q (.tuple #[.nilIface,.i X1])) (DH λm=>Pu jn Q m t_2 v_3 keys2 (keys2.n:Int) 0)):=by kernel_rfl
theorem Aoq:Au jn PR Aw Tryz.f147 [.i room0] Q=(Cc 72 [.i room0,.i 1,.i 1024] λX1=>Lf 171 [] λX2=>Lf 172 [.int .u64 0] λX3=>A1 [.i X1,.p X2,.p X3] 238 λB4=>Q (pq B4 0)):=by kernel_rfl
theorem Aor{e0_0 e0_1:BA}{e0_2:Int}:Au jn PR Aw Tryz.f148 [.agg #[.s e0_0,.s e0_1,.i e0_2],.i now1] Q=(A1 [.s e0_0,.s e0_1,.i e0_2] 173 λB1=>Ay B1 2 λX2=>Aj (decide (X2>0)) (Ay B1 2 λX3=>Q (.b (decide (X3<=now1)))) (Q (.b false))):=by kernel_rfl
theorem Aos:Au jn PR Aw Tryz.f151 [.i room0] Q=(λw=>Calls PR 184 #[.i 4] w λe w'=>∃X1:Sl,∃X2:OA,e = .returned (.agg #[.l X1.a X1.n X1.c,.p X2])/\(A1 [.l X1.a X1.n X1.c,.p X2,.i (if (if 1024<room0 then 1024 else room0)>1 then (if 1024<room0 then 1024 else room0) else 1),.i 0] 266 λB3=>Q (pq B3 0)) w'):=by kernel_rfl
theorem Aot:Au jn PR Aw Tryz.f152 [.i room0] Q=(Bw ((10:Int)≠0)<|Lf 171 [] λX1=>Lf 171 [] λX2=>Lf 185 [.int .u64 0] λX3=>A1 [.i (if (if 1024<room0 then 1024 else room0)>1 then (if 1024<room0 then 1024 else room0) else 1),.i (IntKind.wrap .i64 ((if (if 1024<room0 then 1024 else room0)>1 then (if 1024<room0 then 1024 else room0) else 1)-(if (IntKind.wrap .i64 (Int.tdiv (if (if 1024<room0 then 1024 else room0)>1 then (if 1024<room0 then 1024 else room0) else 1) 10))>1 then (IntKind.wrap .i64 (Int.tdiv (if (if 1024<room0 then 1024 else room0)>1 then (if 1024<room0 then 1024 else room0) else 1) 10)) else 1))),.p X1,.p X2,.p X3,.i 0,.i 0] 272 λB4=>
 Q (pq B4 0)):=by kernel_rfl
theorem Aou:Au jn PR Aw Tryz.f153 [.i room0] Q=(λw=>Calls PR 186 #[.i 3] w λe w'=>∃X1:Sl,∃X2:OA,e = .returned (.agg #[.l X1.a X1.n X1.c,.p X2])/\(Bw ((4:Int)≠0)<|Bw ((2:Int)≠0)<|A1 [.l X1.a X1.n X1.c,.p X2,.i (if (if 1024<room0 then 1024 else room0)>1 then (if 1024<room0 then 1024 else room0) else 1),.i (if (IntKind.wrap .i64 (Int.tdiv (if (if 1024<room0 then 1024 else room0)>1 then (if 1024<room0 then 1024 else room0) else 1) 4))>1 then (IntKind.wrap .i64 (Int.tdiv (if (if 1024<room0 then 1024 else room0)>1 then (if 1024<room0 then 1024 else room0) else 1) 4)) else 1),.i (if (IntKind.wrap .i64 (Int.tdiv (if (if 1024<room0 then 1024 else room0)>1 then (if 1024<room0 then 1024 else room0) else 1) 2))>1 then (IntKind.wrap .i64 (Int.tdiv (if (if 1024<room0 then 1024 else room0)>1 then (if 1024<room0 then 1024 else room0) else 1) 2)) else 1)] 278 λB3=>
 Q (pq B3 0)) w'):=by kernel_rfl
theorem Aov:Au jn PR Aw Tryz.f154 [.i room0] Q=(Bw ((8:Int)≠0)<|λw=>Calls PR 187 #[.i 3] w λe w'=>∃X1:Sl,∃X2:OA,e = .returned (.agg #[.l X1.a X1.n X1.c,.p X2])/\(Bw ((5:Int)≠0)<|Lf 188 [.i (if (if 1024<room0 then 1024 else room0)>1 then (if 1024<room0 then 1024 else room0) else 1)] λX3=>Lf 189 [.i (if (if 1024<room0 then 1024 else room0)>1 then (if 1024<room0 then 1024 else room0) else 1)] λX4=>A1 [.l X1.a X1.n X1.c,.p X2,.i (if (if 1024<room0 then 1024 else room0)>1 then (if 1024<room0 then 1024 else room0) else 1),.i (if (IntKind.wrap .i64 (Int.tdiv (if (if 1024<room0 then 1024 else room0)>1 then (if 1024<room0 then 1024 else room0) else 1) 8))>1 then (IntKind.wrap .i64 (Int.tdiv (if (if 1024<room0 then 1024 else room0)>1 then (if 1024<room0 then 1024 else room0) else 1) 8)) else 1),.i (IntKind.wrap .i64 ((if (if 1024<room0 then 1024 else room0)>1 then (if 1024<room0 then 1024 else room0) else 1)-(if (IntKind.wrap .i64 (Int.tdiv (if (if 1024<room0 then 1024 else room0)>1 then (if 1024<room0 then 1024 else room0) else 1) 8))>1 then (IntKind.wrap .i64 (Int.tdiv (if (if 1024<room0 then 1024 else room0)>1 then (if 1024<room0 then 1024 else room0) else 1) 8)) else 1))),.i (IntKind.wrap .i64 (Int.tdiv (IntKind.wrap .i64 ((IntKind.wrap .i64 ((if (if 1024<room0 then 1024 else room0)>1 then (if 1024<room0 then 1024 else room0) else 1)-(if (IntKind.wrap .i64 (Int.tdiv (if (if 1024<room0 then 1024 else room0)>1 then (if 1024<room0 then 1024 else room0) else 1) 8))>1 then (IntKind.wrap .i64 (Int.tdiv (if (if 1024<room0 then 1024 else room0)>1 then (if 1024<room0 then 1024 else room0) else 1) 8)) else 1)))*4)) 5)),.p X3,.p X4] 288 λB5=>
 Q (pq B5 0)) w'):=by kernel_rfl
theorem Aow:Au jn PR Aw Tryz.f155 [.i room0] Q=(Bw ((10:Int)≠0)<|λw=>Calls PR 190 #[.i 3] w λe w'=>∃X1:Sl,∃X2:OA,e = .returned (.agg #[.l X1.a X1.n X1.c,.p X2])/\(Lf 172 [.int .u64 0] λX3=>A1 [.l X1.a X1.n X1.c,.p X2,.i (if (if 1024<room0 then 1024 else room0)>1 then (if 1024<room0 then 1024 else room0) else 1),.i (if (IntKind.wrap .i64 (Int.tdiv (if (if 1024<room0 then 1024 else room0)>1 then (if 1024<room0 then 1024 else room0) else 1) 10))>1 then (IntKind.wrap .i64 (Int.tdiv (if (if 1024<room0 then 1024 else room0)>1 then (if 1024<room0 then 1024 else room0) else 1) 10)) else 1),.i (if (IntKind.wrap .i64 ((if (if 1024<room0 then 1024 else room0)>1 then (if 1024<room0 then 1024 else room0) else 1)-(if (IntKind.wrap .i64 (Int.tdiv (if (if 1024<room0 then 1024 else room0)>1 then (if 1024<room0 then 1024 else room0) else 1) 10))>1 then (IntKind.wrap .i64 (Int.tdiv (if (if 1024<room0 then 1024 else room0)>1 then (if 1024<room0 then 1024 else room0) else 1) 10)) else 1)))>1 then (IntKind.wrap .i64 ((if (if 1024<room0 then 1024 else room0)>1 then (if 1024<room0 then 1024 else room0) else 1)-(if (IntKind.wrap .i64 (Int.tdiv (if (if 1024<room0 then 1024 else room0)>1 then (if 1024<room0 then 1024 else room0) else 1) 10))>1 then (IntKind.wrap .i64 (Int.tdiv (if (if 1024<room0 then 1024 else room0)>1 then (if 1024<room0 then 1024 else room0) else 1) 10)) else 1))) else 1),.p X3] 294 λB4=>
 Q (pq B4 0)) w'):=by kernel_rfl
theorem Aox{x0:Int}:Au jn PR Aw Tryz.f156 [.int .u64 x0] Q=(Bw ((0:Int)<=(30:Int))<|Bw ((0:Int)<=(27:Int))<|Bw ((0:Int)<=(31:Int))<|Q (.int .u64 (bits .xor .u64 (IntKind.wrap .u64 ((bits .xor .u64 (IntKind.wrap .u64 ((bits .xor .u64 x0 (Dq .u64 x0 30))*13787848793156543929)) (Dq .u64 (IntKind.wrap .u64 ((bits .xor .u64 x0 (Dq .u64 x0 30))*13787848793156543929)) 27))*10723151780598845931)) (Dq .u64 (IntKind.wrap .u64 ((bits .xor .u64 (IntKind.wrap .u64 ((bits .xor .u64 x0 (Dq .u64 x0 30))*13787848793156543929)) (Dq .u64 (IntKind.wrap .u64 ((bits .xor .u64 x0 (Dq .u64 x0 30))*13787848793156543929)) 27))*10723151780598845931)) 31)))):=by kernel_rfl
theorem Y2:TD jn Q m1 ((.p x0)::(.s key1)::us 4 ((.i free6)::(.i i7)::us 71 []))=(Ad x0 λB23 O24=>Bu B23 (O24+1) λX25=>Bw ((X25.n:Int)≠0)<|Pv jn Q m1 x0 key1 free6 (Int.tmod (IntKind.wrap .i64 (i7+1)) (X25.n:Int))):=by kernel_rfl
theorem Y3{t61:Bool}:TE jn Q m1 ((.p x0)::(.s key1)::us 4 ((.i free6)::(.i i7)::(pq p8b p8o)::us 52 ((.b t61)::us 17 [])))=(Aj t61 (Q (.tuple #[.i i7,.b false])) (Ad (some ⟨p8b,p8o,none⟩) λB29 O30=>Ay B29 O30 λX31=>Aj (X31==0) (Q (.tuple #[.i free6,.b false])) (VR jn Q m1 x0 key1 free6 i7))):=by kernel_rfl
theorem Y1{t50:Bool}:TC jn Q m1 ((.p x0)::(.s key1)::us 4 ((.i free6)::(.i i7)::(pq p8b p8o)::us 41 ((.b t50)::us 28 [])))=(Aj t50 (VR jn Q m1 x0 key1 i7 i7) (Ad (some ⟨p8b,p8o,none⟩) λB26 O27=>Ay B26 O27 λX28=>Aj (X28==0) (VS jn Q m1 x0 key1 free6 i7 p8b p8o (decide (free6<0))) (VS jn Q m1 x0 key1 free6 i7 p8b p8o false))):=by kernel_rfl
theorem Y0{t35:Bool}:TB jn Q m1 ((.p x0)::(.s key1)::us 4 ((.i free6)::(.i i7)::(pq p8b p8o)::us 26 ((.b t35)::us 43 [])))=(Aj t35 (Q (.tuple #[.i i7,.b true])) (Ad (some ⟨p8b,p8o,none⟩) λB20 O21=>Ay B20 O21 λX22=>Aj (X22==1) (VQ jn Q m1 x0 key1 free6 i7 p8b p8o (decide (free6<0))) (VQ jn Q m1 x0 key1 free6 i7 p8b p8o false))):=by kernel_rfl
theorem Y4:Pv jn Q (m1+1) x0 key1 free6 i7=(Ad x0 λB9 O10=>Bu B9 (O10+1) λX11=>CB X11.a X11.n i7 λB12 O13=>Ad (some ⟨B12,(O13+i7.toNat*4),none⟩) λB14 O15=>Ay B14 O15 λX16=>Aj (X16==2) (Ad (some ⟨B12,(O13+i7.toNat*4),none⟩) λB17 O18=>Ch B17 (O18+1) λX19=>VP jn Q m1 x0 key1 free6 i7 B12 (O13+i7.toNat*4) (Vr X19 key1)) (VP jn Q m1 x0 key1 free6 i7 B12 (O13+i7.toNat*4) false)):=by kernel_rfl
theorem Aoy:Au jn PR AI Tryz.f158 [.p x0,.s key1] Q=(A5 λS=>Ad x0 λB1 O2=>wLu S B1 O2 λX3=>Ad x0 λB4 O5=>F5 S B4 (O5+1) λX6=>wcu 117 [.int .u64 X3,.s key1] λX7=>Ap true S<|Cc 116 [.int .u64 X7,.i (X6.n:Int)] λX8=>DH λm=>Pv jn Q m x0 key1 (-1) X8):=by kernel_rfl
theorem Aoz:Au jn PR Aw Tryz.f159 [.p x0,.s key1] Q=(F0 192 [.p x0,.s key1] λX1 X2=>Aj X2 (F0 193 [.p x0,.s key1] λX3 X4=>Ad x0 λB5 O6=>Bu B5 (O6+1) λX7=>CB X7.a X7.n X3 λB8 O9=>st B8 (O9+X3.toNat*3) (.i 1)<|st B8 ((O9+X3.toNat*3)+1) (.s Af)<|st B8 (((O9+X3.toNat*3)+1)+1) (.i 0)<|Ad x0 λB10 O11=>Ay B10 (O11+2) λX12=>Ad x0 λB13 O14=>st B13 (O14+2) (.i (IntKind.wrap .i64 (X12-1)))<|Q (.tuple #[.i X1,.b X2])) (
 Q (.tuple #[.i X1,.b X2]))):=by kernel_rfl
theorem Ao0:Au jn PR Aw Tryz.f160 [.p l0,.i h1] Q=(Fi 164 [.p l0,.i h1] λX1 X2=>Aj X2 (wz 194 [.p l0,.i h1]<|Ad l0 λB3 O4=>Bu B3 O4 λX5=>CB X5.a X5.n h1 λB6 O7=>st B6 (O7+h1.toNat*4) (.s Af)<|st B6 ((O7+h1.toNat*4)+1) (.i 0)<|st B6 (((O7+h1.toNat*4)+1)+1) (.i 0)<|st B6 ((((O7+h1.toNat*4)+1)+1)+1) (.b false)<|Ad l0 λB8 O9=>Bu B8 (O9+1) λX10=>A1 [.i h1] 3 λB11=>AU 3 1 8 [.i 0] ⟨X10.a,X10.n,X10.c⟩ 1 (λw=>F9 w (some ⟨B11,0,none⟩) (1*1)) λG12=>
 Ad l0 λB13 O14=>st B13 (O14+1) (.l G12.a G12.n G12.c)<|Ad l0 λB15 O16=>Ay B15 (O16+2) λX17=>Ad l0 λB18 O19=>st B18 (O19+2) (.i (IntKind.wrap .i64 (X17-1)))<|Q (.tuple #[.s X1,.b X2])) (Q (.tuple #[.s X1,.b X2]))):=by kernel_rfl
theorem Ao1{v2:Int}:Au jn PR Aw8 Tryz.f161 [.p x0,.s key1,.i v2] Q=(Aj (Option.isNone x0) (Q (.b false)) (F0 193 [.p x0,.s key1] λX1 X2=>Aj X2 (Ad x0 λB3 O4=>Bu B3 (O4+1) λX5=>CB X5.a X5.n X1 λB6 O7=>st B6 ((O7+X1.toNat*3)+2) (.i v2)<|Q (.b false)) (wz 195 [.p x0,.i X1,.s key1,.i v2]<|A5 λS=>Ad x0 λB8 O9=>Ez S B8 (O9+3) λX10=>Ad x0 λB11 O12=>Bu B11 (O12+1) λX13=>Ap true S<|Aj (decide ((IntKind.wrap .i64 (2*X10))>(X13.n:Int))) (
 wz 196 [.p x0]<|Q (.b true)) (Q (.b true))))):=by kernel_rfl
theorem Ao2{v1:BA}:Au jn PR Aw Tryz.f162 [.p l0,.s v1] Q=(Aj (Option.isNone l0) (Q (.i 0)) (Cc 197 [.p l0,.s v1] λX1=>Ad l0 λB2 O3=>Bu B2 O3 λX4=>CB X4.a X4.n 0 λB5 O6=>Ay B5 ((O6+((0:Int)).toNat*4)+1) λX7=>wz 198 [.p l0,.i X1,.i X7,.i 0]<|Q (.i X1))):=by kernel_rfl
theorem Ao3:Au jn PR Aw Tryz.f163 [.p l0] Q=(Aj (Option.isNone l0) (Q (.i 0)) (Ad l0 λB1 O2=>Ay B1 (O2+2) λX3=>Q (.i X3))):=by kernel_rfl
theorem Ao4:Au jn PR Aw Tryz.f164 [.p l0,.i h1] Q=(DD 199 [.p l0,.i h1] λX1=>Aj (!X1) (Q (.tuple #[.s Af,.b false])) (Ad l0 λB2 O3=>Bu B2 O3 λX4=>CB X4.a X4.n h1 λB5 O6=>Ch B5 (O6+h1.toNat*4) λX7=>Q (.tuple #[.s X7,.b true]))):=by kernel_rfl
theorem Ao5:Au jn PR Aw Tryz.f165 [.p l0] Q=(Aj (Option.isNone l0) (Q (.i 0)) (Ad l0 λB1 O2=>Bu B1 O2 λX3=>CB X3.a X3.n 0 λB4 O5=>Ay B4 ((O5+((0:Int)).toNat*4)+2) λX6=>Q (.i X6))):=by kernel_rfl
theorem Np{v7b v7o:Nat}:TF jn Q ((.p x0)::(.i i1)::(.s key2)::us 4 ((pq v7b v7o)::us 32 []))=(A5 λS=>Ad x0 λB13 O14=>F5 S B13 (O14+1) λX15=>Ch v7b v7o λX16=>Ay v7b (v7o+1) λX17=>Ap true S<|CB X15.a X15.n i1 λB18 O19=>st B18 (O19+i1.toNat*4) (.i 2)<|st B18 ((O19+i1.toNat*4)+1) (.s key2)<|st B18 (((O19+i1.toNat*4)+1)+1) (.s X16)<|st B18 ((((O19+i1.toNat*4)+1)+1)+1) (.i X17)<|Ad x0 λB20 O21=>Ay B20 (O21+2) λX22=>Ad x0 λB23 O24=>st B23 (O24+2) (.i (IntKind.wrap .i64 (X22+1)))<|
 Q (.tuple #[])):=by kernel_rfl
theorem Ao6{v3_0:BA}{v3_1:Int}:Au jn PR EM Tryz.f166 [.p x0,.i i1,.s key2,.agg #[.s v3_0,.i v3_1]] Q=(A1 [.s v3_0,.i v3_1] 120 λB1=>Ad x0 λB2 O3=>Bu B2 (O3+1) λX4=>CB X4.a X4.n i1 λB5 O6=>Ay B5 (O6+i1.toNat*4) λX7=>Aj (X7==0) (Ad x0 λB8 O9=>Ay B8 (O9+3) λX10=>Ad x0 λB11 O12=>st B11 (O12+3) (.i (IntKind.wrap .i64 (X10+1)))<|Aha jn Q x0 i1 key2 B1 0) (Aha jn Q x0 i1 key2 B1 0)):=by kernel_rfl
theorem Nq{t28:Sl}{t29 t30:Int}:L3 jn Q (m1+1) x0 t28 t29 t30=(Aj (decide (t30<t29)) (CB t28.a t28.n t30 λB14 O15=>Ay B14 (O15+t30.toNat*4) λX16=>Ch B14 ((O15+t30.toNat*4)+1) λX17=>Ch B14 (((O15+t30.toNat*4)+1)+1) λX18=>Ay B14 ((((O15+t30.toNat*4)+1)+1)+1) λX19=>A1 [.i 0,.s Af,.s Af,.i 0] 178 λB20=>st B20 0 (.i X16)<|st B20 1 (.s X17)<|st B20 2 (.s X18)<|st B20 3 (.i X19)<|Ay B20 0 λX21=>Aj (X21==2) (Ch B20 1 λX22=>F0 158 [.p x0,.s X22] λX23 X24=>
 Ch B20 1 λX25=>Ch B20 2 λX26=>Ay B20 3 λX27=>wz 166 [.p x0,.i X23,.s X25,.agg #[.s X26,.i X27]]<|L3 jn Q m1 x0 t28 t29 (IntKind.wrap .i64 (t30+1))) (L3 jn Q m1 x0 t28 t29 (IntKind.wrap .i64 (t30+1)))) (Q (.tuple #[]))):=by kernel_rfl
theorem Ao7:Au jn PR Ec Tryz.f167 [.p x0] Q=(Ad x0 λB1 O2=>Bu B1 (O2+1) λX3=>Ad x0 λB4 O5=>Ay B4 (O5+2) λX6=>Ht 178 48 [.i 0,.s Af,.s Af,.i 0] (if (IntKind.wrap .i64 (4*(IntKind.wrap .i64 (X6+1))))>8 then (IntKind.wrap .i64 (4*(IntKind.wrap .i64 (X6+1)))) else 8) (if (IntKind.wrap .i64 (4*(IntKind.wrap .i64 (X6+1))))>8 then (IntKind.wrap .i64 (4*(IntKind.wrap .i64 (X6+1)))) else 8) λG7=>Ad x0 λB8 O9=>st B8 (O9+1) (.l G7.a G7.n G7.c)<|Ad x0 λB10 O11=>st B10 (O11+2) (.i 0)<|Ad x0 λB12 O13=>st B12 (O13+3) (.i 0)<|DH λm=>L3 jn Q m x0 X3 (X3.n:Int) 0):=by kernel_rfl
theorem Y8{t13:Bool}:TH jn Q ((.p f0)::us 2 ((.b r3)::us 9 ((.b t13)::us 32 [])))=(Aj t13 (Ad f0 λB13 O14=>Q (.p (some ⟨B13,(O14+5),none⟩))) (Aj r3 (Ad f0 λB15 O16=>Q (pq B15 O16)) (Q (.p none)))):=by kernel_rfl
theorem Y7{w4 t13:Bool}:TG jn Q ((.p f0)::us 2 ((.b r3)::(.b w4)::us 8 ((.b t13)::us 32 [])))=(Aj t13 (Px jn Q f0 r3 t13) (Aj w4 (Px jn Q f0 r3 (!r3)) (Px jn Q f0 r3 false))):=by kernel_rfl
theorem Ao8:Au jn PR L5 Tryz.f168 [.p f0] Q=(A5 λS=>Ad f0 λB1 O2=>Ad f0 λB3 O4=>DD 200 [pq B1 O2] λX5=>DD 200 [.p (some ⟨B3,(O4+5),none⟩)] λX6=>A5 λS=>Aj X5 (Aj X6 (Ad f0 λB7 O8=>Ez S B7 (((O8+5)+1)+2) λX9=>Ad f0 λB10 O11=>Ay B10 ((O11+1)+2) λX12=>Ap true S<|Pw jn Q f0 X5 X6 (decide (X9<X12))) (Ap true S<|Pw jn Q f0 X5 X6 false)) (Ap true S<|Pw jn Q f0 X5 X6 false)):=by kernel_rfl
theorem Ao9{x0 y1:Int}:Au jn PR Aw Tryz.f169 [.int .u64 x0,.int .u64 y1] Q=(Bw ((0:Int)<=(32:Int))<|Bw ((0:Int)<=(32:Int))<|Bw ((0:Int)<=(32:Int))<|Bw ((0:Int)<=(32:Int))<|Bw ((0:Int)<=(32:Int))<|Q (.tuple #[.int .u64 (IntKind.wrap .u64 ((IntKind.wrap .u64 ((IntKind.wrap .u64 ((Dq .u64 x0 32)*(Dq .u64 y1 32)))+(Dq .u64 (IntKind.wrap .u64 ((IntKind.wrap .u64 ((Dq .u64 x0 32)*(bits .and .u64 y1 4294967295)))+(Dq .u64 (IntKind.wrap .u64 ((bits .and .u64 x0 4294967295)*(bits .and .u64 y1 4294967295))) 32))) 32)))+(Dq .u64 (IntKind.wrap .u64 ((bits .and .u64 (IntKind.wrap .u64 ((IntKind.wrap .u64 ((Dq .u64 x0 32)*(bits .and .u64 y1 4294967295)))+(Dq .u64 (IntKind.wrap .u64 ((bits .and .u64 x0 4294967295)*(bits .and .u64 y1 4294967295))) 32))) 4294967295)+(IntKind.wrap .u64 ((bits .and .u64 x0 4294967295)*(Dq .u64 y1 32))))) 32))),.int .u64 (IntKind.wrap .u64 (x0*y1))])):=by kernel_rfl
theorem Apa:Au jn PR Aw Tryz.f171 [] Q=(Ht 302 40 [.s Af,.i 0,.i 0,.b false] 1 1 λG1=>A1 [.l G1.a G1.n G1.c,.l none 0 0,.i 0] 305 λB2=>Q (pq B2 0)):=by kernel_rfl
theorem Apb:Au jn PR Aw Tryz.f172 [.int .u64 seed0] Q=(Ht 297 32 [.i 0,.s Af,.i 0] 8 8 λG1=>A1 [.int .u64 seed0,.l G1.a G1.n G1.c,.i 0,.i 0] 300 λB2=>Q (pq B2 0)):=by kernel_rfl
theorem Apc:Au jn PR Aw Tryz.f185 [.int .u64 seed0] Q=(Ht 387 48 [.i 0,.s Af,.i 0,.i 0,.i 0] 8 8 λG1=>A1 [.int .u64 seed0,.l G1.a G1.n G1.c,.i 0,.i 0] 320 λB2=>Q (pq B2 0)):=by kernel_rfl
theorem Nr:TI jn Q (us 3 ((.i n3)::us 13 []))=(Bw ((2:Int)≠0)<|Ht 5 1 [.int .u8 0] (IntKind.wrap .i64 (Int.tdiv (IntKind.wrap .i64 (4*n3)) 2)) (IntKind.wrap .i64 (Int.tdiv (IntKind.wrap .i64 (4*n3)) 2)) λG2=>A1 [.i n3,.l G2.a G2.n G2.c,.i 0] 329 λB3=>Q (pq B3 0)):=by kernel_rfl
theorem Ns:Py jn Q (m1+1) room0 n3=(Cc 72 [.i room0,.i 1,.i 1024] λX1=>Aj (decide (n3<X1)) (Py jn Q m1 room0 (IntKind.wrap .i64 (n3*2))) (Axk jn Q n3)):=by kernel_rfl
theorem Apd:Au jn PR Hg Tryz.f188 [.i room0] Q=(DH λm=>Py jn Q m room0 8):=by kernel_rfl
end Go.Proofs.YtjipofkjmmpjdaaGreat
namespace Go.Proofs.YtjipofkjmmpjdaaGreat
open Go.Hb
section
variable(jn:Jn)(Q:VW)
def Axl:EW:=sE Tryz.f189 Hg jn Q [1,1,1] (rE Tryz.f189 Q) A6
def TJ:EW:=cE Tryz.f189 Hg jn Q [1,1,1] (rE Tryz.f189 Q) A6
def Ahb(n3:Int):WP:=jn 10 (TJ jn Q) (us 3 ((.i n3)::us 13 []))
def Pz(m1:Nat)(room0 n3:Int):WP:=Dp PR Hg jn (bE Tryz.f189 [1,1,0,0,0]) (A8 0 (Axl jn Q) A6) (rE Tryz.f189 Q) m1 ((.i room0)::us 2 ((.i n3)::us 13 []))
def Axm:EW:=sE Tryz.f190 Dz jn Q [1,1,1] (rE Tryz.f190 Q) A6
def Ajn:EW:=cE Tryz.f190 Dz jn Q [1,1,1] (rE Tryz.f190 Q) A6
def Axn(m1:Nat)(t2b t2o r3b r3o:Nat)(t6 t7:Int):WP:=Dp PR Dz jn (bE Tryz.f190 [1,1,0,1,0,0]) (A8 0 (Axm jn Q) A6) (rE Tryz.f190 Q) m1 (us 2 ((pq t2b t2o)::(pq r3b r3o)::us 2 ((.i t6)::(.i t7)::us 9 [])))
def Ahc(m1:Nat):EW:=HZ PR AI jn (bE Tryz.f193 [1,1,1,0,0]) (A8 0 (rE Tryz.f193 Q) A6) (rE Tryz.f193 Q) m1
def L6(m1:Nat):EW:=sE Tryz.f193 AI jn Q [1,1,1,0,0,1] (Ahc jn Q m1) (A8 0 (rE Tryz.f193 Q) A6)
def Axo(m1:Nat):Nat->EW:=A8 1 (L6 jn Q m1) (A8 0 (rE Tryz.f193 Q) A6)
def VV(m1:Nat):Nat->EW:=A8 2 (L6 jn Q m1) (Axo jn Q m1)
def TM(m1:Nat):EW:=cE Tryz.f193 AI jn Q [1,1,1,0,0,1] (Ahc jn Q m1) (A8 0 (rE Tryz.f193 Q) A6)
def VZ(m1:Nat)(x0:OA)(key1:BA)(free6 i7:Int):WP:=jn 8 (TM jn Q m1) ((.p x0)::(.s key1)::us 4 ((.i free6)::(.i i7)::us 71 []))
def TN(m1:Nat):EW:=cE Tryz.f193 AI jn Q [1,1,1,0,0,0,0,1,0,1,1,1,1,1] (L6 jn Q m1) (VV jn Q m1)
def Wa(m1:Nat)(x0:OA)(key1:BA)(free6 i7:Int)(p8b p8o:Nat)(t61:Bool):WP:=jn 22 (TN jn Q m1) ((.p x0)::(.s key1)::us 4 ((.i free6)::(.i i7)::(pq p8b p8o)::us 52 ((.b t61)::us 17 [])))
def TL(m1:Nat):EW:=cE Tryz.f193 AI jn Q [1,1,1,0,0,0,0,1,0,1,1,1] (L6 jn Q m1) (VV jn Q m1)
def VY(m1:Nat)(x0:OA)(key1:BA)(free6 i7:Int)(p8b p8o:Nat)(t50:Bool):WP:=jn 18 (TL jn Q m1) ((.p x0)::(.s key1)::us 4 ((.i free6)::(.i i7)::(pq p8b p8o)::us 41 ((.b t50)::us 28 [])))
def TK(m1:Nat):EW:=cE Tryz.f193 AI jn Q [1,1,1,0,0,0,0,1,0,1] (L6 jn Q m1) (VV jn Q m1)
def VX(m1:Nat)(x0:OA)(key1:BA)(free6 i7:Int)(p8b p8o:Nat)(t35:Bool):WP:=jn 14 (TK jn Q m1) ((.p x0)::(.s key1)::us 4 ((.i free6)::(.i i7)::(pq p8b p8o)::us 26 ((.b t35)::us 43 [])))
def P0(m1:Nat)(x0:OA)(key1:BA)(free6 i7:Int):WP:=Dp PR AI jn (bE Tryz.f193 [1,1,1,0,0]) (A8 0 (rE Tryz.f193 Q) A6) (rE Tryz.f193 Q) m1 ((.p x0)::(.s key1)::us 4 ((.i free6)::(.i i7)::us 71 []))
def Axp:KP:=⟨[],[(0,[0,1,2,3,4,5,6,7,8,9,10,12,13,14,16,17]),(1,[0,1,2,3,4,5,6,7,9,10,11,12,13,15,16])]⟩
def Ahe:KP:=⟨[(6,[0,1,2,3])],[]⟩
def TO:EW:=cE Tryz.f195 Ahe jn Q [1] (rE Tryz.f195 Q) A6
def Ahd(x0:OA)(i1:Int)(key2:BA)(v3:Int):WP:=jn 6 (TO jn Q) ((.p x0)::(.i i1)::(.s key2)::(.i v3)::us 36 [])
def L7(m1:Nat)(x0:OA)(t28:Sl)(t29 t30:Int):WP:=Dp PR Ec jn (bE Tryz.f196 [1,1,1,0,0]) (A8 0 (rE Tryz.f196 Q) A6) (rE Tryz.f196 Q) m1 ((.p x0)::us 27 ((.l t28.a t28.n t28.c)::(.i t29)::(.i t30)::us 21 []))
def Ahg:KP:=⟨[(16,[0,1,5])],[]⟩
def TP:EW:=cE Tryz.f197 Ahg jn Q [1,1,1] (rE Tryz.f197 Q) A6
def Ahf(l0:OA)(v1:BA)(h5:Int):WP:=jn 16 (TP jn Q) ((.p l0)::(.s v1)::us 3 ((.i h5)::us 57 []))
def Axq:KP:=⟨[],[(0,[0,1,2,3,4,5,6,7,9,10,11,12,13,15,16]),(1,[0,1,2,3,4,5,6,7,9,10,11,12,13,15,16])]⟩
def P1:KP:=⟨[(9,[0,3,4]),(14,[3])],[]⟩
def Axs:EW:=sE Tryz.f244 P1 jn Q [1,1,1] (rE Tryz.f244 Q) A6
def TQ:EW:=cE Tryz.f244 P1 jn Q [1,1,1] (rE Tryz.f244 Q) A6
def Axt(all3:Sl):WP:=jn 14 (TQ jn Q) (us 3 ((.l all3.a all3.n all3.c)::us 20 []))
def P2(m1:Nat)(l0:OA)(all3:Sl)(h4:Int):WP:=Dp PR P1 jn (bE Tryz.f244 [1,1,0,1,0,0]) (A8 0 (Axs jn Q) A6) (rE Tryz.f244 Q) m1 ((.p l0)::us 2 ((.l all3.a all3.n all3.c)::(.i h4)::us 19 []))
def P3:KP:=⟨[(24,[0,1,16,26]),(40,[0,1,6])],[(14,[0,1,2,3,4,5,6,7,8,9,10,11,12,15,16,17,18,21,22,23,24,25,26]),(17,[0,1,2,3,4,5,6,7,8,11,12,13,14,17,18,19,20,21,22])]⟩
def Ahh:EW:=sE Tryz.f246 P3 jn Q [1,1,1,1,1] (rE Tryz.f246 Q) A6
def TS:EW:=cE Tryz.f246 P3 jn Q [1,1,1,1,1] (rE Tryz.f246 Q) A6
def FU(e0:OA)(key1:BA)(gone6:Sl):WP:=jn 40 (TS jn Q) ((.p e0)::(.s key1)::us 4 ((.l gone6.a gone6.n gone6.c)::us 93 []))
def TR:EW:=cE Tryz.f246 P3 jn Q [1,1,1,1,0,1,0,1] (Ahh jn Q) (A8 0 (Ahh jn Q) A6)
def Wb(e0:OA)(key1:BA)(t16:Int)(t26:Bool):WP:=jn 24 (TR jn Q) ((.p e0)::(.s key1)::us 14 ((.i t16)::us 9 ((.b t26)::us 73 [])))
def Hi:KP:=⟨[(8,[0,1]),(11,[0]),(14,[0]),(15,[0]),(18,[])],[(1,[0,1,2,3,4,6,7,8,10,11,12,13,14,15]),(4,[0,1,2,3,6,7,8,9,10]),(5,[0,1,2,3,4,5,6]),(6,[0,1,2,3,6,7,8,9,10,11]),(7,[0,1,2,3,4,5,6])]⟩
def Axu:EW:=sE Tryz.f252 Hi jn Q [1,1,1,1] (rE Tryz.f252 Q) A6
def Apu:EW:=sE Tryz.f252 Hi jn Q [1,1,1,1,1] (rE Tryz.f252 Q) A6
def TW:EW:=cE Tryz.f252 Hi jn Q [1,1,1,1,1] (rE Tryz.f252 Q) A6
def Axx:WP:=jn 18 (TW jn Q) (us 70 [])
def P5(m4:Nat)(e0:OA):WP:=Dp PR Hi jn (bE Tryz.f252 [1,1,1,1,0,0,0]) (A8 2 (Apu jn Q) A6) (rE Tryz.f252 Q) m4 ((.p e0)::us 69 [])
def TV:EW:=cE Tryz.f252 Hi jn Q [1,1,1,1] (rE Tryz.f252 Q) A6
def Axw(e0:OA):WP:=jn 14 (TV jn Q) ((.p e0)::us 69 [])
def P4(m2:Nat)(e0:OA):WP:=Dp PR Hi jn (bE Tryz.f252 [1,1,1,0,0,0]) (A8 0 (Axu jn Q) A6) (rE Tryz.f252 Q) m2 ((.p e0)::us 69 [])
def TU:EW:=cE Tryz.f252 Hi jn Q [1,1] (rE Tryz.f252 Q) A6
def Axv(e0:OA)(key1:BA):WP:=jn 8 (TU jn Q) ((.p e0)::(.s key1)::us 68 [])
def P7:KP:=⟨[],[(2,[0,1,2,3,4,6,7,9,11])]⟩
def BP:KP:=⟨[(9,[2,5,8,9,10]),(16,[5])],[]⟩
def Axy:EW:=sE Tryz.f258 BP jn Q [1,1,1] (rE Tryz.f258 Q) A6
def Ajo:EW:=cE Tryz.f258 BP jn Q [1,1,1] (rE Tryz.f258 Q) A6
def Axz(m1:Nat)(r2b r2o:Nat)(n5:Int)(t8:Sl)(t9 t10:Int):WP:=Dp PR BP jn (bE Tryz.f258 [1,1,0,1,0,0]) (A8 0 (Axy jn Q) A6) (rE Tryz.f258 Q) m1 (us 2 ((pq r2b r2o)::us 2 ((.i n5)::us 2 ((.l t8.a t8.n t8.c)::(.i t9)::(.i t10)::us 13 []))))
def Ax0:KP:=⟨[],[(1,[0,1,2,3,6,7,8,9,10])]⟩
def Wd:KP:=⟨[(6,[0,4])],[(1,[0,1,2,3,6,7,8,9,10,11,12,13,14,15,18,19,20,21,22,23,24]),(2,[0,1,2,3,4,5,6]),(3,[0,1,2,3,6,7,8,9,10,11]),(7,[0,1,2,3,6,7,8,9,10,11]),(9,[0,1,2,3,6,7,8,9,10,11,12]),(10,[0,1,2,3,4,5,6])]⟩
def Ahi:EW:=sE Tryz.f260 Wd jn Q [1,1] (rE Tryz.f260 Q) A6
def TX:EW:=cE Tryz.f260 Wd jn Q [1,0,0,1] (Ahi jn Q) (A8 0 (Ahi jn Q) A6)
def Wc(e0:OA)(t4:Bool):WP:=jn 6 (TX jn Q) ((.p e0)::us 3 ((.b t4)::us 96 []))
def Ahj:KP:=⟨[(10,[0,5,6])],[]⟩
def TY:EW:=cE Tryz.f261 Ahj jn Q [1,1,1] (rE Tryz.f261 Q) A6
def We(e0:OA)(from5 to6:Int):WP:=jn 10 (TY jn Q) ((.p e0)::us 4 ((.i from5)::(.i to6)::us 17 []))
def Ax1:EW:=sE Tryz.f262 BP jn Q [1,1,1] (rE Tryz.f262 Q) A6
def Ajp:EW:=cE Tryz.f262 BP jn Q [1,1,1] (rE Tryz.f262 Q) A6
def Ax2(m1:Nat)(r2b r2o:Nat)(l5 t8:Sl)(t9 t10:Int):WP:=Dp PR BP jn (bE Tryz.f262 [1,1,0,1,0,0]) (A8 0 (Ax1 jn Q) A6) (rE Tryz.f262 Q) m1 (us 2 ((pq r2b r2o)::us 2 ((.l l5.a l5.n l5.c)::us 2 ((.l t8.a t8.n t8.c)::(.i t9)::(.i t10)::us 13 []))))
def P8:KP:=⟨[],[(3,[0,1,2,3,4,5,6])]⟩
def P9:KP:=⟨[],[(1,[0,1,2,3,4,5,7,8,12,13,14,15,16])]⟩
def Ajq:EW:=cE Tryz.f265 EL jn Q [1,1] (rE Tryz.f265 Q) A6
def Ahk(m1:Nat):EW:=HZ PR AI jn (bE Tryz.f268 [1,1,1,0,0]) (A8 0 (rE Tryz.f268 Q) A6) (rE Tryz.f268 Q) m1
def L8(m1:Nat):EW:=sE Tryz.f268 AI jn Q [1,1,1,0,0,1] (Ahk jn Q m1) (A8 0 (rE Tryz.f268 Q) A6)
def Ax3(m1:Nat):Nat->EW:=A8 1 (L8 jn Q m1) (A8 0 (rE Tryz.f268 Q) A6)
def Wf(m1:Nat):Nat->EW:=A8 2 (L8 jn Q m1) (Ax3 jn Q m1)
def Ajt(m1:Nat):EW:=cE Tryz.f268 AI jn Q [1,1,1,0,0,1] (Ahk jn Q m1) (A8 0 (rE Tryz.f268 Q) A6)
def Aju(m1:Nat):EW:=cE Tryz.f268 AI jn Q [1,1,1,0,0,0,0,1,0,1,1,1,1,1] (L8 jn Q m1) (Wf jn Q m1)
def Ajs(m1:Nat):EW:=cE Tryz.f268 AI jn Q [1,1,1,0,0,0,0,1,0,1,1,1] (L8 jn Q m1) (Wf jn Q m1)
def Ajr(m1:Nat):EW:=cE Tryz.f268 AI jn Q [1,1,1,0,0,0,0,1,0,1] (L8 jn Q m1) (Wf jn Q m1)
def Ax4(m1:Nat)(x0:OA)(key1:BA)(free6 i7:Int):WP:=Dp PR AI jn (bE Tryz.f268 [1,1,1,0,0]) (A8 0 (rE Tryz.f268 Q) A6) (rE Tryz.f268 Q) m1 ((.p x0)::(.s key1)::us 4 ((.i free6)::(.i i7)::us 71 []))
def Ajv:EW:=cE Tryz.f269 EM jn Q [1,1] (rE Tryz.f269 Q) A6
def Ax5(m1:Nat)(x0:OA)(t28:Sl)(t29 t30:Int):WP:=Dp PR Ec jn (bE Tryz.f270 [1,1,1,0,0]) (A8 0 (rE Tryz.f270 Q) A6) (rE Tryz.f270 Q) m1 ((.p x0)::us 27 ((.l t28.a t28.n t28.c)::(.i t29)::(.i t30)::us 21 []))
def I2:KP:=⟨[(14,[0,1,6,22]),(28,[0,1,6]),(38,[0,1,6,8]),(40,[0,1,6,8,88])],[(14,[0,2,3,4,5,6]),(18,[0,1,2,3,4,5,6,8,9,10,12,13])]⟩
def Ahl:EW:=sE Tryz.f271 I2 jn Q [1,1,1,1] (rE Tryz.f271 Q) A6
def Ap1:EW:=sE Tryz.f271 I2 jn Q [1,1,1,1,1,1,1] (rE Tryz.f271 Q) A6
def Uc:EW:=cE Tryz.f271 I2 jn Q [1,1,1,1,1,1,0,1] (Ap1 jn Q) A6
def Wh(e0:OA)(key1:BA)(n6b n6o:Nat)(gone8:Sl)(t88:Bool):WP:=jn 40 (Uc jn Q) ((.p e0)::(.s key1)::us 4 ((pq n6b n6o)::us 1 ((.l gone8.a gone8.n gone8.c)::us 79 ((.b t88)::us 13 []))))
def Ub:EW:=cE Tryz.f271 I2 jn Q [1,1,1,1,1,1] (rE Tryz.f271 Q) A6
def Wg(e0:OA)(key1:BA)(n6b n6o:Nat)(gone8:Sl):WP:=jn 38 (Ub jn Q) ((.p e0)::(.s key1)::us 4 ((pq n6b n6o)::us 1 ((.l gone8.a gone8.n gone8.c)::us 93 [])))
def Ua:EW:=cE Tryz.f271 I2 jn Q [1,1,1,1] (rE Tryz.f271 Q) A6
def Ax6(e0:OA)(key1:BA)(n6b n6o:Nat):WP:=jn 28 (Ua jn Q) ((.p e0)::(.s key1)::us 4 ((pq n6b n6o)::us 95 []))
def TZ:EW:=cE Tryz.f271 I2 jn Q [1,1,1,0,0,1] (Ahl jn Q) (A8 0 (Ahl jn Q) A6)
def PA(e0:OA)(key1:BA)(n6b n6o:Nat)(t22:Bool):WP:=jn 14 (TZ jn Q) ((.p e0)::(.s key1)::us 4 ((pq n6b n6o)::us 15 ((.b t22)::us 79 [])))
def Wj:KP:=⟨[(12,[0]),(24,[0,4,6])],[(5,[0,1,2,3,4,5,6,10,11,12,13,14])]⟩
def Ue:EW:=cE Tryz.f272 Wj jn Q [1,1,1,1,1,1,1,1] (rE Tryz.f272 Q) A6
def Ahm(e0:OA)(key4:BA)(n6b n6o:Nat):WP:=jn 24 (Ue jn Q) ((.p e0)::us 3 ((.s key4)::us 1 ((pq n6b n6o)::us 50 [])))
def Ud:EW:=cE Tryz.f272 Wj jn Q [1,1,1] (rE Tryz.f272 Q) A6
def Wi(e0:OA):WP:=jn 12 (Ud jn Q) ((.p e0)::us 56 [])
def Ax7:KP:=⟨[],[(3,[0,1,2,3,5,6,7,8,9,10])]⟩
def Ahn:KP:=⟨[(8,[0,1])],[(1,[0,1,2,3,4,6,7,8,10,11,12,13,14,15]),(4,[0,1,2,3,4,5,6,8])]⟩
def Uf:EW:=cE Tryz.f277 Ahn jn Q [1,1] (rE Tryz.f277 Q) A6
def Ax8(e0:OA)(key1:BA):WP:=jn 8 (Uf jn Q) ((.p e0)::(.s key1)::us 49 [])
def Ax9:KP:=⟨[],[(4,[0,1,2,3,4])]⟩
def Aho:KP:=⟨[],[(1,[0,1,2,3,4])]⟩
def Ug:EW:=cE Tryz.f282 EL jn Q [1,1] (rE Tryz.f282 Q) A6
def Ahp(t4b t4o:Nat):WP:=jn 12 (Ug jn Q) (us 4 ((pq t4b t4o)::us 22 []))
def Ayb:KP:=⟨[],[(5,[0,1,2,3,4,5,6,8])]⟩
def Ahq:KP:=⟨[(3,[0])],[(1,[0,1,2,3,4,5,6,10,11,12,13,14])]⟩
def PB(m1:Nat)(e0:OA):WP:=Dp PR Ahq jn (bE Tryz.f284 [0,0]) (A8 0 (rE Tryz.f284 Q) A6) (rE Tryz.f284 Q) m1 ((.p e0)::us 40 [])
def Ahr:KP:=⟨[(3,[0])],[(0,[0,1,2,3,4,5,6,8])]⟩
def PC(m1:Nat)(e0:OA):WP:=Dp PR Ahr jn (bE Tryz.f286 [0,0]) (A8 0 (rE Tryz.f286 Q) A6) (rE Tryz.f286 Q) m1 ((.p e0)::us 21 [])
def Wl:KP:=⟨[],[(0,[0,1,2,3,4,5,6])]⟩
def Ayc:KP:=⟨[],[(6,[0,1,2,3,4])]⟩
def PD:KP:=⟨[(9,[0,1,5,14,15,16]),(20,[5])],[]⟩
def Ayd:EW:=sE Tryz.f289 PD jn Q [1,1,1] (rE Tryz.f289 Q) A6
def Uh:EW:=cE Tryz.f289 PD jn Q [1,1,1] (rE Tryz.f289 Q) A6
def Aye(l5:Sl):WP:=jn 20 (Uh jn Q) (us 5 ((.l l5.a l5.n l5.c)::us 33 []))
def L9(m1:Nat)(e0:OA)(is1:Int)(l5 t14:Sl)(t15 t16:Int):WP:=Dp PR PD jn (bE Tryz.f289 [1,1,0,1,0,0]) (A8 0 (Ayd jn Q) A6) (rE Tryz.f289 Q) m1 ((.p e0)::(.i is1)::us 3 ((.l l5.a l5.n l5.c)::us 8 ((.l t14.a t14.n t14.c)::(.i t15)::(.i t16)::us 22 [])))
def PE:KP:=⟨[(7,[0,1,5,6]),(18,[5])],[(7,[0,2])]⟩
def Ayg:EW:=sE Tryz.f290 PE jn Q [1,1] (rE Tryz.f290 Q) A6
def Ui:EW:=cE Tryz.f290 PE jn Q [1,1] (rE Tryz.f290 Q) A6
def Ayh(t5b t5o:Nat):WP:=jn 18 (Ui jn Q) (us 5 ((pq t5b t5o)::us 43 []))
def PF(m1:Nat)(e0:OA)(is1:Int)(t5b t5o:Nat)(h6:Int):WP:=Dp PR PE jn (bE Tryz.f290 [1,0,1,0,0]) (A8 0 (Ayg jn Q) A6) (rE Tryz.f290 Q) m1 ((.p e0)::(.i is1)::us 3 ((pq t5b t5o)::(.i h6)::us 42 []))
def Ahs(m1:Nat):EW:=HZ PR AI jn (bE Tryz.f292 [1,1,1,0,0]) (A8 0 (rE Tryz.f292 Q) A6) (rE Tryz.f292 Q) m1
def LA(m1:Nat):EW:=sE Tryz.f292 AI jn Q [1,1,1,0,0,1] (Ahs jn Q m1) (A8 0 (rE Tryz.f292 Q) A6)
def Ayi(m1:Nat):Nat->EW:=A8 1 (LA jn Q m1) (A8 0 (rE Tryz.f292 Q) A6)
def Wm(m1:Nat):Nat->EW:=A8 2 (LA jn Q m1) (Ayi jn Q m1)
def Ul(m1:Nat):EW:=cE Tryz.f292 AI jn Q [1,1,1,0,0,1] (Ahs jn Q m1) (A8 0 (rE Tryz.f292 Q) A6)
def Wp(m1:Nat)(x0:OA)(key1:BA)(free6 i7:Int):WP:=jn 8 (Ul jn Q m1) ((.p x0)::(.s key1)::us 4 ((.i free6)::(.i i7)::us 71 []))
def Um(m1:Nat):EW:=cE Tryz.f292 AI jn Q [1,1,1,0,0,0,0,1,0,1,1,1,1,1] (LA jn Q m1) (Wm jn Q m1)
def Wq(m1:Nat)(x0:OA)(key1:BA)(free6 i7:Int)(p8b p8o:Nat)(t61:Bool):WP:=jn 22 (Um jn Q m1) ((.p x0)::(.s key1)::us 4 ((.i free6)::(.i i7)::(pq p8b p8o)::us 52 ((.b t61)::us 17 [])))
def Uk(m1:Nat):EW:=cE Tryz.f292 AI jn Q [1,1,1,0,0,0,0,1,0,1,1,1] (LA jn Q m1) (Wm jn Q m1)
def Wo(m1:Nat)(x0:OA)(key1:BA)(free6 i7:Int)(p8b p8o:Nat)(t50:Bool):WP:=jn 18 (Uk jn Q m1) ((.p x0)::(.s key1)::us 4 ((.i free6)::(.i i7)::(pq p8b p8o)::us 41 ((.b t50)::us 28 [])))
def Uj(m1:Nat):EW:=cE Tryz.f292 AI jn Q [1,1,1,0,0,0,0,1,0,1] (LA jn Q m1) (Wm jn Q m1)
def Wn(m1:Nat)(x0:OA)(key1:BA)(free6 i7:Int)(p8b p8o:Nat)(t35:Bool):WP:=jn 14 (Uj jn Q m1) ((.p x0)::(.s key1)::us 4 ((.i free6)::(.i i7)::(pq p8b p8o)::us 26 ((.b t35)::us 43 [])))
def PG(m1:Nat)(x0:OA)(key1:BA)(free6 i7:Int):WP:=Dp PR AI jn (bE Tryz.f292 [1,1,1,0,0]) (A8 0 (rE Tryz.f292 Q) A6) (rE Tryz.f292 Q) m1 ((.p x0)::(.s key1)::us 4 ((.i free6)::(.i i7)::us 71 []))
def Un:EW:=cE Tryz.f298 EM jn Q [1,1] (rE Tryz.f298 Q) A6
def Aht(x0:OA)(i1:Int)(key2:BA)(v7b v7o:Nat):WP:=jn 8 (Un jn Q) ((.p x0)::(.i i1)::(.s key2)::us 4 ((pq v7b v7o)::us 32 []))
def LB(m1:Nat)(x0:OA)(t28:Sl)(t29 t30:Int):WP:=Dp PR Ec jn (bE Tryz.f299 [1,1,1,0,0]) (A8 0 (rE Tryz.f299 Q) A6) (rE Tryz.f299 Q) m1 ((.p x0)::us 27 ((.l t28.a t28.n t28.c)::(.i t29)::(.i t30)::us 21 []))
def I3:KP:=⟨[(10,[0,28]),(16,[0]),(21,[0,5]),(24,[5])],[(3,[0,1,2,3,6,7,8,9,10,11,12,13,14,15,18,19]),(9,[0,1,2,3,6,7,8,9,10]),(10,[0,1,2,3,4,5,6])]⟩
def Ayk:EW:=sE Tryz.f301 I3 jn Q [1,1,1] (rE Tryz.f301 Q) A6
def Aqv:EW:=sE Tryz.f301 I3 jn Q [1,1,1,1,1,1] (rE Tryz.f301 Q) A6
def Uq:EW:=cE Tryz.f301 I3 jn Q [1,1,1,1,1,1] (rE Tryz.f301 Q) A6
def Aym(key5:BA):WP:=jn 24 (Uq jn Q) (us 5 ((.s key5)::us 68 []))
def PH(m3:Nat)(e0:OA)(key5:BA):WP:=Dp PR I3 jn (bE Tryz.f301 [1,1,1,1,1,0,0,0]) (A8 0 (Aqv jn Q) A6) (rE Tryz.f301 Q) m3 ((.p e0)::us 4 ((.s key5)::us 68 []))
def Up:EW:=cE Tryz.f301 I3 jn Q [1,1,1] (rE Tryz.f301 Q) A6
def Ayl(e0:OA):WP:=jn 16 (Up jn Q) ((.p e0)::us 73 [])
def Uo:EW:=cE Tryz.f301 I3 jn Q [1,1,0,1] (Ayk jn Q) A6
def Wr(e0:OA)(t28:Bool):WP:=jn 10 (Uo jn Q) ((.p e0)::us 27 ((.b t28)::us 45 []))
def Ahu:KP:=⟨[(8,[0,1])],[(1,[0,1,2,3,4,6,7,8,10,11,12,13,14,15])]⟩
def Ur:EW:=cE Tryz.f306 Ahu jn Q [1,1] (rE Tryz.f306 Q) A6
def Ayn(e0:OA)(key1:BA):WP:=jn 8 (Ur jn Q) ((.p e0)::(.s key1)::us 25 [])
def Ayp:KP:=⟨[],[(1,[0,2,3,4,5,6])]⟩
def Ayq:EW:=sE Tryz.f314 BP jn Q [1,1,1] (rE Tryz.f314 Q) A6
def Ajw:EW:=cE Tryz.f314 BP jn Q [1,1,1] (rE Tryz.f314 Q) A6
def Ayr(m1:Nat)(r2b r2o:Nat)(n5:Int)(t8:Sl)(t9 t10:Int):WP:=Dp PR BP jn (bE Tryz.f314 [1,1,0,1,0,0]) (A8 0 (Ayq jn Q) A6) (rE Tryz.f314 Q) m1 (us 2 ((pq r2b r2o)::us 2 ((.i n5)::us 2 ((.l t8.a t8.n t8.c)::(.i t9)::(.i t10)::us 13 []))))
def Ays:EW:=sE Tryz.f316 BP jn Q [1,1,1] (rE Tryz.f316 Q) A6
def Ajx:EW:=cE Tryz.f316 BP jn Q [1,1,1] (rE Tryz.f316 Q) A6
def Ayt(m1:Nat)(r2b r2o:Nat)(l5 t8:Sl)(t9 t10:Int):WP:=Dp PR BP jn (bE Tryz.f316 [1,1,0,1,0,0]) (A8 0 (Ays jn Q) A6) (rE Tryz.f316 Q) m1 (us 2 ((pq r2b r2o)::us 2 ((.l l5.a l5.n l5.c)::us 2 ((.l t8.a t8.n t8.c)::(.i t9)::(.i t10)::us 13 []))))
def Ajy:EW:=cE Tryz.f317 EL jn Q [1,1] (rE Tryz.f317 Q) A6
def Ahv(m1:Nat):EW:=HZ PR AI jn (bE Tryz.f320 [1,1,1,0,0]) (A8 0 (rE Tryz.f320 Q) A6) (rE Tryz.f320 Q) m1
def LC(m1:Nat):EW:=sE Tryz.f320 AI jn Q [1,1,1,0,0,1] (Ahv jn Q m1) (A8 0 (rE Tryz.f320 Q) A6)
def Ayv(m1:Nat):Nat->EW:=A8 1 (LC jn Q m1) (A8 0 (rE Tryz.f320 Q) A6)
def Wt(m1:Nat):Nat->EW:=A8 2 (LC jn Q m1) (Ayv jn Q m1)
def Aj1(m1:Nat):EW:=cE Tryz.f320 AI jn Q [1,1,1,0,0,1] (Ahv jn Q m1) (A8 0 (rE Tryz.f320 Q) A6)
def Aj2(m1:Nat):EW:=cE Tryz.f320 AI jn Q [1,1,1,0,0,0,0,1,0,1,1,1,1,1] (LC jn Q m1) (Wt jn Q m1)
def Aj0(m1:Nat):EW:=cE Tryz.f320 AI jn Q [1,1,1,0,0,0,0,1,0,1,1,1] (LC jn Q m1) (Wt jn Q m1)
def Ajz(m1:Nat):EW:=cE Tryz.f320 AI jn Q [1,1,1,0,0,0,0,1,0,1] (LC jn Q m1) (Wt jn Q m1)
def Ayw(m1:Nat)(x0:OA)(key1:BA)(free6 i7:Int):WP:=Dp PR AI jn (bE Tryz.f320 [1,1,1,0,0]) (A8 0 (rE Tryz.f320 Q) A6) (rE Tryz.f320 Q) m1 ((.p x0)::(.s key1)::us 4 ((.i free6)::(.i i7)::us 71 []))
def Aj3:EW:=cE Tryz.f321 EM jn Q [1,1] (rE Tryz.f321 Q) A6
def Ayx(m1:Nat)(x0:OA)(t28:Sl)(t29 t30:Int):WP:=Dp PR Ec jn (bE Tryz.f322 [1,1,1,0,0]) (A8 0 (rE Tryz.f322 Q) A6) (rE Tryz.f322 Q) m1 ((.p x0)::us 27 ((.l t28.a t28.n t28.c)::(.i t29)::(.i t30)::us 21 []))
def FV:KP:=⟨[(24,[0,1,28]),(27,[0]),(30,[]),(32,[0,1]),(37,[0,7]),(40,[7])],[(12,[0,1,2,3,6,7,8,9,10]),(13,[0,1,2,3,4,5,6]),(17,[0,1,2,3,6,7,8,9,10])]⟩
def I4:EW:=sE Tryz.f323 FV jn Q [1,1,1,1] (rE Tryz.f323 Q) A6
def Aq4:EW:=sE Tryz.f323 FV jn Q [1,1,1,0,1,1,0,1,1,1,0,1,1] (I4 jn Q) (A8 0 (I4 jn Q) A6)
def Aq5:Nat->EW:=A8 1 (Aq4 jn Q) (A8 0 (I4 jn Q) A6)
def Aq6:EW:=sE Tryz.f323 FV jn Q [1,1,1,1,1,1,1] (rE Tryz.f323 Q) A6
def Ut:EW:=cE Tryz.f323 FV jn Q [1,1,1,0,1,1,0,1,1,1,0,1,1] (I4 jn Q) (A8 0 (I4 jn Q) A6)
def Ayy:WP:=jn 30 (Ut jn Q) (us 80 [])
def PJ(m2:Nat)(e0:OA):WP:=Dp PR FV jn (bE Tryz.f323 [1,1,1,0,1,1,0,1,1,1,0,1,0,0,0]) (Aq5 jn Q) (rE Tryz.f323 Q) m2 ((.p e0)::us 79 [])
def Uv:EW:=cE Tryz.f323 FV jn Q [1,1,1,1,1,1,1] (rE Tryz.f323 Q) A6
def Ay0(gone7:Sl):WP:=jn 40 (Uv jn Q) (us 7 ((.l gone7.a gone7.n gone7.c)::us 72 []))
def PK(m5:Nat)(e0:OA)(gone7:Sl):WP:=Dp PR FV jn (bE Tryz.f323 [1,1,1,1,1,1,0,0,0]) (A8 3 (Aq6 jn Q) A6) (rE Tryz.f323 Q) m5 ((.p e0)::us 6 ((.l gone7.a gone7.n gone7.c)::us 72 []))
def Uu:EW:=cE Tryz.f323 FV jn Q [1,1,1,1] (rE Tryz.f323 Q) A6
def Ayz(e0:OA)(key1:BA):WP:=jn 32 (Uu jn Q) ((.p e0)::(.s key1)::us 78 [])
def Us:EW:=cE Tryz.f323 FV jn Q [1,1,1,0,1,1,0,1,1,1] (I4 jn Q) (A8 0 (I4 jn Q) A6)
def Wu(e0:OA)(key1:BA)(t28:Bool):WP:=jn 24 (Us jn Q) ((.p e0)::(.s key1)::us 26 ((.b t28)::us 51 []))
def Ahw:KP:=⟨[(8,[0,1])],[(1,[0,1,2,3,4,6,7,8,10,11,12,13,14,15]),(3,[0,1,2,3,6,7,8,9,10])]⟩
def Uw:EW:=cE Tryz.f329 Ahw jn Q [1,1] (rE Tryz.f329 Q) A6
def Ay1(e0:OA)(key1:BA):WP:=jn 8 (Uw jn Q) ((.p e0)::(.s key1)::us 42 [])
def Ay3:EW:=sE Tryz.f336 BP jn Q [1,1,1] (rE Tryz.f336 Q) A6
def Aj4:EW:=cE Tryz.f336 BP jn Q [1,1,1] (rE Tryz.f336 Q) A6
def Ay4(m1:Nat)(r2b r2o:Nat)(n5:Int)(t8:Sl)(t9 t10:Int):WP:=Dp PR BP jn (bE Tryz.f336 [1,1,0,1,0,0]) (A8 0 (Ay3 jn Q) A6) (rE Tryz.f336 Q) m1 (us 2 ((pq r2b r2o)::us 2 ((.i n5)::us 2 ((.l t8.a t8.n t8.c)::(.i t9)::(.i t10)::us 13 []))))
def PM:KP:=⟨[(16,[0,3,4,35]),(20,[0,3,4])],[(3,[0,1,2,3,6,7,8,9,10,11]),(6,[0,1,2,3,4,6,7,8,9,10,11,14,15,16])]⟩
def Ahx:EW:=sE Tryz.f338 PM jn Q [1,1,1,1] (rE Tryz.f338 Q) A6
def Uy:EW:=cE Tryz.f338 PM jn Q [1,1,1,1] (rE Tryz.f338 Q) A6
def Ay5(e0:OA)(key3:BA)(row4:Int):WP:=jn 20 (Uy jn Q) ((.p e0)::us 2 ((.s key3)::(.i row4)::us 75 []))
def Ux:EW:=cE Tryz.f338 PM jn Q [1,1,1,0,0,1,1,1] (Ahx jn Q) (A8 0 (Ahx jn Q) A6)
def PL(e0:OA)(key3:BA)(row4:Int)(t35:Bool):WP:=jn 16 (Ux jn Q) ((.p e0)::us 2 ((.s key3)::(.i row4)::us 30 ((.b t35)::us 44 [])))
def PN:KP:=⟨[(7,[0,6,7,8]),(16,[])],[]⟩
def Ay6:EW:=sE Tryz.f339 PN jn Q [1,1] (rE Tryz.f339 Q) A6
def Uz:EW:=cE Tryz.f339 PN jn Q [1,1] (rE Tryz.f339 Q) A6
def Ay7:WP:=jn 16 (Uz jn Q) (us 22 [])
def Wv(m1:Nat)(e0:OA)(t6:Sl)(t7 t8:Int):WP:=Dp PR PN jn (bE Tryz.f339 [1,0,1,0,0]) (A8 0 (Ay6 jn Q) A6) (rE Tryz.f339 Q) m1 ((.p e0)::us 5 ((.l t6.a t6.n t6.c)::(.i t7)::(.i t8)::us 13 []))
def Ay9:EW:=sE Tryz.f341 BP jn Q [1,1,1] (rE Tryz.f341 Q) A6
def Aj5:EW:=cE Tryz.f341 BP jn Q [1,1,1] (rE Tryz.f341 Q) A6
def Aza(m1:Nat)(r2b r2o:Nat)(l5 t8:Sl)(t9 t10:Int):WP:=Dp PR BP jn (bE Tryz.f341 [1,1,0,1,0,0]) (A8 0 (Ay9 jn Q) A6) (rE Tryz.f341 Q) m1 (us 2 ((pq r2b r2o)::us 2 ((.l l5.a l5.n l5.c)::us 2 ((.l t8.a t8.n t8.c)::(.i t9)::(.i t10)::us 13 []))))
def PO:KP:=⟨[(13,[0,1,5,14]),(22,[5])],[]⟩
def Azb:EW:=sE Tryz.f342 PO jn Q [1,1,1,1] (rE Tryz.f342 Q) A6
def U0:EW:=cE Tryz.f342 PO jn Q [1,1,1,1] (rE Tryz.f342 Q) A6
def Azc(was5:Bool):WP:=jn 22 (U0 jn Q) (us 5 ((.b was5)::us 30 []))
def PP(m1:Nat)(d0:OA)(key1:BA)(was5:Bool)(t14:Int):WP:=Dp PR PO jn (bE Tryz.f342 [1,1,1,0,1,0,0]) (A8 0 (Azb jn Q) A6) (rE Tryz.f342 Q) m1 ((.p d0)::(.s key1)::us 3 ((.b was5)::us 8 ((.i t14)::us 21 [])))
def PQ:KP:=⟨[(11,[0,4,17,18]),(22,[0])],[(11,[0,1,2,3,4,5,6,8,9])]⟩
def Azd:EW:=sE Tryz.f344 PQ jn Q [1,1,1,1] (rE Tryz.f344 Q) A6
def U1:EW:=cE Tryz.f344 PQ jn Q [1,1,1,1] (rE Tryz.f344 Q) A6
def Aze(s0:OA):WP:=jn 22 (U1 jn Q) ((.p s0)::us 51 [])
def LD(m1:Nat)(s0:OA)(low4 t17_0 t17_1 t17_2 t17_3 t18:Int):WP:=Dp PR PQ jn (bE Tryz.f344 [1,1,1,0,1,0,0]) (A8 0 (Azd jn Q) A6) (rE Tryz.f344 Q) m1 ((.p s0)::us 3 ((.i low4)::us 12 ((.agg #[.i t17_0,.i t17_1,.i t17_2,.i t17_3])::(.i t18)::us 33 [])))
def Aj6:EW:=cE Tryz.f346 EL jn Q [1,1] (rE Tryz.f346 Q) A6
end
variable{jn:Jn}{Q:VW}{e0 x0 l0 s0 n1 d0:OA}{key1 key2 v1 key5 key3:BA}{m1 p8b p8o n6b n6o m2 t5b t5o:Nat}{free6 i7 is1 h1 i1 n1_0 n1_1 n1_2 n3 room0 v3 t29 t30 t16 row4:Int}{t35 t61 t50 was5:Bool}{t28 all3 gone8 l5 gone7:Sl}
theorem YD:TJ jn Q (us 3 ((.i n3)::us 13 []))=(Bw ((64:Int)≠0)<|Ht 138 8 [.int .u64 0] (if (IntKind.wrap .i64 (Int.tdiv (IntKind.wrap .i64 (8*n3)) 64))>1 then (IntKind.wrap .i64 (Int.tdiv (IntKind.wrap .i64 (8*n3)) 64)) else 1) (if (IntKind.wrap .i64 (Int.tdiv (IntKind.wrap .i64 (8*n3)) 64))>1 then (IntKind.wrap .i64 (Int.tdiv (IntKind.wrap .i64 (8*n3)) 64)) else 1) λG2=>A1 [.l G2.a G2.n G2.c] 332 λB3=>Q (pq B3 0)):=by kernel_rfl
theorem Nt:Pz jn Q (m1+1) room0 n3=(Cc 72 [.i room0,.i 1,.i 1024] λX1=>Aj (decide (n3<X1)) (Pz jn Q m1 room0 (IntKind.wrap .i64 (n3*2))) (Ahb jn Q n3)):=by kernel_rfl
theorem Ape:Au jn PR Hg Tryz.f189 [.i room0] Q=(DH λm=>Pz jn Q m room0 1):=by kernel_rfl
theorem Apf:Au jn PR Aw Tryz.f192 [.p x0,.s key1] Q=(Aj (!Option.isNone x0) (F0 193 [.p x0,.s key1] λX1 X2=>Aj X2 (Ad x0 λB3 O4=>Bu B3 (O4+1) λX5=>CB X5.a X5.n X1 λB6 O7=>Ay B6 ((O7+X1.toNat*3)+2) λX8=>Q (.tuple #[.i X8,.b true])) (Q (.tuple #[.i 0,.b false]))) (Q (.tuple #[.i 0,.b false]))):=by kernel_rfl
theorem YG:TM jn Q m1 ((.p x0)::(.s key1)::us 4 ((.i free6)::(.i i7)::us 71 []))=(Ad x0 λB23 O24=>Bu B23 (O24+1) λX25=>Bw ((X25.n:Int)≠0)<|P0 jn Q m1 x0 key1 free6 (Int.tmod (IntKind.wrap .i64 (i7+1)) (X25.n:Int))):=by kernel_rfl
theorem YH:TN jn Q m1 ((.p x0)::(.s key1)::us 4 ((.i free6)::(.i i7)::(pq p8b p8o)::us 52 ((.b t61)::us 17 [])))=(Aj t61 (Q (.tuple #[.i i7,.b false])) (Ad (some ⟨p8b,p8o,none⟩) λB29 O30=>Ay B29 O30 λX31=>Aj (X31==0) (Q (.tuple #[.i free6,.b false])) (VZ jn Q m1 x0 key1 free6 i7))):=by kernel_rfl
theorem YF:TL jn Q m1 ((.p x0)::(.s key1)::us 4 ((.i free6)::(.i i7)::(pq p8b p8o)::us 41 ((.b t50)::us 28 [])))=(Aj t50 (VZ jn Q m1 x0 key1 i7 i7) (Ad (some ⟨p8b,p8o,none⟩) λB26 O27=>Ay B26 O27 λX28=>Aj (X28==0) (Wa jn Q m1 x0 key1 free6 i7 p8b p8o (decide (free6<0))) (Wa jn Q m1 x0 key1 free6 i7 p8b p8o false))):=by kernel_rfl
theorem YE:TK jn Q m1 ((.p x0)::(.s key1)::us 4 ((.i free6)::(.i i7)::(pq p8b p8o)::us 26 ((.b t35)::us 43 [])))=(Aj t35 (Q (.tuple #[.i i7,.b true])) (Ad (some ⟨p8b,p8o,none⟩) λB20 O21=>Ay B20 O21 λX22=>Aj (X22==1) (VY jn Q m1 x0 key1 free6 i7 p8b p8o (decide (free6<0))) (VY jn Q m1 x0 key1 free6 i7 p8b p8o false))):=by kernel_rfl
theorem YI:P0 jn Q (m1+1) x0 key1 free6 i7=(Ad x0 λB9 O10=>Bu B9 (O10+1) λX11=>CB X11.a X11.n i7 λB12 O13=>Ad (some ⟨B12,(O13+i7.toNat*3),none⟩) λB14 O15=>Ay B14 O15 λX16=>Aj (X16==2) (Ad (some ⟨B12,(O13+i7.toNat*3),none⟩) λB17 O18=>Ch B17 (O18+1) λX19=>VX jn Q m1 x0 key1 free6 i7 B12 (O13+i7.toNat*3) (Vr X19 key1)) (VX jn Q m1 x0 key1 free6 i7 B12 (O13+i7.toNat*3) false)):=by kernel_rfl
theorem Apg:Au jn PR AI Tryz.f193 [.p x0,.s key1] Q=(A5 λS=>Ad x0 λB1 O2=>wLu S B1 O2 λX3=>Ad x0 λB4 O5=>F5 S B4 (O5+1) λX6=>wcu 117 [.int .u64 X3,.s key1] λX7=>Ap true S<|Cc 116 [.int .u64 X7,.i (X6.n:Int)] λX8=>DH λm=>P0 jn Q m x0 key1 (-1) X8):=by kernel_rfl
theorem Aph:Au jn PR Axp Tryz.f194 [.p l0,.i h1] Q=(A5 λS=>Ad l0 λB1 O2=>F5 S B1 O2 λX3=>CB X3.a X3.n h1 λB4 O5=>Ez S B4 ((O5+h1.toNat*4)+1) λX6=>Ad l0 λB7 O8=>Bu B7 O8 λX9=>Ap true S<|CB X9.a X9.n h1 λB10 O11=>Ay B10 ((O11+h1.toNat*4)+2) λX12=>Ap true S<|A5 λS=>Ad l0 λB13 O14=>F5 S B13 O14 λX15=>Ad l0 λB16 O17=>Bu B16 O17 λX18=>Ap true S<|CB X15.a X15.n X6 λB19 O20=>st B19 ((O20+X6.toNat*4)+2) (.i X12)<|CB X18.a X18.n X12 λB21 O22=>st B21 ((O22+X12.toNat*4)+1) (.i X6)<|
 Q (.tuple #[])):=by kernel_rfl
theorem Nu:TO jn Q ((.p x0)::(.i i1)::(.s key2)::(.i v3)::us 36 [])=(Ad x0 λB12 O13=>Bu B12 (O13+1) λX14=>CB X14.a X14.n i1 λB15 O16=>st B15 (O16+i1.toNat*3) (.i 2)<|st B15 ((O16+i1.toNat*3)+1) (.s key2)<|st B15 (((O16+i1.toNat*3)+1)+1) (.i v3)<|Ad x0 λB17 O18=>Ay B17 (O18+2) λX19=>Ad x0 λB20 O21=>st B20 (O21+2) (.i (IntKind.wrap .i64 (X19+1)))<|Q (.tuple #[])):=by kernel_rfl
theorem Api:Au jn PR Ahe Tryz.f195 [.p x0,.i i1,.s key2,.i v3] Q=(Ad x0 λB1 O2=>Bu B1 (O2+1) λX3=>CB X3.a X3.n i1 λB4 O5=>Ay B4 (O5+i1.toNat*3) λX6=>Aj (X6==0) (Ad x0 λB7 O8=>Ay B7 (O8+3) λX9=>Ad x0 λB10 O11=>st B10 (O11+3) (.i (IntKind.wrap .i64 (X9+1)))<|Ahd jn Q x0 i1 key2 v3) (Ahd jn Q x0 i1 key2 v3)):=by kernel_rfl
theorem Nv:L7 jn Q (m1+1) x0 t28 t29 t30=(Aj (decide (t30<t29)) (CB t28.a t28.n t30 λB14 O15=>Ay B14 (O15+t30.toNat*3) λX16=>Ch B14 ((O15+t30.toNat*3)+1) λX17=>Ay B14 (((O15+t30.toNat*3)+1)+1) λX18=>A1 [.i 0,.s Af,.i 0] 297 λB19=>st B19 0 (.i X16)<|st B19 1 (.s X17)<|st B19 2 (.i X18)<|Ay B19 0 λX20=>Aj (X20==2) (Ch B19 1 λX21=>F0 193 [.p x0,.s X21] λX22 X23=>Ch B19 1 λX24=>Ay B19 2 λX25=>
 wz 195 [.p x0,.i X22,.s X24,.i X25]<|L7 jn Q m1 x0 t28 t29 (IntKind.wrap .i64 (t30+1))) (L7 jn Q m1 x0 t28 t29 (IntKind.wrap .i64 (t30+1)))) (Q (.tuple #[]))):=by kernel_rfl
theorem Apj:Au jn PR Ec Tryz.f196 [.p x0] Q=(Ad x0 λB1 O2=>Bu B1 (O2+1) λX3=>Ad x0 λB4 O5=>Ay B4 (O5+2) λX6=>Ht 297 32 [.i 0,.s Af,.i 0] (if (IntKind.wrap .i64 (4*(IntKind.wrap .i64 (X6+1))))>8 then (IntKind.wrap .i64 (4*(IntKind.wrap .i64 (X6+1)))) else 8) (if (IntKind.wrap .i64 (4*(IntKind.wrap .i64 (X6+1))))>8 then (IntKind.wrap .i64 (4*(IntKind.wrap .i64 (X6+1)))) else 8) λG7=>Ad x0 λB8 O9=>st B8 (O9+1) (.l G7.a G7.n G7.c)<|Ad x0 λB10 O11=>st B10 (O11+2) (.i 0)<|Ad x0 λB12 O13=>st B12 (O13+3) (.i 0)<|DH λm=>L7 jn Q m x0 X3 (X3.n:Int) 0):=by kernel_rfl
theorem Nw{h5:Int}:TP jn Q ((.p l0)::(.s v1)::us 3 ((.i h5)::us 57 []))=(Ad l0 λB18 O19=>Bu B18 O19 λX20=>CB X20.a X20.n h5 λB21 O22=>st B21 (O22+h5.toNat*4) (.s v1)<|st B21 ((O22+h5.toNat*4)+1) (.i 0)<|st B21 (((O22+h5.toNat*4)+1)+1) (.i 0)<|st B21 ((((O22+h5.toNat*4)+1)+1)+1) (.b true)<|Ad l0 λB23 O24=>Ay B23 (O24+2) λX25=>Ad l0 λB26 O27=>st B26 (O27+2) (.i (IntKind.wrap .i64 (X25+1)))<|Q (.i h5)):=by kernel_rfl
theorem Apk:Au jn PR Ahg Tryz.f197 [.p l0,.s v1] Q=(Ad l0 λB1 O2=>Bu B1 O2 λX3=>Ad l0 λB4 O5=>Bu B4 (O5+1) λX6=>Aj (decide ((X6.n:Int)>0)) (Ad l0 λB7 O8=>Bu B7 (O8+1) λX9=>CB X9.a X9.n (IntKind.wrap .i64 ((X6.n:Int)-1)) λB10 O11=>Ay B10 (O11+((IntKind.wrap .i64 ((X6.n:Int)-(1:Int)))).toNat*1) λX12=>Ad l0 λB13 O14=>Bu B13 (O14+1) λX15=>Bw ((0:Int)<=(IntKind.wrap .i64 ((X6.n:Int)-(1:Int)))/\(IntKind.wrap .i64 ((X6.n:Int)-(1:Int)))<=(X15.c:Int))<|Ad l0 λB16 O17=>st B16 (O17+1) (.l (GC X15.a 0 X15.c 1) (((IntKind.wrap .i64 ((X6.n:Int)-(1:Int)))).toNat-0) (X15.c-0))<|
 Ahf jn Q l0 v1 X12) (Ad l0 λB28 O29=>Bu B28 O29 λX30=>A1 [.s Af,.i 0,.i 0,.b false] 302 λB31=>AU 302 4 40 [.s Af,.i 0,.i 0,.b false] ⟨X30.a,X30.n,X30.c⟩ 1 (λw=>F9 w (some ⟨B31,0,none⟩) (1*4)) λG32=>Ad l0 λB33 O34=>st B33 O34 (.l G32.a G32.n G32.c)<|Ahf jn Q l0 v1 (X3.n:Int))):=by kernel_rfl
theorem Apl{prev2 next3:Int}:Au jn PR Axq Tryz.f198 [.p l0,.i h1,.i prev2,.i next3] Q=(A5 λS=>Ad l0 λB1 O2=>F5 S B1 O2 λX3=>Ad l0 λB4 O5=>Bu B4 O5 λX6=>Ap true S<|CB X3.a X3.n h1 λB7 O8=>st B7 ((O8+h1.toNat*4)+1) (.i prev2)<|CB X6.a X6.n h1 λB9 O10=>st B9 ((O10+h1.toNat*4)+2) (.i next3)<|A5 λS=>Ad l0 λB11 O12=>F5 S B11 O12 λX13=>Ad l0 λB14 O15=>Bu B14 O15 λX16=>Ap true S<|CB X13.a X13.n prev2 λB17 O18=>st B17 ((O18+prev2.toNat*4)+2) (.i h1)<|CB X16.a X16.n next3 λB19 O20=>st B19 ((O20+next3.toNat*4)+1) (.i h1)<|
 Q (.tuple #[])):=by kernel_rfl
theorem Apm:Au jn PR Aw Tryz.f199 [.p l0,.i h1] Q=(Aj (!Option.isNone l0) (Aj (decide (h1>0)) (Ad l0 λB1 O2=>Bu B1 O2 λX3=>Aj (decide (h1<(X3.n:Int))) (Ad l0 λB4 O5=>Bu B4 O5 λX6=>CB X6.a X6.n h1 λB7 O8=>HI B7 ((O8+h1.toNat*4)+3) λX9=>Q (.b X9)) (Q (.b false))) (Q (.b false))) (Q (.b false))):=by kernel_rfl
theorem YK:TQ jn Q (us 3 ((.l all3.a all3.n all3.c)::us 20 []))=(Q (.l all3.a all3.n all3.c)):=by kernel_rfl
theorem Nx{h4:Int}:P2 jn Q (m1+1) l0 all3 h4=(Aj (h4 != 0) (Ad l0 λB2 O3=>Bu B2 O3 λX4=>CB X4.a X4.n h4 λB5 O6=>Ch B5 (O6+h4.toNat*4) λX7=>A1 [.s X7] 9 λB8=>AU 9 1 16 [.s Af] ⟨all3.a,all3.n,all3.c⟩ 1 (λw=>F9 w (some ⟨B8,0,none⟩) (1*1)) λG9=>Cc 245 [.p l0,.i h4] λX10=>P2 jn Q m1 l0 G9 X10) (Axt jn Q all3)):=by kernel_rfl
theorem Apn:Au jn PR P1 Tryz.f244 [.p l0] Q=(Cc 165 [.p l0] λX1=>DH λm=>P2 jn Q m l0 ⟨none,0,0⟩ X1):=by kernel_rfl
theorem Apo:Au jn PR Aw Tryz.f245 [.p l0,.i h1] Q=(DD 199 [.p l0,.i h1] λX1=>Aj (!X1) (Q (.i 0)) (Ad l0 λB2 O3=>Bu B2 O3 λX4=>CB X4.a X4.n h1 λB5 O6=>Ay B5 ((O6+h1.toNat*4)+2) λX7=>Q (.i X7))):=by kernel_rfl
theorem YL{gone6:Sl}:TS jn Q ((.p e0)::(.s key1)::us 4 ((.l gone6.a gone6.n gone6.c)::us 93 []))=(Ad e0 λB31 O32=>Bu B31 O32 λX33=>BZ B31 (O32+1) λX34=>wz 257 [.agg #[.l X33.a X33.n X33.c,.p X34],.i 1,.s key1]<|Q (.tuple #[.b false,.l gone6.a gone6.n gone6.c])):=by kernel_rfl
theorem Hh{t26:Bool}:TR jn Q ((.p e0)::(.s key1)::us 14 ((.i t16)::us 9 ((.b t26)::us 73 [])))=(Aj t26 (Ad e0 λB6 O7=>Bu B6 O7 λX8=>BZ B6 (O7+1) λX9=>wz 257 [.agg #[.l X8.a X8.n X8.c,.p X9],.i 1,.s key1]<|Q (.tuple #[.b true,.l none 0 0])) (Aj (t16==2) (A5 λS=>Ad e0 λB10 O11=>Ez S B10 (O11+2) λX12=>Ad e0 λB13 O14=>Ez S B13 (O14+3) λX15=>Ad e0 λB16 O17=>F5 S B16 O17 λX18=>EZ S B16 (O17+1) λX19=>Ad e0 λB20 O21=>F5 S B20 O21 λX22=>
 EZ S B20 (O21+1) λX23=>SK [
 (A1 [.i 3] 3 λB24=>Ap true S<|SK [
 (Cc 258 [.agg #[.l X18.a X18.n X18.c,.p X19],.l (some ⟨B24,0,none⟩) 1 1] λX25=>Ap true S<|A1 [.i 2] 3 λB26=>Ap true S<|Cc 258 [.agg #[.l X22.a X22.n X22.c,.p X23],.l (some ⟨B26,0,none⟩) 1 1] λX27=>Ap true S<|Bw (X27≠0)<|Ad e0 λB28 O29=>st B28 (O29+3) (.i (if (IntKind.wrap .i64 (X15+(if (IntKind.wrap .i64 (Int.tdiv X25 X27))>1 then (IntKind.wrap .i64 (Int.tdiv X25 X27)) else 1)))<X12 then (IntKind.wrap .i64 (X15+(if (IntKind.wrap .i64 (Int.tdiv X25 X27))>1 then (IntKind.wrap .i64 (Int.tdiv X25 X27)) else 1))) else X12))<|Gu 259 [.p e0,.b false] λX30=>
 FU jn Q e0 key1 X30),
 (A1 [.i 2] 3 λB35=>Ap true S<|Cc 258 [.agg #[.l X18.a X18.n X18.c,.p X19],.l (some ⟨B24,0,none⟩) 1 1] λX36=>Ap true S<|Cc 258 [.agg #[.l X22.a X22.n X22.c,.p X23],.l (some ⟨B35,0,none⟩) 1 1] λX37=>Ap true S<|Bw (X37≠0)<|Ad e0 λB38 O39=>st B38 (O39+3) (.i (if (IntKind.wrap .i64 (X15+(if (IntKind.wrap .i64 (Int.tdiv X36 X37))>1 then (IntKind.wrap .i64 (Int.tdiv X36 X37)) else 1)))<X12 then (IntKind.wrap .i64 (X15+(if (IntKind.wrap .i64 (Int.tdiv X36 X37))>1 then (IntKind.wrap .i64 (Int.tdiv X36 X37)) else 1))) else X12))<|Gu 259 [.p e0,.b false] λX40=>
 FU jn Q e0 key1 X40)]),
 (A1 [.i 2] 3 λB41=>Ap true S<|A1 [.i 3] 3 λB42=>Ap true S<|Cc 258 [.agg #[.l X18.a X18.n X18.c,.p X19],.l (some ⟨B42,0,none⟩) 1 1] λX43=>Ap true S<|Cc 258 [.agg #[.l X22.a X22.n X22.c,.p X23],.l (some ⟨B41,0,none⟩) 1 1] λX44=>Ap true S<|Bw (X44≠0)<|Ad e0 λB45 O46=>st B45 (O46+3) (.i (if (IntKind.wrap .i64 (X15+(if (IntKind.wrap .i64 (Int.tdiv X43 X44))>1 then (IntKind.wrap .i64 (Int.tdiv X43 X44)) else 1)))<X12 then (IntKind.wrap .i64 (X15+(if (IntKind.wrap .i64 (Int.tdiv X43 X44))>1 then (IntKind.wrap .i64 (Int.tdiv X43 X44)) else 1))) else X12))<|
 Gu 259 [.p e0,.b false] λX47=>FU jn Q e0 key1 X47)]) (Aj (t16==3) (A5 λS=>Ad e0 λB48 O49=>Ez S B48 (O49+3) λX50=>Ad e0 λB51 O52=>F5 S B51 O52 λX53=>EZ S B51 (O52+1) λX54=>Ad e0 λB55 O56=>F5 S B55 O56 λX57=>EZ S B55 (O56+1) λX58=>SK [
 (A1 [.i 2] 3 λB59=>Ap true S<|SK [
 (Cc 258 [.agg #[.l X53.a X53.n X53.c,.p X54],.l (some ⟨B59,0,none⟩) 1 1] λX60=>Ap true S<|A1 [.i 3] 3 λB61=>Ap true S<|Cc 258 [.agg #[.l X57.a X57.n X57.c,.p X58],.l (some ⟨B61,0,none⟩) 1 1] λX62=>Ap true S<|Bw (X62≠0)<|Ad e0 λB63 O64=>st B63 (O64+3) (.i (if (IntKind.wrap .i64 (X50-(if (IntKind.wrap .i64 (Int.tdiv X60 X62))>1 then (IntKind.wrap .i64 (Int.tdiv X60 X62)) else 1)))>0 then (IntKind.wrap .i64 (X50-(if (IntKind.wrap .i64 (Int.tdiv X60 X62))>1 then (IntKind.wrap .i64 (Int.tdiv X60 X62)) else 1))) else 0))<|Gu 259 [.p e0,.b true] λX65=>
 FU jn Q e0 key1 X65),
 (A1 [.i 3] 3 λB66=>Ap true S<|Cc 258 [.agg #[.l X53.a X53.n X53.c,.p X54],.l (some ⟨B59,0,none⟩) 1 1] λX67=>Ap true S<|Cc 258 [.agg #[.l X57.a X57.n X57.c,.p X58],.l (some ⟨B66,0,none⟩) 1 1] λX68=>Ap true S<|Bw (X68≠0)<|Ad e0 λB69 O70=>st B69 (O70+3) (.i (if (IntKind.wrap .i64 (X50-(if (IntKind.wrap .i64 (Int.tdiv X67 X68))>1 then (IntKind.wrap .i64 (Int.tdiv X67 X68)) else 1)))>0 then (IntKind.wrap .i64 (X50-(if (IntKind.wrap .i64 (Int.tdiv X67 X68))>1 then (IntKind.wrap .i64 (Int.tdiv X67 X68)) else 1))) else 0))<|Gu 259 [.p e0,.b true] λX71=>
 FU jn Q e0 key1 X71)]),
 (A1 [.i 3] 3 λB72=>Ap true S<|A1 [.i 2] 3 λB73=>Ap true S<|Cc 258 [.agg #[.l X53.a X53.n X53.c,.p X54],.l (some ⟨B73,0,none⟩) 1 1] λX74=>Ap true S<|Cc 258 [.agg #[.l X57.a X57.n X57.c,.p X58],.l (some ⟨B72,0,none⟩) 1 1] λX75=>Ap true S<|Bw (X75≠0)<|Ad e0 λB76 O77=>st B76 (O77+3) (.i (if (IntKind.wrap .i64 (X50-(if (IntKind.wrap .i64 (Int.tdiv X74 X75))>1 then (IntKind.wrap .i64 (Int.tdiv X74 X75)) else 1)))>0 then (IntKind.wrap .i64 (X50-(if (IntKind.wrap .i64 (Int.tdiv X74 X75))>1 then (IntKind.wrap .i64 (Int.tdiv X74 X75)) else 1))) else 0))<|
 Gu 259 [.p e0,.b true] λX78=>FU jn Q e0 key1 X78)]) (Gu 260 [.p e0] λX79=>Ad e0 λB80 O81=>Bu B80 O81 λX82=>BZ B80 (O81+1) λX83=>wz 257 [.agg #[.l X82.a X82.n X82.c,.p X83],.i 0,.s key1]<|Q (.tuple #[.b false,.l X79.a X79.n X79.c]))))):=by kernel_rfl
theorem App:Au jn PR P3 Tryz.f246 [.p e0,.s key1] Q=(Aj (Option.isNone e0) (Q (.tuple #[.b false,.l none 0 0])) (Ad e0 λB1 O2=>Bu B1 O2 λX3=>BZ B1 (O2+1) λX4=>Cc 256 [.agg #[.l X3.a X3.n X3.c,.p X4],.s key1] λX5=>Aj (X5==0) (Wb jn Q e0 key1 X5 (X5==0)) (Wb jn Q e0 key1 X5 (X5==1)))):=by kernel_rfl
theorem Apq:Au jn PR Aw Tryz.f247 [.p e0] Q=(Cc 251 [.p e0] λX1=>Aj (X1==0) (Q (.tuple #[.s Af,.b false])) (Ad e0 λB2 O3=>Bu B2 O3 λX4=>BZ B2 (O3+1) λX5=>A1 [.i 0] 3 λB6=>Cc 258 [.agg #[.l X4.a X4.n X4.c,.p X5],.l (some ⟨B6,0,none⟩) 1 1] λX7=>Aj (decide (X7>0)) (Ad e0 λB8 O9=>Ay B8 (O9+3) λX10=>Aj (decide (X7>X10)) (Gu 261 [.p e0,.b true] λX11=>CB X11.a X11.n 0 λB12 O13=>Ch B12 (O13+((0:Int)).toNat*1) λX14=>
 Q (.tuple #[.s X14,.b true])) (Ad e0 λB15 O16=>Bu B15 O16 λX17=>BZ B15 (O16+1) λX18=>A1 [.i 1] 3 λB19=>Cc 258 [.agg #[.l X17.a X17.n X17.c,.p X18],.l (some ⟨B19,0,none⟩) 1 1] λX20=>Gu 261 [.p e0,.b (X20==0)] λX21=>CB X21.a X21.n 0 λB22 O23=>Ch B22 (O23+((0:Int)).toNat*1) λX24=>Q (.tuple #[.s X24,.b true]))) (Gu 261 [.p e0,.b false] λX25=>CB X25.a X25.n 0 λB26 O27=>Ch B26 (O27+((0:Int)).toNat*1) λX28=>Q (.tuple #[.s X28,.b true])))):=by kernel_rfl
theorem Apr:Au jn PR Aw Tryz.f249 [.p e0,.s key1] Q=(Aj (Option.isNone e0) (Q (.b false)) (Ad e0 λB1 O2=>Bu B1 O2 λX3=>BZ B1 (O2+1) λX4=>Cc 256 [.agg #[.l X3.a X3.n X3.c,.p X4],.s key1] λX5=>Aj (X5==0) (Q (.b true)) (Q (.b (X5==1))))):=by kernel_rfl
theorem Aps:Au jn PR Aw Tryz.f250 [.p e0] Q=(Aj (Option.isNone e0) (Q (.l none 0 0)) (Ad e0 λB1 O2=>Bu B1 O2 λX3=>BZ B1 (O2+1) λX4=>A1 [.i 0,.i 1] 3 λB5=>Gu 262 [.agg #[.l X3.a X3.n X3.c,.p X4],.l (some ⟨B5,0,none⟩) 2 2] λX6=>Q (.l X6.a X6.n X6.c))):=by kernel_rfl
theorem Apt:Au jn PR Aw Tryz.f251 [.p e0] Q=(Aj (Option.isNone e0) (Q (.i 0)) (Ad e0 λB1 O2=>Bu B1 O2 λX3=>BZ B1 (O2+1) λX4=>A1 [.i 0,.i 1] 3 λB5=>Cc 258 [.agg #[.l X3.a X3.n X3.c,.p X4],.l (some ⟨B5,0,none⟩) 2 2] λX6=>Q (.i X6))):=by kernel_rfl
theorem YO:TW jn Q (us 70 [])=(Q (.b true)):=by kernel_rfl
theorem Nz{m4:Nat}:P5 jn Q (m4+1) e0=(A5 λS=>Ad e0 λB28 O29=>F5 S B28 O29 λX30=>EZ S B28 (O29+1) λX31=>Ad e0 λB32 O33=>Ez S B32 (O33+2) λX34=>A1 [.i 0,.i 1,.i 2,.i 3] 3 λB35=>Ap true S<|Cc 258 [.agg #[.l X30.a X30.n X30.c,.p X31],.l (some ⟨B35,0,none⟩) 4 4] λX36=>Ap true S<|Aj (decide (X36>(IntKind.wrap .i64 (2*X34)))) (A5 λS=>Ad e0 λB37 O38=>F5 S B37 O38 λX39=>EZ S B37 (O38+1) λX40=>Ad e0 λB41 O42=>Bu B41 O42 λX43=>BZ B41 (O42+1) λX44=>
 Ap true S<|V1 264 [.agg #[.l X43.a X43.n X43.c,.p X44],.i 3] λX45=>Ap true S<|wz 263 [.agg #[.l X39.a X39.n X39.c,.p X40],.s X45]<|P5 jn Q m4 e0) (Axx jn Q)):=by kernel_rfl
theorem YN:TV jn Q ((.p e0)::us 69 [])=(DH λm=>P5 jn Q m e0):=by kernel_rfl
theorem Ny:P4 jn Q (m2+1) e0=(A5 λS=>Ad e0 λB10 O11=>F5 S B10 O11 λX12=>EZ S B10 (O11+1) λX13=>Ad e0 λB14 O15=>Ez S B14 (O15+2) λX16=>A1 [.i 0,.i 2] 3 λB17=>Ap true S<|Cc 258 [.agg #[.l X12.a X12.n X12.c,.p X13],.l (some ⟨B17,0,none⟩) 2 2] λX18=>Ap true S<|Aj (decide (X18>X16)) (A5 λS=>Ad e0 λB19 O20=>F5 S B19 O20 λX21=>EZ S B19 (O20+1) λX22=>Ad e0 λB23 O24=>Bu B23 O24 λX25=>BZ B23 (O24+1) λX26=>Ap true S<|V1 264 [.agg #[.l X25.a X25.n X25.c,.p X26],.i 2] λX27=>
 Ap true S<|wz 263 [.agg #[.l X21.a X21.n X21.c,.p X22],.s X27]<|P4 jn Q m2 e0) (Axw jn Q e0)):=by kernel_rfl
theorem YM:TU jn Q ((.p e0)::(.s key1)::us 68 [])=(Ad e0 λB6 O7=>Bu B6 O7 λX8=>BZ B6 (O7+1) λX9=>wz 257 [.agg #[.l X8.a X8.n X8.c,.p X9],.i 0,.s key1]<|DH λm=>P4 jn Q m e0):=by kernel_rfl
theorem Apv:Au jn PR Hi Tryz.f252 [.p e0,.s key1] Q=(A5 λS=>Aj (Option.isNone e0) (Ap true S<|Ap true S<|Q (.b false)) (DD 249 [.p e0,.s key1] λX1=>Ap true S<|Aj X1 (Ap true S<|Q (.b false)) (Ad e0 λB2 O3=>Ez S B2 (O3+2) λX4=>Cc 251 [.p e0] λX5=>Ap true S<|Aj (X5==X4) (Q (.b false)) (Axv jn Q e0 key1)))):=by kernel_rfl
theorem Apw:Au jn PR Aw Tryz.f253 [.p e0,.s key1] Q=(DD 249 [.p e0,.s key1] λX1=>Aj (!X1) (Q (.b false)) (Ad e0 λB2 O3=>Bu B2 O3 λX4=>BZ B2 (O3+1) λX5=>wz 263 [.agg #[.l X4.a X4.n X4.c,.p X5],.s key1]<|Q (.b true))):=by kernel_rfl
theorem Apx:Au jn PR Aw Tryz.f254 [.p e0] Q=(Aj (Option.isNone e0) (Q (.i 0)) (Ad e0 λB1 O2=>Ay B1 (O2+2) λX3=>Q (.i X3))):=by kernel_rfl
theorem Apy{again1:Bool}:Au jn PR Ax0 Tryz.f259 [.p e0,.b again1] Q=(A5 λS=>Ad e0 λB1 O2=>F5 S B1 O2 λX3=>EZ S B1 (O2+1) λX4=>Ad e0 λB5 O6=>Ez S B5 (O6+2) λX7=>A1 [.i 0,.i 1] 3 λB8=>Ap true S<|Cc 258 [.agg #[.l X3.a X3.n X3.c,.p X4],.l (some ⟨B8,0,none⟩) 2 2] λX9=>Ap true S<|Aj (decide (X9<X7)) (Q (.l none 0 0)) (Ad e0 λB10 O11=>Bu B10 O11 λX12=>BZ B10 (O11+1) λX13=>A1 [.i 0] 3 λB14=>Cc 258 [.agg #[.l X12.a X12.n X12.c,.p X13],.l (some ⟨B14,0,none⟩) 1 1] λX15=>
 Aj (decide (X15>0)) (Ad e0 λB16 O17=>Ay B16 (O17+3) λX18=>Aj (decide (X15>X18)) (Gu 261 [.p e0,.b true] λX19=>Q (.l X19.a X19.n X19.c)) (Ad e0 λB20 O21=>Ay B20 (O21+3) λX22=>Aj (X15==X22) (Aj again1 (Gu 261 [.p e0,.b true] λX23=>Q (.l X23.a X23.n X23.c)) (Ad e0 λB24 O25=>Bu B24 O25 λX26=>BZ B24 (O25+1) λX27=>A1 [.i 1] 3 λB28=>Cc 258 [.agg #[.l X26.a X26.n X26.c,.p X27],.l (some ⟨B28,0,none⟩) 1 1] λX29=>Gu 261 [.p e0,.b (X29==0)] λX30=>
 Q (.l X30.a X30.n X30.c))) (Ad e0 λB31 O32=>Bu B31 O32 λX33=>BZ B31 (O32+1) λX34=>A1 [.i 1] 3 λB35=>Cc 258 [.agg #[.l X33.a X33.n X33.c,.p X34],.l (some ⟨B35,0,none⟩) 1 1] λX36=>Gu 261 [.p e0,.b (X36==0)] λX37=>Q (.l X37.a X37.n X37.c)))) (Gu 261 [.p e0,.b false] λX38=>Q (.l X38.a X38.n X38.c)))):=by kernel_rfl
theorem YP{t4:Bool}:TX jn Q ((.p e0)::us 3 ((.b t4)::us 96 []))=(Aj t4 (A5 λS=>Ad e0 λB19 O20=>F5 S B19 O20 λX21=>EZ S B19 (O20+1) λX22=>Ad e0 λB23 O24=>Bu B23 O24 λX25=>BZ B23 (O24+1) λX26=>Ap true S<|V1 264 [.agg #[.l X25.a X25.n X25.c,.p X26],.i 2] λX27=>Ap true S<|wz 263 [.agg #[.l X21.a X21.n X21.c,.p X22],.s X27]<|Gu 259 [.p e0,.b false] λX28=>Q (.l X28.a X28.n X28.c)) (A5 λS=>Ad e0 λB29 O30=>F5 S B29 O30 λX31=>EZ S B29 (O30+1) λX32=>
 Ad e0 λB33 O34=>Ez S B33 (O34+2) λX35=>A1 [.i 0,.i 2] 3 λB36=>Ap true S<|Cc 258 [.agg #[.l X31.a X31.n X31.c,.p X32],.l (some ⟨B36,0,none⟩) 2 2] λX37=>Ap true S<|Aj (decide (X37>=X35)) (Ad e0 λB38 O39=>Bu B38 O39 λX40=>BZ B38 (O39+1) λX41=>V1 264 [.agg #[.l X40.a X40.n X40.c,.p X41],.i 0] λX42=>Ad e0 λB43 O44=>Bu B43 O44 λX45=>BZ B43 (O44+1) λX46=>wz 263 [.agg #[.l X45.a X45.n X45.c,.p X46],.s X42]<|A1 [.s X42] 9 λB47=>Q (.l (some ⟨B47,0,none⟩) 1 1)) (
 A5 λS=>Ad e0 λB48 O49=>F5 S B48 O49 λX50=>EZ S B48 (O49+1) λX51=>Ad e0 λB52 O53=>Ez S B52 (O53+2) λX54=>A1 [.i 0,.i 1,.i 2,.i 3] 3 λB55=>Ap true S<|Cc 258 [.agg #[.l X50.a X50.n X50.c,.p X51],.l (some ⟨B55,0,none⟩) 4 4] λX56=>Ap true S<|Aj (decide (X56<X54)) (Q (.l none 0 0)) (A5 λS=>Ad e0 λB57 O58=>F5 S B57 O58 λX59=>EZ S B57 (O58+1) λX60=>Ad e0 λB61 O62=>Ez S B61 (O62+2) λX63=>A1 [.i 0,.i 1,.i 2,.i 3] 3 λB64=>Ap true S<|Cc 258 [.agg #[.l X59.a X59.n X59.c,.p X60],.l (some ⟨B64,0,none⟩) 4 4] λX65=>
 Ap true S<|Aj (decide (X65>=(IntKind.wrap .i64 (2*X63)))) (A5 λS=>Ad e0 λB66 O67=>F5 S B66 O67 λX68=>EZ S B66 (O67+1) λX69=>Ad e0 λB70 O71=>Bu B70 O71 λX72=>BZ B70 (O71+1) λX73=>Ap true S<|V1 264 [.agg #[.l X72.a X72.n X72.c,.p X73],.i 3] λX74=>Ap true S<|wz 263 [.agg #[.l X68.a X68.n X68.c,.p X69],.s X74]<|Gu 259 [.p e0,.b false] λX75=>Q (.l X75.a X75.n X75.c)) (Gu 259 [.p e0,.b false] λX76=>Q (.l X76.a X76.n X76.c)))))):=by kernel_rfl
theorem Apz:Au jn PR Wd Tryz.f260 [.p e0] Q=(A5 λS=>Ad e0 λB1 O2=>F5 S B1 O2 λX3=>EZ S B1 (O2+1) λX4=>Ad e0 λB5 O6=>Ez S B5 (O6+2) λX7=>A1 [.i 0,.i 2] 3 λB8=>Ap true S<|Cc 258 [.agg #[.l X3.a X3.n X3.c,.p X4],.l (some ⟨B8,0,none⟩) 2 2] λX9=>Ap true S<|Aj (decide (X9>=X7)) (Ad e0 λB10 O11=>F5 S B10 O11 λX12=>EZ S B10 (O11+1) λX13=>Ad e0 λB14 O15=>Ez S B14 (O15+2) λX16=>A1 [.i 0] 3 λB17=>Ap true S<|Cc 258 [.agg #[.l X12.a X12.n X12.c,.p X13],.l (some ⟨B17,0,none⟩) 1 1] λX18=>
 Ap true S<|Wc jn Q e0 (decide (X18<X16))) (Ap true S<|Ap true S<|Wc jn Q e0 false)):=by kernel_rfl
theorem YQ{from5 to6:Int}:TY jn Q ((.p e0)::us 4 ((.i from5)::(.i to6)::us 17 []))=(Ad e0 λB1 O2=>Bu B1 O2 λX3=>BZ B1 (O2+1) λX4=>V1 264 [.agg #[.l X3.a X3.n X3.c,.p X4],.i from5] λX5=>Ad e0 λB6 O7=>Bu B6 O7 λX8=>BZ B6 (O7+1) λX9=>wz 257 [.agg #[.l X8.a X8.n X8.c,.p X9],.i to6,.s X5]<|A1 [.s X5] 9 λB10=>Q (.l (some ⟨B10,0,none⟩) 1 1)):=by kernel_rfl
theorem Ap0{recent1:Bool}:Au jn PR Ahj Tryz.f261 [.p e0,.b recent1] Q=(Aj recent1 (We jn Q e0 0 2) (We jn Q e0 1 3)):=by kernel_rfl
theorem YU{t88:Bool}:Uc jn Q ((.p e0)::(.s key1)::us 4 ((pq n6b n6o)::us 1 ((.l gone8.a gone8.n gone8.c)::us 79 ((.b t88)::us 13 []))))=(Aj t88 (Ay n6b n6o λX38=>Ay n6b (n6o+1) λX39=>Ay n6b ((n6o+1)+1) λX40=>wz 283 [.p e0,.agg #[.i X38,.i X39,.i X40],.s key1]<|wz 286 [.p e0]<|wz 284 [.p e0]<|Q (.tuple #[.b false,.l gone8.a gone8.n gone8.c])) (Ay n6b n6o λX41=>Ay n6b (n6o+1) λX42=>Ay n6b ((n6o+1)+1) λX43=>
 wz 285 [.p e0,.agg #[.i X41,.i X42,.i X43],.s key1]<|wz 286 [.p e0]<|wz 284 [.p e0]<|Q (.tuple #[.b false,.l gone8.a gone8.n gone8.c]))):=by kernel_rfl
theorem YT:Ub jn Q ((.p e0)::(.s key1)::us 4 ((pq n6b n6o)::us 1 ((.l gone8.a gone8.n gone8.c)::us 93 [])))=(A5 λS=>Ad e0 λB32 O33=>Ez S B32 (O33+5) λX34=>Ad e0 λB35 O36=>Ay B35 (O36+1) λX37=>Ap true S<|Aj (decide (X34<X37)) (Wh jn Q e0 key1 n6b n6o gone8 true) (Ay n6b n6o λX44=>Wh jn Q e0 key1 n6b n6o gone8 (X44==3))):=by kernel_rfl
theorem YS:Ua jn Q ((.p e0)::(.s key1)::us 4 ((pq n6b n6o)::us 95 []))=(A5 λS=>Ad e0 λB17 O18=>Ez S B17 O18 λX19=>Cc 276 [.p e0] λX20=>Ap true S<|Aj (decide (X20>=X19)) (Fi 272 [.p e0] λX21 X22=>A1 [.s X21] 9 λB23=>AU 9 1 16 [.s Af] ⟨none,0,0⟩ 1 (λw=>F9 w (some ⟨B23,0,none⟩) (1*1)) λG24=>Ad e0 λB25 O26=>BZ B25 (O26+4) λX27=>λw=>Calls PR 282 #[.p X27,.s key1] w λe w'=>∃X28:Int,∃X29:Int,∃X30:Int,∃X31:Bool,e = .returned (.tuple #[.agg #[.i X28,.i X29,.i X30],.b X31])/\(
 st n6b n6o (.i X28)<|st n6b (n6o+1) (.i X29)<|st n6b ((n6o+1)+1) (.i X30)<|Wg jn Q e0 key1 n6b n6o G24) w') (Wg jn Q e0 key1 n6b n6o ⟨none,0,0⟩)):=by kernel_rfl
theorem YR{t22:Bool}:TZ jn Q ((.p e0)::(.s key1)::us 4 ((pq n6b n6o)::us 15 ((.b t22)::us 79 [])))=(Aj t22 (Ay n6b n6o λX10=>Ay n6b (n6o+1) λX11=>Ay n6b ((n6o+1)+1) λX12=>wz 283 [.p e0,.agg #[.i X10,.i X11,.i X12],.s key1]<|wz 284 [.p e0]<|Q (.tuple #[.b true,.l none 0 0])) (Ay n6b n6o λX13=>Aj (X13==2) (Ay n6b n6o λX14=>Ay n6b (n6o+1) λX15=>Ay n6b ((n6o+1)+1) λX16=>wz 285 [.p e0,.agg #[.i X14,.i X15,.i X16],.s key1]<|
 wz 284 [.p e0]<|Q (.tuple #[.b true,.l none 0 0])) (Ax6 jn Q e0 key1 n6b n6o))):=by kernel_rfl
theorem Ap2:Au jn PR I2 Tryz.f271 [.p e0,.s key1] Q=(Aj (Option.isNone e0) (Q (.tuple #[.b false,.l none 0 0])) (Ad e0 λB1 O2=>BZ B1 (O2+4) λX3=>λw=>Calls PR 282 #[.p X3,.s key1] w λe w'=>∃X4:Int,∃X5:Int,∃X6:Int,∃X7:Bool,e = .returned (.tuple #[.agg #[.i X4,.i X5,.i X6],.b X7])/\(A1 [.i 0,.i 0,.i 0] 270 λB8=>st B8 0 (.i X4)<|st B8 1 (.i X5)<|st B8 2 (.i X6)<|Ay B8 0 λX9=>Aj (X9==1) (PA jn Q e0 key1 B8 0 (X9==1)) (Ay B8 0 λX45=>Aj (X45==2) (Ay B8 1 λX46=>
 PA jn Q e0 key1 B8 0 (X46 != 0)) (PA jn Q e0 key1 B8 0 false))) w')):=by kernel_rfl
theorem N0{key4:BA}:Ue jn Q ((.p e0)::us 3 ((.s key4)::us 1 ((pq n6b n6o)::us 50 [])))=(Ay n6b n6o λX24=>Ay n6b (n6o+1) λX25=>Ay n6b ((n6o+1)+1) λX26=>wz 288 [.p e0,.s key4,.agg #[.i X24,.i X25,.i X26]]<|wz 286 [.p e0]<|wz 284 [.p e0]<|Q (.tuple #[.s key4,.b true])):=by kernel_rfl
theorem YV:Ud jn Q ((.p e0)::us 56 [])=(A5 λS=>Ad e0 λB6 O7=>EZ S B6 (O7+3) λX8=>Ad e0 λB9 O10=>BZ B9 (O10+3) λX11=>Ap true S<|Cc 165 [.p X11] λX12=>Ap true S<|Fi 164 [.p X8,.i X12] λX13 X14=>Ad e0 λB15 O16=>BZ B15 (O16+4) λX17=>λw=>Calls PR 282 #[.p X17,.s X13] w λe w'=>∃X18:Int,∃X19:Int,∃X20:Int,∃X21:Bool,e = .returned (.tuple #[.agg #[.i X18,.i X19,.i X20],.b X21])/\(A1 [.i 0,.i 0,.i 0] 270 λB22=>st B22 0 (.i X18)<|
 st B22 1 (.i X19)<|st B22 2 (.i X20)<|wz 287 [.p e0,pq B22 0]<|st B22 0 (.i 3)<|Ay B22 1 λX23=>Aj (X23==0) (st B22 0 (.i 0)<|Ahm jn Q e0 X13 B22 0) (Ahm jn Q e0 X13 B22 0)) w'):=by kernel_rfl
theorem Ap3:Au jn PR Wj Tryz.f272 [.p e0] Q=(Cc 276 [.p e0] λX1=>Aj (X1==0) (Q (.tuple #[.s Af,.b false])) (Ad e0 λB2 O3=>BZ B2 (O3+3) λX4=>Cc 163 [.p X4] λX5=>Aj (X5==0) (wz 281 [.p e0]<|Wi jn Q e0) (Wi jn Q e0))):=by kernel_rfl
theorem Ap4:Au jn PR Aw Tryz.f274 [.p e0,.s key1] Q=(Aj (Option.isNone e0) (Q (.b false)) (Ad e0 λB1 O2=>BZ B1 (O2+4) λX3=>λw=>Calls PR 282 #[.p X3,.s key1] w λe w'=>∃X4:Int,∃X5:Int,∃X6:Int,∃X7:Bool,e = .returned (.tuple #[.agg #[.i X4,.i X5,.i X6],.b X7])/\(A1 [.i 0,.i 0,.i 0] 270 λB8=>st B8 0 (.i X4)<|st B8 1 (.i X5)<|st B8 2 (.i X6)<|Ay B8 0 λX9=>Aj (X9==1) (Q (.b true)) (Ay B8 0 λX10=>Q (.b (X10==2)))) w')):=by kernel_rfl
theorem Ap5:Au jn PR Aw Tryz.f275 [.p e0] Q=(Aj (Option.isNone e0) (Q (.l none 0 0)) (Ad e0 λB1 O2=>BZ B1 (O2+3) λX3=>Gu 244 [.p X3] λX4=>Gu 289 [.p e0,.i 1] λX5=>AU 9 1 16 [.s Af] ⟨X4.a,X4.n,X4.c⟩ X5.n (λw=>F9 w X5.a (X5.n*1)) λG6=>Q (.l G6.a G6.n G6.c))):=by kernel_rfl
theorem Ap6:Au jn PR Ax7 Tryz.f276 [.p e0] Q=(Aj (Option.isNone e0) (Q (.i 0)) (A5 λS=>Ad e0 λB1 O2=>EZ S B1 (O2+3) λX3=>Ad e0 λB4 O5=>Ez S B4 (O5+5) λX6=>Cc 163 [.p X3] λX7=>Ap true S<|Q (.i (IntKind.wrap .i64 (X7+X6))))):=by kernel_rfl
theorem YW:Uf jn Q ((.p e0)::(.s key1)::us 49 [])=(Ad e0 λB6 O7=>BZ B6 (O7+4) λX8=>λw=>Calls PR 282 #[.p X8,.s key1] w λe w'=>∃X9:Int,∃X10:Int,∃X11:Int,∃X12:Bool,e = .returned (.tuple #[.agg #[.i X9,.i X10,.i X11],.b X12])/\(A1 [.i 0,.i 0,.i 0] 270 λB13=>st B13 0 (.i X9)<|st B13 1 (.i X10)<|st B13 2 (.i X11)<|A5 λS=>Ad e0 λB14 O15=>Ez S B14 (O15+5) λX16=>Ad e0 λB17 O18=>Ay B17 (O18+1) λX19=>Ap true S<|Aj (decide (X16<X19)) (Ay B13 0 λX20=>
 Ay B13 1 λX21=>Ay B13 2 λX22=>wz 283 [.p e0,.agg #[.i X20,.i X21,.i X22],.s key1]<|wz 284 [.p e0]<|Q (.b true)) (Ay B13 0 λX23=>Ay B13 1 λX24=>Ay B13 2 λX25=>wz 285 [.p e0,.agg #[.i X23,.i X24,.i X25],.s key1]<|wz 284 [.p e0]<|Q (.b true))) w'):=by kernel_rfl
theorem Ap7:Au jn PR Ahn Tryz.f277 [.p e0,.s key1] Q=(A5 λS=>Aj (Option.isNone e0) (Ap true S<|Ap true S<|Q (.b false)) (DD 274 [.p e0,.s key1] λX1=>Ap true S<|Aj X1 (Ap true S<|Q (.b false)) (Ad e0 λB2 O3=>Ez S B2 O3 λX4=>Cc 276 [.p e0] λX5=>Ap true S<|Aj (X5==X4) (Q (.b false)) (Ax8 jn Q e0 key1)))):=by kernel_rfl
theorem Ap8:Au jn PR Ax9 Tryz.f278 [.p e0,.s key1] Q=(DD 274 [.p e0,.s key1] λX1=>Aj (!X1) (Q (.b false)) (Ad e0 λB2 O3=>BZ B2 (O3+4) λX4=>λw=>Calls PR 282 #[.p X4,.s key1] w λe w'=>∃X5:Int,∃X6:Int,∃X7:Int,∃X8:Bool,e = .returned (.tuple #[.agg #[.i X5,.i X6,.i X7],.b X8])/\(A1 [.i 0,.i 0,.i 0] 270 λB9=>st B9 0 (.i X5)<|st B9 1 (.i X6)<|st B9 2 (.i X7)<|A5 λS=>Ad e0 λB10 O11=>EZ S B10 (O11+2) λX12=>Ay B9 1 λX13=>Ap true S<|
 Fi 160 [.p X12,.i X13] λX14 X15=>wz 287 [.p e0,pq B9 0]<|wz 288 [.p e0,.s key1,.agg #[.i 0,.i 0,.i 0]]<|wz 284 [.p e0]<|Q (.b true)) w')):=by kernel_rfl
theorem Ap9:Au jn PR Aw Tryz.f279 [.p e0] Q=(Aj (Option.isNone e0) (Q (.i 0)) (Ad e0 λB1 O2=>Ay B1 O2 λX3=>Q (.i X3))):=by kernel_rfl
theorem Aqb:Au jn PR Aho Tryz.f281 [.p e0] Q=(λw=>Calls PR 290 #[.p e0,.i 1] w λe w'=>∃X1:BA,∃X2:Int,∃X3:Int,∃X4:Int,e = .returned (.tuple #[.s X1,.agg #[.i X2,.i X3,.i X4]])/\(A1 [.i 0,.i 0,.i 0] 270 λB5=>st B5 0 (.i X2)<|st B5 1 (.i X3)<|st B5 2 (.i X4)<|A5 λS=>Ad e0 λB6 O7=>EZ S B6 (O7+2) λX8=>Ay B5 1 λX9=>Ap true S<|Fi 160 [.p X8,.i X9] λX10 X11=>st B5 0 (.i 2)<|st B5 1 (.i 0)<|wz 291 [.p e0,pq B5 0,.s X1]<|
 Ay B5 0 λX12=>Ay B5 1 λX13=>Ay B5 2 λX14=>wz 288 [.p e0,.s X1,.agg #[.i X12,.i X13,.i X14]]<|wz 284 [.p e0]<|Q (.tuple #[])) w'):=by kernel_rfl
theorem YZ{t4b t4o:Nat}:Ug jn Q (us 4 ((pq t4b t4o)::us 22 []))=(A1 [.i 0,.i 0,.i 0] 270 λB15=>Ay B15 0 λX16=>Ay B15 1 λX17=>Ay B15 2 λX18=>st t4b t4o (.i X16)<|st t4b (t4o+1) (.i X17)<|st t4b ((t4o+1)+1) (.i X18)<|Ay t4b t4o λX19=>Ay t4b (t4o+1) λX20=>Ay t4b ((t4o+1)+1) λX21=>Q (.tuple #[.agg #[.i X19,.i X20,.i X21],.b false])):=by kernel_rfl
theorem Aqc:Au jn PR EL Tryz.f282 [.p x0,.s key1] Q=(A1 [.i 0,.i 0,.i 0] 270 λB1=>Aj (!Option.isNone x0) (F0 292 [.p x0,.s key1] λX2 X3=>Aj X3 (Ad x0 λB4 O5=>Bu B4 (O5+1) λX6=>CB X6.a X6.n X2 λB7 O8=>Ay B7 ((O8+X2.toNat*5)+2) λX9=>Ay B7 (((O8+X2.toNat*5)+2)+1) λX10=>Ay B7 ((((O8+X2.toNat*5)+2)+1)+1) λX11=>st B1 0 (.i X9)<|st B1 1 (.i X10)<|st B1 2 (.i X11)<|Ay B1 0 λX12=>Ay B1 1 λX13=>Ay B1 2 λX14=>
 Q (.tuple #[.agg #[.i X12,.i X13,.i X14],.b true])) (Ahp jn Q B1 0)) (Ahp jn Q B1 0)):=by kernel_rfl
theorem Aqd:Au jn PR Ayb Tryz.f283 [.p e0,.agg #[.i n1_0,.i n1_1,.i n1_2],.s key2] Q=(A1 [.i n1_0,.i n1_1,.i n1_2] 270 λB1=>st B1 0 (.i 1)<|wz 293 [.p e0,pq B1 0,.s key2]<|wz 287 [.p e0,pq B1 0]<|Ay B1 0 λX2=>Ay B1 1 λX3=>Ay B1 2 λX4=>wz 288 [.p e0,.s key2,.agg #[.i X2,.i X3,.i X4]]<|A5 λS=>Ad e0 λB5 O6=>Ez S B5 (O6+5) λX7=>Ad e0 λB8 O9=>
 Ay B8 (O9+1) λX10=>Ap true S<|Aj (decide (X7>X10)) (wz 281 [.p e0]<|Q (.tuple #[])) (Q (.tuple #[]))):=by kernel_rfl
theorem N1:PB jn Q (m1+1) e0=(Ad e0 λB1 O2=>BZ B1 (O2+2) λX3=>Cc 163 [.p X3] λX4=>Aj (decide (X4>0)) (A5 λS=>Ad e0 λB5 O6=>EZ S B5 (O6+2) λX7=>Ad e0 λB8 O9=>BZ B8 (O9+2) λX10=>Ap true S<|Cc 165 [.p X10] λX11=>Ap true S<|Fi 164 [.p X7,.i X11] λX12 X13=>Ad e0 λB14 O15=>BZ B14 (O15+4) λX16=>λw=>Calls PR 282 #[.p X16,.s X12] w λe w'=>∃X17:Int,∃X18:Int,∃X19:Int,∃X20:Bool,e = .returned (.tuple #[.agg #[.i X17,.i X18,.i X19],.b X20])/\(
 A1 [.i 0,.i 0,.i 0] 270 λB21=>st B21 0 (.i X17)<|st B21 1 (.i X18)<|st B21 2 (.i X19)<|Ay B21 0 λX22=>Aj (X22==1) (Q (.tuple #[])) (Ay B21 0 λX23=>Ay B21 1 λX24=>Ay B21 2 λX25=>wz 294 [.p e0,.agg #[.i X23,.i X24,.i X25],.s X12]<|PB jn Q m1 e0)) w') (Q (.tuple #[]))):=by kernel_rfl
theorem Aqe:Au jn PR Ahq Tryz.f284 [.p e0] Q=(DH λm=>PB jn Q m e0):=by kernel_rfl
theorem Aqf:Au jn PR Aw Tryz.f285 [.p e0,.agg #[.i n1_0,.i n1_1,.i n1_2],.s key2] Q=(A1 [.i n1_0,.i n1_1,.i n1_2] 270 λB1=>st B1 0 (.i 2)<|wz 293 [.p e0,pq B1 0,.s key2]<|wz 291 [.p e0,pq B1 0,.s key2]<|Ay B1 0 λX2=>Ay B1 1 λX3=>Ay B1 2 λX4=>wz 288 [.p e0,.s key2,.agg #[.i X2,.i X3,.i X4]]<|Q (.tuple #[])):=by kernel_rfl
theorem N2:PC jn Q (m1+1) e0=(A5 λS=>Ad e0 λB1 O2=>Ez S B1 (O2+6) λX3=>Ad e0 λB4 O5=>Ay B4 O5 λX6=>Ap true S<|Aj (decide (X3>X6)) (λw=>Calls PR 290 #[.p e0,.i 3] w λe w'=>∃X7:BA,∃X8:Int,∃X9:Int,∃X10:Int,e = .returned (.tuple #[.s X7,.agg #[.i X8,.i X9,.i X10]])/\(A1 [.i 0,.i 0,.i 0] 270 λB11=>st B11 0 (.i X8)<|st B11 1 (.i X9)<|st B11 2 (.i X10)<|Ay B11 0 λX12=>Ay B11 1 λX13=>Ay B11 2 λX14=>wz 294 [.p e0,.agg #[.i X12,.i X13,.i X14],.s X7]<|
 PC jn Q m1 e0) w') (Q (.tuple #[]))):=by kernel_rfl
theorem Aqg:Au jn PR Ahr Tryz.f286 [.p e0] Q=(DH λm=>PC jn Q m e0):=by kernel_rfl
theorem Aqh:Au jn PR Wl Tryz.f287 [.p e0,.p n1] Q=(A5 λS=>Ad e0 λB1 O2=>EZ S B1 (O2+3) λX3=>Ad n1 λB4 O5=>Ay B4 (O5+2) λX6=>Ap true S<|Fi 160 [.p X3,.i X6] λX7 X8=>Ad n1 λB9 O10=>st B9 (O10+2) (.i 0)<|Q (.tuple #[])):=by kernel_rfl
theorem Aqi{n2_0 n2_1 n2_2:Int}:Au jn PR Ayc Tryz.f288 [.p e0,.s key1,.agg #[.i n2_0,.i n2_1,.i n2_2]] Q=(A1 [.i n2_0,.i n2_1,.i n2_2] 270 λB1=>Ad e0 λB2 O3=>BZ B2 (O3+4) λX4=>λw=>Calls PR 282 #[.p X4,.s key1] w λe w'=>∃X5:Int,∃X6:Int,∃X7:Int,∃X8:Bool,e = .returned (.tuple #[.agg #[.i X5,.i X6,.i X7],.b X8])/\(A1 [.i 0,.i 0,.i 0] 270 λB9=>st B9 0 (.i X5)<|st B9 1 (.i X6)<|st B9 2 (.i X7)<|Ay B9 0 λX10=>wz 295 [.p e0,.i X10,.i (-1)]<|
 Ay B1 0 λX11=>wz 295 [.p e0,.i X11,.i 1]<|Ay B1 0 λX12=>Aj (X12==0) (Ad e0 λB13 O14=>BZ B13 (O14+4) λX15=>λw=>Calls PR 296 #[.p X15,.s key1] w λe w'=>∃X16:Int,∃X17:Int,∃X18:Int,∃X19:Bool,e = .returned (.tuple #[.agg #[.i X16,.i X17,.i X18],.b X19])/\(Q (.tuple #[])) w') (A5 λS=>Ad e0 λB20 O21=>EZ S B20 (O21+4) λX22=>Ay B1 0 λX23=>Ay B1 1 λX24=>Ay B1 2 λX25=>Ap true S<|DD 297 [.p X22,.s key1,.agg #[.i X23,.i X24,.i X25]] λX26=>
 Q (.tuple #[]))) w'):=by kernel_rfl
theorem Za:Uh jn Q (us 5 ((.l l5.a l5.n l5.c)::us 33 []))=(Q (.l l5.a l5.n l5.c)):=by kernel_rfl
theorem N3{t14:Sl}{t15:Int}:L9 jn Q (m1+1) e0 is1 l5 t14 t15 t16=(Aj (decide (t16<t15)) (CB t14.a t14.n t16 λB5 O6=>Ch B5 (O6+t16.toNat*1) λX7=>Ad e0 λB8 O9=>BZ B8 (O9+4) λX10=>λw=>Calls PR 282 #[.p X10,.s X7] w λe w'=>∃X11:Int,∃X12:Int,∃X13:Int,∃X14:Bool,e = .returned (.tuple #[.agg #[.i X11,.i X12,.i X13],.b X14])/\(A1 [.i 0,.i 0,.i 0] 270 λB15=>st B15 0 (.i X11)<|st B15 1 (.i X12)<|st B15 2 (.i X13)<|Ay B15 0 λX16=>Aj (X16==is1) (A1 [.s X7] 9 λB17=>
 AU 9 1 16 [.s Af] ⟨l5.a,l5.n,l5.c⟩ 1 (λw=>F9 w (some ⟨B17,0,none⟩) (1*1)) λG18=>L9 jn Q m1 e0 is1 G18 t14 t15 (IntKind.wrap .i64 (t16+1))) (L9 jn Q m1 e0 is1 l5 t14 t15 (IntKind.wrap .i64 (t16+1)))) w') (Aye jn Q l5)):=by kernel_rfl
theorem Aqj:Au jn PR PD Tryz.f289 [.p e0,.i is1] Q=(Ad e0 λB1 O2=>BZ B1 (O2+2) λX3=>Gu 244 [.p X3] λX4=>DH λm=>L9 jn Q m e0 is1 ⟨none,0,0⟩ X4 (X4.n:Int) 0):=by kernel_rfl
theorem Zb:Ui jn Q (us 5 ((pq t5b t5o)::us 43 []))=(st t5b t5o (.i 0)<|st t5b (t5o+1) (.i 0)<|st t5b ((t5o+1)+1) (.i 0)<|Ay t5b t5o λX30=>Ay t5b (t5o+1) λX31=>Ay t5b ((t5o+1)+1) λX32=>Q (.tuple #[.s Af,.agg #[.i X30,.i X31,.i X32]])):=by kernel_rfl
theorem N4{h6:Int}:PF jn Q (m1+1) e0 is1 t5b t5o h6=(Aj (h6 != 0) (Ad e0 λB6 O7=>BZ B6 (O7+2) λX8=>Fi 164 [.p X8,.i h6] λX9 X10=>Ad e0 λB11 O12=>BZ B11 (O12+4) λX13=>λw=>Calls PR 282 #[.p X13,.s X9] w λe w'=>∃X14:Int,∃X15:Int,∃X16:Int,∃X17:Bool,e = .returned (.tuple #[.agg #[.i X14,.i X15,.i X16],.b X17])/\(A1 [.i 0,.i 0,.i 0] 270 λB18=>st B18 0 (.i X14)<|st B18 1 (.i X15)<|st B18 2 (.i X16)<|Ay B18 0 λX19=>
 Aj (X19==is1) (A5 λS=>Ay B18 0 λX20=>Ay B18 1 λX21=>Ay B18 2 λX22=>st t5b t5o (.i X20)<|st t5b (t5o+1) (.i X21)<|st t5b ((t5o+1)+1) (.i X22)<|Ay t5b t5o λX23=>Ay t5b (t5o+1) λX24=>Ay t5b ((t5o+1)+1) λX25=>Q (.tuple #[.s X9,.agg #[.i X23,.i X24,.i X25]])) (Ad e0 λB26 O27=>BZ B26 (O27+2) λX28=>Cc 245 [.p X28,.i h6] λX29=>PF jn Q m1 e0 is1 t5b t5o X29)) w') (Ayh jn Q t5b t5o)):=by kernel_rfl
theorem Aqk:Au jn PR PE Tryz.f290 [.p e0,.i is1] Q=(A1 [.i 0,.i 0,.i 0] 270 λB1=>Ad e0 λB2 O3=>BZ B2 (O3+2) λX4=>Cc 165 [.p X4] λX5=>DH λm=>PF jn Q m e0 is1 B1 0 X5):=by kernel_rfl
theorem Aql:Au jn PR Wl Tryz.f291 [.p e0,.p n1,.s key2] Q=(A5 λS=>Ad e0 λB1 O2=>EZ S B1 (O2+3) λX3=>Ad n1 λB4 O5=>Ay B4 (O5+2) λX6=>Ap true S<|Fi 160 [.p X3,.i X6] λX7 X8=>Ad e0 λB9 O10=>BZ B9 (O10+3) λX11=>Cc 162 [.p X11,.s key2] λX12=>Ad n1 λB13 O14=>st B13 (O14+2) (.i X12)<|Q (.tuple #[])):=by kernel_rfl
theorem Ze:Ul jn Q m1 ((.p x0)::(.s key1)::us 4 ((.i free6)::(.i i7)::us 71 []))=(Ad x0 λB23 O24=>Bu B23 (O24+1) λX25=>Bw ((X25.n:Int)≠0)<|PG jn Q m1 x0 key1 free6 (Int.tmod (IntKind.wrap .i64 (i7+1)) (X25.n:Int))):=by kernel_rfl
theorem Zf:Um jn Q m1 ((.p x0)::(.s key1)::us 4 ((.i free6)::(.i i7)::(pq p8b p8o)::us 52 ((.b t61)::us 17 [])))=(Aj t61 (Q (.tuple #[.i i7,.b false])) (Ad (some ⟨p8b,p8o,none⟩) λB29 O30=>Ay B29 O30 λX31=>Aj (X31==0) (Q (.tuple #[.i free6,.b false])) (Wp jn Q m1 x0 key1 free6 i7))):=by kernel_rfl
theorem Zd:Uk jn Q m1 ((.p x0)::(.s key1)::us 4 ((.i free6)::(.i i7)::(pq p8b p8o)::us 41 ((.b t50)::us 28 [])))=(Aj t50 (Wp jn Q m1 x0 key1 i7 i7) (Ad (some ⟨p8b,p8o,none⟩) λB26 O27=>Ay B26 O27 λX28=>Aj (X28==0) (Wq jn Q m1 x0 key1 free6 i7 p8b p8o (decide (free6<0))) (Wq jn Q m1 x0 key1 free6 i7 p8b p8o false))):=by kernel_rfl
theorem Zc:Uj jn Q m1 ((.p x0)::(.s key1)::us 4 ((.i free6)::(.i i7)::(pq p8b p8o)::us 26 ((.b t35)::us 43 [])))=(Aj t35 (Q (.tuple #[.i i7,.b true])) (Ad (some ⟨p8b,p8o,none⟩) λB20 O21=>Ay B20 O21 λX22=>Aj (X22==1) (Wo jn Q m1 x0 key1 free6 i7 p8b p8o (decide (free6<0))) (Wo jn Q m1 x0 key1 free6 i7 p8b p8o false))):=by kernel_rfl
theorem Zg:PG jn Q (m1+1) x0 key1 free6 i7=(Ad x0 λB9 O10=>Bu B9 (O10+1) λX11=>CB X11.a X11.n i7 λB12 O13=>Ad (some ⟨B12,(O13+i7.toNat*5),none⟩) λB14 O15=>Ay B14 O15 λX16=>Aj (X16==2) (Ad (some ⟨B12,(O13+i7.toNat*5),none⟩) λB17 O18=>Ch B17 (O18+1) λX19=>Wn jn Q m1 x0 key1 free6 i7 B12 (O13+i7.toNat*5) (Vr X19 key1)) (Wn jn Q m1 x0 key1 free6 i7 B12 (O13+i7.toNat*5) false)):=by kernel_rfl
theorem Aqm:Au jn PR AI Tryz.f292 [.p x0,.s key1] Q=(A5 λS=>Ad x0 λB1 O2=>wLu S B1 O2 λX3=>Ad x0 λB4 O5=>F5 S B4 (O5+1) λX6=>wcu 117 [.int .u64 X3,.s key1] λX7=>Ap true S<|Cc 116 [.int .u64 X7,.i (X6.n:Int)] λX8=>DH λm=>PG jn Q m x0 key1 (-1) X8):=by kernel_rfl
theorem Aqn:Au jn PR Wl Tryz.f293 [.p e0,.p n1,.s key2] Q=(A5 λS=>Ad e0 λB1 O2=>EZ S B1 (O2+2) λX3=>Ad n1 λB4 O5=>Ay B4 (O5+1) λX6=>Ap true S<|Fi 160 [.p X3,.i X6] λX7 X8=>Ad e0 λB9 O10=>BZ B9 (O10+2) λX11=>Cc 162 [.p X11,.s key2] λX12=>Ad n1 λB13 O14=>st B13 (O14+1) (.i X12)<|Q (.tuple #[])):=by kernel_rfl
theorem Aqo:Au jn PR Aho Tryz.f294 [.p e0,.agg #[.i n1_0,.i n1_1,.i n1_2],.s key2] Q=(A1 [.i n1_0,.i n1_1,.i n1_2] 270 λB1=>A5 λS=>Ad e0 λB2 O3=>EZ S B2 (O3+2) λX4=>Ay B1 1 λX5=>Ap true S<|Fi 160 [.p X4,.i X5] λX6 X7=>st B1 1 (.i 0)<|Ay B1 0 λX8=>Aj (X8==3) (st B1 0 (.i 0)<|Ay B1 0 λX9=>Ay B1 1 λX10=>Ay B1 2 λX11=>wz 288 [.p e0,.s key2,.agg #[.i X9,.i X10,.i X11]]<|
 Q (.tuple #[])) (Ay B1 0 λX12=>Ay B1 1 λX13=>Ay B1 2 λX14=>wz 288 [.p e0,.s key2,.agg #[.i X12,.i X13,.i X14]]<|Q (.tuple #[]))):=by kernel_rfl
theorem Aqp{by2:Int}:Au jn PR Aw Tryz.f295 [.p e0,.i is1,.i by2] Q=(Aj (is1==1) (Ad e0 λB1 O2=>Ay B1 (O2+5) λX3=>Ad e0 λB4 O5=>st B4 (O5+5) (.i (IntKind.wrap .i64 (X3+by2)))<|Q (.tuple #[])) (Aj (is1==3) (Ad e0 λB6 O7=>Ay B6 (O7+6) λX8=>Ad e0 λB9 O10=>st B9 (O10+6) (.i (IntKind.wrap .i64 (X8+by2)))<|Q (.tuple #[])) (Q (.tuple #[])))):=by kernel_rfl
theorem Aqq:Au jn PR Aw Tryz.f296 [.p x0,.s key1] Q=(A1 [.i 0,.i 0,.i 0] 270 λB1=>λw=>Calls PR 282 #[.p x0,.s key1] w λe w'=>∃X2:Int,∃X3:Int,∃X4:Int,∃X5:Bool,e = .returned (.tuple #[.agg #[.i X2,.i X3,.i X4],.b X5])/\(A1 [.i 0,.i 0,.i 0] 270 λB6=>st B6 0 (.i X2)<|st B6 1 (.i X3)<|st B6 2 (.i X4)<|Aj X5 (F0 292 [.p x0,.s key1] λX7 X8=>Ad x0 λB9 O10=>Bu B9 (O10+1) λX11=>CB X11.a X11.n X7 λB12 O13=>st B12 (O13+X7.toNat*5) (.i 1)<|
 st B12 ((O13+X7.toNat*5)+1) (.s Af)<|st B12 (((O13+X7.toNat*5)+1)+1) (.i 0)<|st B12 ((((O13+X7.toNat*5)+1)+1)+1) (.i 0)<|st B12 (((((O13+X7.toNat*5)+1)+1)+1)+1) (.i 0)<|Ad x0 λB14 O15=>Ay B14 (O15+2) λX16=>Ad x0 λB17 O18=>st B17 (O18+2) (.i (IntKind.wrap .i64 (X16-1)))<|Ay B6 0 λX19=>Ay B6 1 λX20=>Ay B6 2 λX21=>st B1 0 (.i X19)<|st B1 1 (.i X20)<|st B1 2 (.i X21)<|Ay B1 0 λX22=>Ay B1 1 λX23=>Ay B1 2 λX24=>Q (.tuple #[.agg #[.i X22,.i X23,.i X24],.b X5])) (
 Ay B6 0 λX25=>Ay B6 1 λX26=>Ay B6 2 λX27=>st B1 0 (.i X25)<|st B1 1 (.i X26)<|st B1 2 (.i X27)<|Ay B1 0 λX28=>Ay B1 1 λX29=>Ay B1 2 λX30=>Q (.tuple #[.agg #[.i X28,.i X29,.i X30],.b X5]))) w'):=by kernel_rfl
theorem Aqr{v2_0 v2_1 v2_2:Int}:Au jn PR JI Tryz.f297 [.p x0,.s key1,.agg #[.i v2_0,.i v2_1,.i v2_2]] Q=(A1 [.i v2_0,.i v2_1,.i v2_2] 270 λB1=>Aj (Option.isNone x0) (Q (.b false)) (F0 292 [.p x0,.s key1] λX2 X3=>Aj X3 (A5 λS=>Ad x0 λB4 O5=>F5 S B4 (O5+1) λX6=>Ay B1 0 λX7=>Ay B1 1 λX8=>Ay B1 2 λX9=>Ap true S<|CB X6.a X6.n X2 λB10 O11=>st B10 ((O11+X2.toNat*5)+2) (.i X7)<|st B10 (((O11+X2.toNat*5)+2)+1) (.i X8)<|
 st B10 ((((O11+X2.toNat*5)+2)+1)+1) (.i X9)<|Q (.b false)) (Ay B1 0 λX12=>Ay B1 1 λX13=>Ay B1 2 λX14=>wz 298 [.p x0,.i X2,.s key1,.agg #[.i X12,.i X13,.i X14]]<|A5 λS=>Ad x0 λB15 O16=>Ez S B15 (O16+3) λX17=>Ad x0 λB18 O19=>Bu B18 (O19+1) λX20=>Ap true S<|Aj (decide ((IntKind.wrap .i64 (2*X17))>(X20.n:Int))) (wz 299 [.p x0]<|Q (.b true)) (Q (.b true))))):=by kernel_rfl
theorem N5{v7b v7o:Nat}:Un jn Q ((.p x0)::(.i i1)::(.s key2)::us 4 ((pq v7b v7o)::us 32 []))=(A5 λS=>Ad x0 λB13 O14=>F5 S B13 (O14+1) λX15=>Ay v7b v7o λX16=>Ay v7b (v7o+1) λX17=>Ay v7b ((v7o+1)+1) λX18=>Ap true S<|CB X15.a X15.n i1 λB19 O20=>st B19 (O20+i1.toNat*5) (.i 2)<|st B19 ((O20+i1.toNat*5)+1) (.s key2)<|st B19 (((O20+i1.toNat*5)+1)+1) (.i X16)<|st B19 ((((O20+i1.toNat*5)+1)+1)+1) (.i X17)<|st B19 (((((O20+i1.toNat*5)+1)+1)+1)+1) (.i X18)<|Ad x0 λB21 O22=>
 Ay B21 (O22+2) λX23=>Ad x0 λB24 O25=>st B24 (O25+2) (.i (IntKind.wrap .i64 (X23+1)))<|Q (.tuple #[])):=by kernel_rfl
theorem Aqs{v3_0 v3_1 v3_2:Int}:Au jn PR EM Tryz.f298 [.p x0,.i i1,.s key2,.agg #[.i v3_0,.i v3_1,.i v3_2]] Q=(A1 [.i v3_0,.i v3_1,.i v3_2] 270 λB1=>Ad x0 λB2 O3=>Bu B2 (O3+1) λX4=>CB X4.a X4.n i1 λB5 O6=>Ay B5 (O6+i1.toNat*5) λX7=>Aj (X7==0) (Ad x0 λB8 O9=>Ay B8 (O9+3) λX10=>Ad x0 λB11 O12=>st B11 (O12+3) (.i (IntKind.wrap .i64 (X10+1)))<|Aht jn Q x0 i1 key2 B1 0) (Aht jn Q x0 i1 key2 B1 0)):=by kernel_rfl
theorem N6:LB jn Q (m1+1) x0 t28 t29 t30=(Aj (decide (t30<t29)) (CB t28.a t28.n t30 λB14 O15=>Ay B14 (O15+t30.toNat*5) λX16=>Ch B14 ((O15+t30.toNat*5)+1) λX17=>Ay B14 (((O15+t30.toNat*5)+1)+1) λX18=>Ay B14 ((((O15+t30.toNat*5)+1)+1)+1) λX19=>Ay B14 (((((O15+t30.toNat*5)+1)+1)+1)+1) λX20=>A1 [.i 0,.s Af,.i 0,.i 0,.i 0] 387 λB21=>st B21 0 (.i X16)<|st B21 1 (.s X17)<|st B21 2 (.i X18)<|st B21 3 (.i X19)<|st B21 4 (.i X20)<|Ay B21 0 λX22=>
 Aj (X22==2) (Ch B21 1 λX23=>F0 292 [.p x0,.s X23] λX24 X25=>Ch B21 1 λX26=>Ay B21 2 λX27=>Ay B21 3 λX28=>Ay B21 4 λX29=>wz 298 [.p x0,.i X24,.s X26,.agg #[.i X27,.i X28,.i X29]]<|LB jn Q m1 x0 t28 t29 (IntKind.wrap .i64 (t30+1))) (LB jn Q m1 x0 t28 t29 (IntKind.wrap .i64 (t30+1)))) (Q (.tuple #[]))):=by kernel_rfl
theorem Aqt:Au jn PR Ec Tryz.f299 [.p x0] Q=(Ad x0 λB1 O2=>Bu B1 (O2+1) λX3=>Ad x0 λB4 O5=>Ay B4 (O5+2) λX6=>Ht 387 48 [.i 0,.s Af,.i 0,.i 0,.i 0] (if (IntKind.wrap .i64 (4*(IntKind.wrap .i64 (X6+1))))>8 then (IntKind.wrap .i64 (4*(IntKind.wrap .i64 (X6+1)))) else 8) (if (IntKind.wrap .i64 (4*(IntKind.wrap .i64 (X6+1))))>8 then (IntKind.wrap .i64 (4*(IntKind.wrap .i64 (X6+1)))) else 8) λG7=>Ad x0 λB8 O9=>st B8 (O9+1) (.l G7.a G7.n G7.c)<|Ad x0 λB10 O11=>st B10 (O11+2) (.i 0)<|Ad x0 λB12 O13=>st B12 (O13+3) (.i 0)<|
 DH λm=>LB jn Q m x0 X3 (X3.n:Int) 0):=by kernel_rfl
theorem Aqu:Au jn PR Aw Tryz.f300 [.p e0,.s key1] Q=(Aj (Option.isNone e0) (Q (.tuple #[.b false,.l none 0 0])) (Ad e0 λB1 O2=>Bu B1 O2 λX3=>BZ B1 (O2+1) λX4=>Cc 310 [.agg #[.l X3.a X3.n X3.c,.p X4],.s key1] λX5=>Aj (X5==2) (Ad e0 λB6 O7=>Bu B6 O7 λX8=>BZ B6 (O7+1) λX9=>wz 311 [.agg #[.l X8.a X8.n X8.c,.p X9],.i 2,.s key1]<|Q (.tuple #[.b true,.l none 0 0])) (Aj (X5==0) (Q (.tuple #[.b true,.l none 0 0])) (Aj (X5==1) (Ad e0 λB10 O11=>Bu B10 O11 λX12=>
 BZ B10 (O11+1) λX13=>wz 312 [.agg #[.l X12.a X12.n X12.c,.p X13],.s key1]<|Gu 313 [.p e0] λX14=>Ad e0 λB15 O16=>Bu B15 O16 λX17=>BZ B15 (O16+1) λX18=>wz 311 [.agg #[.l X17.a X17.n X17.c,.p X18],.i 2,.s key1]<|Q (.tuple #[.b false,.l X14.a X14.n X14.c])) (Gu 313 [.p e0] λX19=>Ad e0 λB20 O21=>Bu B20 O21 λX22=>BZ B20 (O21+1) λX23=>wz 311 [.agg #[.l X22.a X22.n X22.c,.p X23],.i 0,.s key1]<|Q (.tuple #[.b false,.l X19.a X19.n X19.c])))))):=by kernel_rfl
theorem N7:Uq jn Q (us 5 ((.s key5)::us 68 []))=(Q (.tuple #[.s key5,.b true])):=by kernel_rfl
theorem N8{m3:Nat}:PH jn Q (m3+1) e0 key5=(A5 λS=>Ad e0 λB35 O36=>F5 S B35 O36 λX37=>EZ S B35 (O36+1) λX38=>Ad e0 λB39 O40=>Ez S B39 (O40+4) λX41=>A1 [.i 1] 3 λB42=>Ap true S<|Cc 314 [.agg #[.l X37.a X37.n X37.c,.p X38],.l (some ⟨B42,0,none⟩) 1 1] λX43=>Ap true S<|Aj (decide (X43>X41)) (A5 λS=>Ad e0 λB44 O45=>F5 S B44 O45 λX46=>EZ S B44 (O45+1) λX47=>Ad e0 λB48 O49=>Bu B48 O49 λX50=>BZ B48 (O49+1) λX51=>Ap true S<|V1 315 [.agg #[.l X50.a X50.n X50.c,.p X51],.i 1] λX52=>
 Ap true S<|wz 312 [.agg #[.l X46.a X46.n X46.c,.p X47],.s X52]<|PH jn Q m3 e0 key5) (Aym jn Q key5)):=by kernel_rfl
theorem Zi:Up jn Q ((.p e0)::us 73 [])=(Ad e0 λB26 O27=>Bu B26 O27 λX28=>BZ B26 (O27+1) λX29=>V1 315 [.agg #[.l X28.a X28.n X28.c,.p X29],.i 0] λX30=>Ad e0 λB31 O32=>Bu B31 O32 λX33=>BZ B31 (O32+1) λX34=>wz 311 [.agg #[.l X33.a X33.n X33.c,.p X34],.i 1,.s X30]<|DH λm=>PH jn Q m e0 X30):=by kernel_rfl
theorem Zh{t28:Bool}:Uo jn Q ((.p e0)::us 27 ((.b t28)::us 45 []))=(Aj t28 (Ad e0 λB17 O18=>Bu B17 O18 λX19=>BZ B17 (O18+1) λX20=>V1 315 [.agg #[.l X19.a X19.n X19.c,.p X20],.i 2] λX21=>Ad e0 λB22 O23=>Bu B22 O23 λX24=>BZ B22 (O23+1) λX25=>wz 312 [.agg #[.l X24.a X24.n X24.c,.p X25],.s X21]<|Q (.tuple #[.s X21,.b true])) (Ayl jn Q e0)):=by kernel_rfl
theorem Aqw:Au jn PR I3 Tryz.f301 [.p e0] Q=(Cc 305 [.p e0] λX1=>Aj (X1==0) (Q (.tuple #[.s Af,.b false])) (A5 λS=>Ad e0 λB2 O3=>F5 S B2 O3 λX4=>EZ S B2 (O3+1) λX5=>Ad e0 λB6 O7=>Ez S B6 (O7+3) λX8=>A1 [.i 0] 3 λB9=>Ap true S<|Cc 314 [.agg #[.l X4.a X4.n X4.c,.p X5],.l (some ⟨B9,0,none⟩) 1 1] λX10=>Ap true S<|Aj (decide (X10<=X8)) (Ad e0 λB11 O12=>F5 S B11 O12 λX13=>EZ S B11 (O12+1) λX14=>A1 [.i 2] 3 λB15=>
 Ap true S<|Cc 314 [.agg #[.l X13.a X13.n X13.c,.p X14],.l (some ⟨B15,0,none⟩) 1 1] λX16=>Wr jn Q e0 (decide (X16>0))) (Ap true S<|Wr jn Q e0 false))):=by kernel_rfl
theorem Aqx:Au jn PR Aw Tryz.f303 [.p e0,.s key1] Q=(Aj (Option.isNone e0) (Q (.b false)) (Ad e0 λB1 O2=>Bu B1 O2 λX3=>BZ B1 (O2+1) λX4=>Cc 310 [.agg #[.l X3.a X3.n X3.c,.p X4],.s key1] λX5=>Aj (X5==0) (Q (.b true)) (Q (.b (X5==2))))):=by kernel_rfl
theorem Aqy:Au jn PR Aw Tryz.f304 [.p e0] Q=(Aj (Option.isNone e0) (Q (.l none 0 0)) (Ad e0 λB1 O2=>Bu B1 O2 λX3=>BZ B1 (O2+1) λX4=>A1 [.i 0,.i 2] 3 λB5=>Gu 316 [.agg #[.l X3.a X3.n X3.c,.p X4],.l (some ⟨B5,0,none⟩) 2 2] λX6=>Q (.l X6.a X6.n X6.c))):=by kernel_rfl
theorem Aqz:Au jn PR Aw Tryz.f305 [.p e0] Q=(Aj (Option.isNone e0) (Q (.i 0)) (Ad e0 λB1 O2=>Bu B1 O2 λX3=>BZ B1 (O2+1) λX4=>A1 [.i 0,.i 2] 3 λB5=>Cc 314 [.agg #[.l X3.a X3.n X3.c,.p X4],.l (some ⟨B5,0,none⟩) 2 2] λX6=>Q (.i X6))):=by kernel_rfl
theorem Zj:Ur jn Q ((.p e0)::(.s key1)::us 25 [])=(Ad e0 λB6 O7=>Bu B6 O7 λX8=>BZ B6 (O7+1) λX9=>wz 311 [.agg #[.l X8.a X8.n X8.c,.p X9],.i 2,.s key1]<|Q (.b true)):=by kernel_rfl
theorem Aq0:Au jn PR Ahu Tryz.f306 [.p e0,.s key1] Q=(A5 λS=>Aj (Option.isNone e0) (Ap true S<|Ap true S<|Q (.b false)) (DD 303 [.p e0,.s key1] λX1=>Ap true S<|Aj X1 (Ap true S<|Q (.b false)) (Ad e0 λB2 O3=>Ez S B2 (O3+2) λX4=>Cc 305 [.p e0] λX5=>Ap true S<|Aj (X5==X4) (Q (.b false)) (Ayn jn Q e0 key1)))):=by kernel_rfl
theorem Aq1:Au jn PR Aw Tryz.f307 [.p e0,.s key1] Q=(DD 303 [.p e0,.s key1] λX1=>Aj (!X1) (Q (.b false)) (Ad e0 λB2 O3=>Bu B2 O3 λX4=>BZ B2 (O3+1) λX5=>wz 312 [.agg #[.l X4.a X4.n X4.c,.p X5],.s key1]<|Q (.b true))):=by kernel_rfl
theorem Aq2:Au jn PR Aw Tryz.f308 [.p e0] Q=(Aj (Option.isNone e0) (Q (.i 0)) (Ad e0 λB1 O2=>Ay B1 (O2+2) λX3=>Q (.i X3))):=by kernel_rfl
theorem Aq3:Au jn PR Ayp Tryz.f313 [.p e0] Q=(A5 λS=>Ad e0 λB1 O2=>Ez S B1 (O2+2) λX3=>Cc 305 [.p e0] λX4=>Ap true S<|Aj (decide (X4<X3)) (Q (.l none 0 0)) (Fi 301 [.p e0] λX5 X6=>A1 [.s X5] 9 λB7=>Q (.l (some ⟨B7,0,none⟩) 1 1))):=by kernel_rfl
theorem NA:Ut jn Q (us 80 [])=(Q (.tuple #[.b true,.l none 0 0])):=by kernel_rfl
theorem NB:PJ jn Q (m2+1) e0=(A5 λS=>Ad e0 λB14 O15=>F5 S B14 O15 λX16=>EZ S B14 (O15+1) λX17=>Ad e0 λB18 O19=>Ez S B18 (O19+5) λX20=>A1 [.i 2] 3 λB21=>Ap true S<|Cc 336 [.agg #[.l X16.a X16.n X16.c,.p X17],.l (some ⟨B21,0,none⟩) 1 1] λX22=>Ap true S<|Aj (decide (X22>X20)) (A5 λS=>Ad e0 λB23 O24=>F5 S B23 O24 λX25=>EZ S B23 (O24+1) λX26=>Ad e0 λB27 O28=>Bu B27 O28 λX29=>BZ B27 (O28+1) λX30=>Ap true S<|V1 337 [.agg #[.l X29.a X29.n X29.c,.p X30],.i 2] λX31=>
 Ap true S<|wz 335 [.agg #[.l X25.a X25.n X25.c,.p X26],.i 1,.s X31]<|PJ jn Q m2 e0) (Ayy jn Q)):=by kernel_rfl
theorem Zo:Uv jn Q (us 7 ((.l gone7.a gone7.n gone7.c)::us 72 []))=(Q (.tuple #[.b false,.l gone7.a gone7.n gone7.c])):=by kernel_rfl
theorem NC{m5:Nat}:PK jn Q (m5+1) e0 gone7=(A5 λS=>Ad e0 λB36 O37=>F5 S B36 O37 λX38=>EZ S B36 (O37+1) λX39=>Ad e0 λB40 O41=>Ez S B40 (O41+3) λX42=>A1 [.i 0] 3 λB43=>Ap true S<|Cc 336 [.agg #[.l X38.a X38.n X38.c,.p X39],.l (some ⟨B43,0,none⟩) 1 1] λX44=>Ap true S<|Aj (decide (X44>X42)) (Gu 338 [.p e0] λX45=>AU 9 1 16 [.s Af] ⟨gone7.a,gone7.n,gone7.c⟩ X45.n (λw=>F9 w X45.a (X45.n*1)) λG46=>PK jn Q m5 e0 G46) (Ay0 jn Q gone7)):=by kernel_rfl
theorem Zn:Uu jn Q ((.p e0)::(.s key1)::us 78 [])=(Ad e0 λB32 O33=>Bu B32 O33 λX34=>BZ B32 (O33+1) λX35=>wz 335 [.agg #[.l X34.a X34.n X34.c,.p X35],.i 0,.s key1]<|DH λm=>PK jn Q m e0 ⟨none,0,0⟩):=by kernel_rfl
theorem N9{t28:Bool}:Us jn Q ((.p e0)::(.s key1)::us 26 ((.b t28)::us 51 []))=(Aj t28 (Ad e0 λB10 O11=>Bu B10 O11 λX12=>BZ B10 (O11+1) λX13=>wz 335 [.agg #[.l X12.a X12.n X12.c,.p X13],.i 2,.s key1]<|DH λm=>PJ jn Q m e0) (Ayz jn Q e0 key1)):=by kernel_rfl
theorem Aq7:Au jn PR FV Tryz.f323 [.p e0,.s key1] Q=(Aj (Option.isNone e0) (Q (.tuple #[.b false,.l none 0 0])) (wz 333 [.p e0,.s key1]<|Ad e0 λB1 O2=>Bu B1 O2 λX3=>BZ B1 (O2+1) λX4=>Cc 334 [.agg #[.l X3.a X3.n X3.c,.p X4],.s key1] λX5=>Aj (X5==0) (Ad e0 λB6 O7=>Bu B6 O7 λX8=>BZ B6 (O7+1) λX9=>wz 335 [.agg #[.l X8.a X8.n X8.c,.p X9],.i 0,.s key1]<|Q (.tuple #[.b true,.l none 0 0])) (Aj (X5==1) (Wu jn Q e0 key1 (X5==1)) (Wu jn Q e0 key1 (X5==2))))):=by kernel_rfl
theorem Aq8:Au jn PR Aw Tryz.f324 [.p e0] Q=(Cc 328 [.p e0] λX1=>Aj (X1==0) (Q (.tuple #[.s Af,.b false])) (F0 339 [.p e0] λX2 X3=>Ad e0 λB4 O5=>Bu B4 O5 λX6=>BZ B4 (O5+1) λX7=>V1 337 [.agg #[.l X6.a X6.n X6.c,.p X7],.i X2] λX8=>Ad e0 λB9 O10=>Bu B9 O10 λX11=>BZ B9 (O10+1) λX12=>wz 340 [.agg #[.l X11.a X11.n X11.c,.p X12],.s X8]<|Q (.tuple #[.s X8,.b true]))):=by kernel_rfl
theorem Aq9:Au jn PR Aw Tryz.f326 [.p e0,.s key1] Q=(Aj (Option.isNone e0) (Q (.b false)) (Ad e0 λB1 O2=>Bu B1 O2 λX3=>BZ B1 (O2+1) λX4=>Cc 334 [.agg #[.l X3.a X3.n X3.c,.p X4],.s key1] λX5=>Aj (X5==0) (Q (.b true)) (Aj (X5==1) (Q (.b true)) (Q (.b (X5==2)))))):=by kernel_rfl
theorem Ara:Au jn PR Aw Tryz.f327 [.p e0] Q=(Aj (Option.isNone e0) (Q (.l none 0 0)) (Ad e0 λB1 O2=>Bu B1 O2 λX3=>BZ B1 (O2+1) λX4=>A1 [.i 0,.i 1,.i 2] 3 λB5=>Gu 341 [.agg #[.l X3.a X3.n X3.c,.p X4],.l (some ⟨B5,0,none⟩) 3 3] λX6=>Q (.l X6.a X6.n X6.c))):=by kernel_rfl
theorem Arb:Au jn PR Aw Tryz.f328 [.p e0] Q=(Aj (Option.isNone e0) (Q (.i 0)) (Ad e0 λB1 O2=>Bu B1 O2 λX3=>BZ B1 (O2+1) λX4=>A1 [.i 0,.i 1,.i 2] 3 λB5=>Cc 336 [.agg #[.l X3.a X3.n X3.c,.p X4],.l (some ⟨B5,0,none⟩) 3 3] λX6=>Q (.i X6))):=by kernel_rfl
theorem Zp:Uw jn Q ((.p e0)::(.s key1)::us 42 [])=(A5 λS=>Ad e0 λB6 O7=>F5 S B6 O7 λX8=>EZ S B6 (O7+1) λX9=>Ad e0 λB10 O11=>Ez S B10 (O11+4) λX12=>A1 [.i 1,.i 2] 3 λB13=>Ap true S<|Cc 336 [.agg #[.l X8.a X8.n X8.c,.p X9],.l (some ⟨B13,0,none⟩) 2 2] λX14=>Ap true S<|Aj (decide (X14<X12)) (Ad e0 λB15 O16=>Bu B15 O16 λX17=>BZ B15 (O16+1) λX18=>wz 335 [.agg #[.l X17.a X17.n X17.c,.p X18],.i 1,.s key1]<|Q (.b true)) (Ad e0 λB19 O20=>
 Bu B19 O20 λX21=>BZ B19 (O20+1) λX22=>wz 335 [.agg #[.l X21.a X21.n X21.c,.p X22],.i 0,.s key1]<|Q (.b true))):=by kernel_rfl
theorem Arc:Au jn PR Ahw Tryz.f329 [.p e0,.s key1] Q=(A5 λS=>Aj (Option.isNone e0) (Ap true S<|Ap true S<|Q (.b false)) (DD 326 [.p e0,.s key1] λX1=>Ap true S<|Aj X1 (Ap true S<|Q (.b false)) (Ad e0 λB2 O3=>Ez S B2 (O3+2) λX4=>Cc 328 [.p e0] λX5=>Ap true S<|Aj (X5==X4) (Q (.b false)) (Ay1 jn Q e0 key1)))):=by kernel_rfl
theorem Ard:Au jn PR Aw Tryz.f330 [.p e0,.s key1] Q=(DD 326 [.p e0,.s key1] λX1=>Aj (!X1) (Q (.b false)) (Ad e0 λB2 O3=>Bu B2 O3 λX4=>BZ B2 (O3+1) λX5=>wz 340 [.agg #[.l X4.a X4.n X4.c,.p X5],.s key1]<|Q (.b true))):=by kernel_rfl
theorem Are:Au jn PR Aw Tryz.f331 [.p e0] Q=(Aj (Option.isNone e0) (Q (.i 0)) (Ad e0 λB1 O2=>Ay B1 (O2+2) λX3=>Q (.i X3))):=by kernel_rfl
theorem Arf:Au jn PR Aw Tryz.f333 [.p e0,.s key1] Q=(Ad e0 λB1 O2=>BZ B1 (O2+7) λX3=>DD 342 [.p X3,.s key1] λX4=>Aj (!X4) (Q (.tuple #[])) (Ad e0 λB5 O6=>BZ B5 (O6+6) λX7=>Cc 343 [.p X7] λX8=>Ad e0 λB9 O10=>BZ B9 (O10+6) λX11=>wz 344 [.p X11,.s key1]<|Ad e0 λB12 O13=>BZ B12 (O13+6) λX14=>Cc 343 [.p X14] λX15=>Aj (decide (X15<X8)) (Ad e0 λB16 O17=>BZ B16 (O17+7) λX18=>wz 345 [.p X18]<|
 Q (.tuple #[])) (Q (.tuple #[])))):=by kernel_rfl
theorem Zq:Uy jn Q ((.p e0)::us 2 ((.s key3)::(.i row4)::us 75 []))=(Ad e0 λB26 O27=>Bu B26 O27 λX28=>BZ B26 (O27+1) λX29=>V1 337 [.agg #[.l X28.a X28.n X28.c,.p X29],.i row4] λX30=>Ad e0 λB31 O32=>Bu B31 O32 λX33=>BZ B31 (O32+1) λX34=>wz 340 [.agg #[.l X33.a X33.n X33.c,.p X34],.s X30]<|Ad e0 λB35 O36=>Bu B35 O36 λX37=>BZ B35 (O36+1) λX38=>wz 335 [.agg #[.l X37.a X37.n X37.c,.p X38],.i 1,.s key3]<|A1 [.s X30] 9 λB39=>
 Q (.l (some ⟨B39,0,none⟩) 1 1)):=by kernel_rfl
theorem ND:Ux jn Q ((.p e0)::us 2 ((.s key3)::(.i row4)::us 30 ((.b t35)::us 44 [])))=(Aj t35 (Ad e0 λB21 O22=>Bu B21 O22 λX23=>BZ B21 (O22+1) λX24=>wz 340 [.agg #[.l X23.a X23.n X23.c,.p X24],.s key3]<|A1 [.s key3] 9 λB25=>Q (.l (some ⟨B25,0,none⟩) 1 1)) (Ay5 jn Q e0 key3 row4)):=by kernel_rfl
theorem Arh:Au jn PR PM Tryz.f338 [.p e0] Q=(Ad e0 λB1 O2=>Bu B1 O2 λX3=>BZ B1 (O2+1) λX4=>V1 337 [.agg #[.l X3.a X3.n X3.c,.p X4],.i 0] λX5=>F0 339 [.p e0] λX6 X7=>A5 λS=>Ad e0 λB8 O9=>F5 S B8 O9 λX10=>EZ S B8 (O9+1) λX11=>Ad e0 λB12 O13=>Ez S B12 (O13+4) λX14=>A1 [.i 1,.i 2] 3 λB15=>Ap true S<|Cc 336 [.agg #[.l X10.a X10.n X10.c,.p X11],.l (some ⟨B15,0,none⟩) 2 2] λX16=>Ap true S<|
 Aj (decide (X16<X14)) (Ad e0 λB17 O18=>Bu B17 O18 λX19=>BZ B17 (O18+1) λX20=>wz 335 [.agg #[.l X19.a X19.n X19.c,.p X20],.i 1,.s X5]<|Q (.l none 0 0)) (A5 λS=>Aj (!X7) (Ap true S<|PL jn Q e0 X5 X6 true) (Ad e0 λB40 O41=>F5 S B40 O41 λX42=>EZ S B40 (O41+1) λX43=>Cc 348 [.p e0,.s X5] λX44=>Ap true S<|V1 337 [.agg #[.l X42.a X42.n X42.c,.p X43],.i X6] λX45=>Cc 348 [.p e0,.s X45] λX46=>PL jn Q e0 X5 X6 (decide (X44<=X46))))):=by kernel_rfl
theorem Zr:Uz jn Q (us 22 [])=(Q (.tuple #[.i 0,.b false])):=by kernel_rfl
theorem Jl{t6:Sl}{t7 t8:Int}:Wv jn Q (m1+1) e0 t6 t7 t8=(Aj (decide (t8<t7)) (CB t6.a t6.n t8 λB2 O3=>Ay B2 (O3+t8.toNat*1) λX4=>Ad e0 λB5 O6=>Bu B5 O6 λX7=>BZ B5 (O6+1) λX8=>A1 [.i X4] 3 λB9=>Cc 336 [.agg #[.l X7.a X7.n X7.c,.p X8],.l (some ⟨B9,0,none⟩) 1 1] λX10=>Aj (decide (X10>0)) (Q (.tuple #[.i X4,.b true])) (Wv jn Q m1 e0 t6 t7 (IntKind.wrap .i64 (t8+1)))) (Ay7 jn Q)):=by kernel_rfl
theorem Ari:Au jn PR PN Tryz.f339 [.p e0] Q=(A1 [.i 1,.i 2] 3 λB1=>DH λm=>Wv jn Q m e0 ⟨(some ⟨B1,0,none⟩),2,2⟩ 2 0):=by kernel_rfl
theorem Zs:U0 jn Q (us 5 ((.b was5)::us 30 []))=(Q (.b was5)):=by kernel_rfl
theorem NF{t14:Int}:PP jn Q (m1+1) d0 key1 was5 t14=(Aj (decide (t14<3)) (Hd (.int .i64) (.int .u64) PR 351 [.p d0,.i t14,.s key1] λ(X2:Int)(X3:Int)=>Ad d0 λB4 O5=>Bu B4 O5 λX6=>CB X6.a X6.n X2 λB7 O8=>Ef B7 (O8+X2.toNat*1) λX9=>CB X6.a X6.n X2 λB10 O11=>st B10 (O11+X2.toNat*1) (.int .u64 (bits .or .u64 X9 X3))<|PP jn Q m1 d0 key1 was5 (IntKind.wrap .i64 (t14+1))) (Azc jn Q was5)):=by kernel_rfl
theorem Arj:Au jn PR PO Tryz.f342 [.p d0,.s key1] Q=(Aj (Option.isNone d0) (Q (.b false)) (DD 350 [.p d0,.s key1] λX1=>DH λm=>PP jn Q m d0 key1 X1 0)):=by kernel_rfl
theorem Ark:Au jn PR Aw Tryz.f343 [.p s0] Q=(Aj (Option.isNone s0) (Q (.i 0)) (Ad s0 λB1 O2=>Ay B1 (O2+2) λX3=>Q (.i X3))):=by kernel_rfl
theorem Zt:U1 jn Q ((.p s0)::us 51 [])=(Ad s0 λB9 O10=>Ay B9 (O10+2) λX11=>Ad s0 λB12 O13=>st B12 (O13+2) (.i (IntKind.wrap .i64 (X11+1)))<|A5 λS=>Ad s0 λB14 O15=>Ez S B14 (O15+2) λX16=>Ad s0 λB17 O18=>Ay B17 O18 λX19=>Ap true S<|Aj (X16==(IntKind.wrap .i64 (10*X19))) (wz 356 [.p s0]<|Q (.tuple #[])) (Q (.tuple #[]))):=by kernel_rfl
theorem NG{low4 t17_0 t17_1 t17_2 t17_3 t18:Int}:LD jn Q (m1+1) s0 low4 t17_0 t17_1 t17_2 t17_3 t18=(Aj (decide (t18<4)) (Bw ((0:Int)<=t18/\t18<((4:Nat):Int))<|λw=>∃X6:Int,([.i t17_0,.i t17_1,.i t17_2,.i t17_3]:List Value)[t18.toNat]? = some (.i X6)/\CV (.i X6)=false/\(Cc 354 [.p s0,.i X6] λX7=>Aj (decide (X7<=low4)) (Cc 119 [.i X7,.i 15] λX8=>wz 355 [.p s0,.i X6,.i X8]<|LD jn Q m1 s0 low4 t17_0 t17_1 t17_2 t17_3 (IntKind.wrap .i64 (t18+1))) (
 LD jn Q m1 s0 low4 t17_0 t17_1 t17_2 t17_3 (IntKind.wrap .i64 (t18+1)))) w) (Aze jn Q s0)):=by kernel_rfl
theorem Arl:Au jn PR PQ Tryz.f344 [.p s0,.s key1] Q=(Aj (Option.isNone s0) (Q (.tuple #[])) (Cc 352 [.p s0,.s key1] λX1=>Aj (X1==15) (Q (.tuple #[])) (λw=>Calls PR 353 #[.p s0,.s key1] w λe w'=>∃X2:Int,∃X3:Int,∃X4:Int,∃X5:Int,e = .returned (.agg #[.i X2,.i X3,.i X4,.i X5])/\(DH λm=>LD jn Q m s0 X1 X2 X3 X4 X5 0) w'))):=by kernel_rfl
theorem Arm:Au jn PR Aw Tryz.f345 [.p d0] Q=(Aj (!Option.isNone d0) (Ad d0 λB1 O2=>Bu B1 O2 λX3=>Avs [.int .u64 0] X3.a X3.n<|Q (.tuple #[])) (Q (.tuple #[]))):=by kernel_rfl
end Go.Proofs.YtjipofkjmmpjdaaGreat
namespace Go.Proofs.YtjipofkjmmpjdaaGreat
open Go.Hb
section
variable(jn:Jn)(Q:VW)
def PS:KP:=⟨[(11,[0,1,10]),(22,[])],[]⟩
def Azg:EW:=sE Tryz.f350 PS jn Q [1,1,1] (rE Tryz.f350 Q) A6
def U2:EW:=cE Tryz.f350 PS jn Q [1,1,1] (rE Tryz.f350 Q) A6
def Azh:WP:=jn 22 (U2 jn Q) (us 31 [])
def PT(m1:Nat)(d0:OA)(key1:BA)(t10:Int):WP:=Dp PR PS jn (bE Tryz.f350 [1,1,0,1,0,0]) (A8 0 (Azg jn Q) A6) (rE Tryz.f350 Q) m1 ((.p d0)::(.s key1)::us 8 ((.i t10)::us 20 []))
def Azi:KP:=⟨[],[(1,[0,1,2,3,5,6,7,8,9,10,12]),(2,[0,1,2,3,4,5,6])]⟩
def PU:KP:=⟨[(13,[0,5,12,13]),(20,[5])],[]⟩
def Azj:EW:=sE Tryz.f352 PU jn Q [1,1,1,1] (rE Tryz.f352 Q) A6
def U3:EW:=cE Tryz.f352 PU jn Q [1,1,1,1] (rE Tryz.f352 Q) A6
def Azk(low5:Int):WP:=jn 20 (U3 jn Q) (us 5 ((.i low5)::us 17 []))
def PV(m1:Nat)(s0:OA)(low5 t12_0 t12_1 t12_2 t12_3 t13:Int):WP:=Dp PR PU jn (bE Tryz.f352 [1,1,1,0,1,0,0]) (A8 0 (Azj jn Q) A6) (rE Tryz.f352 Q) m1 ((.p s0)::us 4 ((.i low5)::us 6 ((.agg #[.i t12_0,.i t12_1,.i t12_2,.i t12_3])::(.i t13)::us 9 [])))
def PW:KP:=⟨[(9,[0,1,4,5,7]),(16,[4,5])],[(5,[0,1,2,3,4,5,6,7,8,9,10,12,13,14,15,17,18])]⟩
def Azl:EW:=sE Tryz.f353 PW jn Q [1,1,1] (rE Tryz.f353 Q) A6
def U4:EW:=cE Tryz.f353 PW jn Q [1,1,1] (rE Tryz.f353 Q) A6
def Azm(t4b t4o l5b l5o:Nat):WP:=jn 16 (U4 jn Q) (us 4 ((pq t4b t4o)::(pq l5b l5o)::us 25 []))
def PX(m1:Nat)(s0:OA)(key1:BA)(t4b t4o l5b l5o:Nat)(t7:Int):WP:=Dp PR PW jn (bE Tryz.f353 [1,1,0,1,0,0]) (A8 0 (Azl jn Q) A6) (rE Tryz.f353 Q) m1 ((.p s0)::(.s key1)::us 2 ((pq t4b t4o)::(pq l5b l5o)::us 1 ((.i t7)::us 23 [])))
def Azn:KP:=⟨[],[(1,[0,1,2,3,4,5,6,7,8,10,11,12,14,15,16,17,18,19,20,21,22])]⟩
def PY:KP:=⟨[(7,[0,9,10]),(14,[0])],[]⟩
def Azo:EW:=sE Tryz.f356 PY jn Q [1,1] (rE Tryz.f356 Q) A6
def U6:EW:=cE Tryz.f356 PY jn Q [1,1] (rE Tryz.f356 Q) A6
def Azp(s0:OA):WP:=jn 14 (U6 jn Q) ((.p s0)::us 27 [])
def PZ(m1:Nat)(s0:OA)(t9 t10:Int):WP:=Dp PR PY jn (bE Tryz.f356 [1,0,1,0,0]) (A8 0 (Azo jn Q) A6) (rE Tryz.f356 Q) m1 ((.p s0)::us 8 ((.i t9)::(.i t10)::us 17 []))
def Ahy(m1:Nat):EW:=HZ PR AI jn (bE Tryz.f357 [1,1,1,0,0]) (A8 0 (rE Tryz.f357 Q) A6) (rE Tryz.f357 Q) m1
def LF(m1:Nat):EW:=sE Tryz.f357 AI jn Q [1,1,1,0,0,1] (Ahy jn Q m1) (A8 0 (rE Tryz.f357 Q) A6)
def Azq(m1:Nat):Nat->EW:=A8 1 (LF jn Q m1) (A8 0 (rE Tryz.f357 Q) A6)
def Ww(m1:Nat):Nat->EW:=A8 2 (LF jn Q m1) (Azq jn Q m1)
def Aj9(m1:Nat):EW:=cE Tryz.f357 AI jn Q [1,1,1,0,0,1] (Ahy jn Q m1) (A8 0 (rE Tryz.f357 Q) A6)
def Aka(m1:Nat):EW:=cE Tryz.f357 AI jn Q [1,1,1,0,0,0,0,1,0,1,1,1,1,1] (LF jn Q m1) (Ww jn Q m1)
def Aj8(m1:Nat):EW:=cE Tryz.f357 AI jn Q [1,1,1,0,0,0,0,1,0,1,1,1] (LF jn Q m1) (Ww jn Q m1)
def Aj7(m1:Nat):EW:=cE Tryz.f357 AI jn Q [1,1,1,0,0,0,0,1,0,1] (LF jn Q m1) (Ww jn Q m1)
def Azr(m1:Nat)(x0:OA)(key1:BA)(free6 i7:Int):WP:=Dp PR AI jn (bE Tryz.f357 [1,1,1,0,0]) (A8 0 (rE Tryz.f357 Q) A6) (rE Tryz.f357 Q) m1 ((.p x0)::(.s key1)::us 4 ((.i free6)::(.i i7)::us 71 []))
def Akb:EW:=cE Tryz.f358 EM jn Q [1,1] (rE Tryz.f358 Q) A6
def Azs(m1:Nat)(x0:OA)(t28:Sl)(t29 t30:Int):WP:=Dp PR Ec jn (bE Tryz.f359 [1,1,1,0,0]) (A8 0 (rE Tryz.f359 Q) A6) (rE Tryz.f359 Q) m1 ((.p x0)::us 27 ((.l t28.a t28.n t28.c)::(.i t29)::(.i t30)::us 21 []))
def Qa:KP:=⟨[(19,[0,1,8]),(24,[0,1,8])],[(5,[0,1,2,3,4,5]),(8,[0,2,3,4,5,6])]⟩
def Arw:EW:=sE Tryz.f360 Qa jn Q [1,1,1,1,1] (rE Tryz.f360 Q) A6
def U7:EW:=cE Tryz.f360 Qa jn Q [1,1,1,1,1] (rE Tryz.f360 Q) A6
def Ahz(e0:OA)(key1:BA)(gone8:Sl):WP:=jn 24 (U7 jn Q) ((.p e0)::(.s key1)::us 6 ((.l gone8.a gone8.n gone8.c)::us 53 []))
def Qb(m1:Nat)(e0:OA)(key1:BA)(gone8:Sl):WP:=Dp PR Qa jn (bE Tryz.f360 [1,1,1,1,0,0,0]) (A8 0 (Arw jn Q) A6) (rE Tryz.f360 Q) m1 ((.p e0)::(.s key1)::us 6 ((.l gone8.a gone8.n gone8.c)::us 53 []))
def Wy:KP:=⟨[(10,[0,28])],[(3,[0,1,2,3,6,7,8,9,10,11,12,13,14,15,18,19])]⟩
def Azu:EW:=sE Tryz.f361 Wy jn Q [1,1,1] (rE Tryz.f361 Q) A6
def U8:EW:=cE Tryz.f361 Wy jn Q [1,1,0,1] (Azu jn Q) A6
def Wx(e0:OA)(t28:Bool):WP:=jn 10 (U8 jn Q) ((.p e0)::us 27 ((.b t28)::us 9 []))
def Azv:KP:=⟨[],[(1,[0,1,2,3,4,6,7,8,10,11,12,13,14,15])]⟩
def Azx:EW:=sE Tryz.f372 BP jn Q [1,1,1] (rE Tryz.f372 Q) A6
def Akc:EW:=cE Tryz.f372 BP jn Q [1,1,1] (rE Tryz.f372 Q) A6
def Azy(m1:Nat)(r2b r2o:Nat)(n5:Int)(t8:Sl)(t9 t10:Int):WP:=Dp PR BP jn (bE Tryz.f372 [1,1,0,1,0,0]) (A8 0 (Azx jn Q) A6) (rE Tryz.f372 Q) m1 (us 2 ((pq r2b r2o)::us 2 ((.i n5)::us 2 ((.l t8.a t8.n t8.c)::(.i t9)::(.i t10)::us 13 []))))
def Hj:KP:=⟨[(5,[0]),(19,[0,4]),(22,[4]),(24,[])],[(8,[0,1,2,3,6,7,8,9,10]),(9,[0,1,2,3,4,5,6])]⟩
def W1:EW:=sE Tryz.f373 Hj jn Q [1,1] (rE Tryz.f373 Q) A6
def W2(m1:Nat):EW:=HZ PR Hj jn (bE Tryz.f373 [1,0,0,0]) (A8 0 (W1 jn Q) A6) (rE Tryz.f373 Q) m1
def W3(m1:Nat):Nat->EW:=A8 1 (W2 jn Q m1) (A8 0 (W1 jn Q) A6)
def Ar6(m1:Nat):EW:=sE Tryz.f373 Hj jn Q [1,0,0,0,1,0,1,1,1,1,1] (W2 jn Q m1) (W3 jn Q m1)
def Ar7(m1:Nat):Nat->EW:=A8 2 (Ar6 jn Q m1) (W3 jn Q m1)
def U9(m1:Nat):EW:=cE Tryz.f373 Hj jn Q [1,0,0,0,1,0,1,1,1,1,1] (W2 jn Q m1) (W3 jn Q m1)
def Azz(m1:Nat)(key4:BA):WP:=jn 22 (U9 jn Q m1) (us 4 ((.s key4)::us 59 []))
def Qd(m1 m2:Nat)(e0:OA)(key4:BA):WP:=Dp PR Hj jn (bE Tryz.f373 [1,0,0,0,1,0,1,1,1,1,0,0,0]) (Ar7 jn Q m1) (rE Tryz.f373 Q) m2 ((.p e0)::us 3 ((.s key4)::us 59 []))
def UA:EW:=cE Tryz.f373 Hj jn Q [1,1] (rE Tryz.f373 Q) A6
def Az0:WP:=jn 24 (UA jn Q) (us 64 [])
def Qc(m1:Nat)(e0:OA):WP:=Dp PR Hj jn (bE Tryz.f373 [1,0,0,0]) (A8 0 (W1 jn Q) A6) (rE Tryz.f373 Q) m1 ((.p e0)::us 63 [])
def Ah0:KP:=⟨[(5,[0])],[]⟩
def Qe(m1:Nat)(e0:OA):WP:=Dp PR Ah0 jn (bE Tryz.f374 [1,0,0]) (A8 0 (rE Tryz.f374 Q) A6) (rE Tryz.f374 Q) m1 ((.p e0)::us 30 [])
def Az1:EW:=sE Tryz.f375 BP jn Q [1,1,1] (rE Tryz.f375 Q) A6
def Akd:EW:=cE Tryz.f375 BP jn Q [1,1,1] (rE Tryz.f375 Q) A6
def Az2(m1:Nat)(r2b r2o:Nat)(l5 t8:Sl)(t9 t10:Int):WP:=Dp PR BP jn (bE Tryz.f375 [1,1,0,1,0,0]) (A8 0 (Az1 jn Q) A6) (rE Tryz.f375 Q) m1 (us 2 ((pq r2b r2o)::us 2 ((.l l5.a l5.n l5.c)::us 2 ((.l t8.a t8.n t8.c)::(.i t9)::(.i t10)::us 13 []))))
def Ake:EW:=cE Tryz.f377 EL jn Q [1,1] (rE Tryz.f377 Q) A6
def Ah2(m1:Nat):EW:=HZ PR AI jn (bE Tryz.f381 [1,1,1,0,0]) (A8 0 (rE Tryz.f381 Q) A6) (rE Tryz.f381 Q) m1
def LH(m1:Nat):EW:=sE Tryz.f381 AI jn Q [1,1,1,0,0,1] (Ah2 jn Q m1) (A8 0 (rE Tryz.f381 Q) A6)
def Az6(m1:Nat):Nat->EW:=A8 1 (LH jn Q m1) (A8 0 (rE Tryz.f381 Q) A6)
def W5(m1:Nat):Nat->EW:=A8 2 (LH jn Q m1) (Az6 jn Q m1)
def Akh(m1:Nat):EW:=cE Tryz.f381 AI jn Q [1,1,1,0,0,1] (Ah2 jn Q m1) (A8 0 (rE Tryz.f381 Q) A6)
def Aki(m1:Nat):EW:=cE Tryz.f381 AI jn Q [1,1,1,0,0,0,0,1,0,1,1,1,1,1] (LH jn Q m1) (W5 jn Q m1)
def Akg(m1:Nat):EW:=cE Tryz.f381 AI jn Q [1,1,1,0,0,0,0,1,0,1,1,1] (LH jn Q m1) (W5 jn Q m1)
def Akf(m1:Nat):EW:=cE Tryz.f381 AI jn Q [1,1,1,0,0,0,0,1,0,1] (LH jn Q m1) (W5 jn Q m1)
def Az7(m1:Nat)(x0:OA)(key1:BA)(free6 i7:Int):WP:=Dp PR AI jn (bE Tryz.f381 [1,1,1,0,0]) (A8 0 (rE Tryz.f381 Q) A6) (rE Tryz.f381 Q) m1 ((.p x0)::(.s key1)::us 4 ((.i free6)::(.i i7)::us 71 []))
def Akj:EW:=cE Tryz.f384 EM jn Q [1,1] (rE Tryz.f384 Q) A6
def Az8(m1:Nat)(x0:OA)(t28:Sl)(t29 t30:Int):WP:=Dp PR Ec jn (bE Tryz.f385 [1,1,1,0,0]) (A8 0 (rE Tryz.f385 Q) A6) (rE Tryz.f385 Q) m1 ((.p x0)::us 27 ((.l t28.a t28.n t28.c)::(.i t29)::(.i t30)::us 21 []))
end
variable{jn:Jn}{Q:VW}{e0 s0 d0:OA}{key1 key2 key4:BA}{m1 t4b t4o l5b l5o:Nat}{i1 t10 low5:Int}{gone8:Sl}
theorem Arn:Au jn PR Aw Tryz.f348 [.p e0,.s key1] Q=(Ad e0 λB1 O2=>BZ B1 (O2+6) λX3=>Cc 352 [.p X3,.s key1] λX4=>Ad e0 λB5 O6=>BZ B5 (O6+7) λX7=>DD 350 [.p X7,.s key1] λX8=>Aj X8 (Q (.i (IntKind.wrap .i64 (X4+1)))) (Q (.i X4))):=by kernel_rfl
theorem Zv:U2 jn Q (us 31 [])=(Q (.b true)):=by kernel_rfl
theorem NH:PT jn Q (m1+1) d0 key1 t10=(Aj (decide (t10<3)) (Hd (.int .i64) (.int .u64) PR 351 [.p d0,.i t10,.s key1] λ(X1:Int)(X2:Int)=>Ad d0 λB3 O4=>Bu B3 O4 λX5=>CB X5.a X5.n X1 λB6 O7=>Ef B6 (O7+X1.toNat*1) λX8=>Aj ((bits .and .u64 X8 X2)==0) (Q (.b false)) (PT jn Q m1 d0 key1 (IntKind.wrap .i64 (t10+1)))) (Azh jn Q)):=by kernel_rfl
theorem Arp:Au jn PR PS Tryz.f350 [.p d0,.s key1] Q=(Aj (Option.isNone d0) (Q (.b false)) (DH λm=>PT jn Q m d0 key1 0)):=by kernel_rfl
theorem Arq:Au jn PR Azi Tryz.f351 [.p d0,.i i1,.s key2] Q=(A5 λS=>Ad d0 λB1 O2=>F5 S B1 O2 λX3=>wcu 117 [.int .u64 (IntKind.wrap .u64 (IntKind.wrap .i64 (11+i1))),.s key2] λX4=>Ap true S<|Cc 116 [.int .u64 X4,.i (IntKind.wrap .i64 (64*(X3.n:Int)))] λX5=>A5 λS=>Bw ((64:Int)≠0)<|Bw ((64:Int)≠0)<|Bw ((0:Int)<=(Int.tmod X5 (64:Int)))<|Q (.tuple #[.i (IntKind.wrap .i64 (Int.tdiv X5 64)),.int .u64 (HF .u64 1 (Int.tmod X5 64))])):=by kernel_rfl
theorem Zw:U3 jn Q (us 5 ((.i low5)::us 17 []))=(Q (.i low5)):=by kernel_rfl
theorem NI{t12_0 t12_1 t12_2 t12_3 t13:Int}:PV jn Q (m1+1) s0 low5 t12_0 t12_1 t12_2 t12_3 t13=(Aj (decide (t13<4)) (Bw ((0:Int)<=t13/\t13<((4:Nat):Int))<|λw=>∃X5:Int,([.i t12_0,.i t12_1,.i t12_2,.i t12_3]:List Value)[t13.toNat]? = some (.i X5)/\CV (.i X5)=false/\(Cc 354 [.p s0,.i X5] λX6=>PV jn Q m1 s0 (if X6<low5 then X6 else low5) t12_0 t12_1 t12_2 t12_3 (IntKind.wrap .i64 (t13+1))) w) (Azk jn Q low5)):=by kernel_rfl
theorem Arr:Au jn PR PU Tryz.f352 [.p s0,.s key1] Q=(Aj (Option.isNone s0) (Q (.i 0)) (λw=>Calls PR 353 #[.p s0,.s key1] w λe w'=>∃X1:Int,∃X2:Int,∃X3:Int,∃X4:Int,e = .returned (.agg #[.i X1,.i X2,.i X3,.i X4])/\(DH λm=>PV jn Q m s0 15 X1 X2 X3 X4 0) w')):=by kernel_rfl
theorem Zx:U4 jn Q (us 4 ((pq t4b t4o)::(pq l5b l5o)::us 25 []))=(Ay l5b l5o λX11=>Ay l5b (l5o+1) λX12=>Ay l5b ((l5o+1)+1) λX13=>Ay l5b (((l5o+1)+1)+1) λX14=>st t4b t4o (.i X11)<|st t4b (t4o+1) (.i X12)<|st t4b ((t4o+1)+1) (.i X13)<|st t4b (((t4o+1)+1)+1) (.i X14)<|Ay t4b t4o λX15=>Ay t4b (t4o+1) λX16=>Ay t4b ((t4o+1)+1) λX17=>Ay t4b (((t4o+1)+1)+1) λX18=>Q (.agg #[.i X15,.i X16,.i X17,.i X18])):=by kernel_rfl
theorem NJ{t7:Int}:PX jn Q (m1+1) s0 key1 t4b t4o l5b l5o t7=(Aj (decide (t7<4)) (A5 λS=>Ad s0 λB3 O4=>Ez S B3 O4 λX5=>Ad s0 λB6 O7=>Ez S B6 O7 λX8=>wcu 117 [.int .u64 (IntKind.wrap .u64 (IntKind.wrap .i64 (t7+1))),.s key1] λX9=>Ap true S<|Cc 116 [.int .u64 X9,.i X8] λX10=>Ap true S<|Bw ((0:Int)<=t7/\t7<((4:Nat):Int))<|st l5b (l5o+t7.toNat*1) (.i (IntKind.wrap .i64 ((IntKind.wrap .i64 (t7*X5))+X10)))<|PX jn Q m1 s0 key1 t4b t4o l5b l5o (IntKind.wrap .i64 (t7+1))) (
 Azm jn Q t4b t4o l5b l5o)):=by kernel_rfl
theorem Ars:Au jn PR PW Tryz.f353 [.p s0,.s key1] Q=(A1 [.i 0,.i 0,.i 0,.i 0] 405 λB1=>A1 [.i 0,.i 0,.i 0,.i 0] 405 λB2=>DH λm=>PX jn Q m s0 key1 B1 0 B2 0 0):=by kernel_rfl
theorem Art:Au jn PR Aw Tryz.f354 [.p s0,.i i1] Q=(Ad s0 λB1 O2=>Bu B1 (O2+1) λX3=>Bw ((2:Int)≠0)<|CB X3.a X3.n (IntKind.wrap .i64 (Int.tdiv i1 2)) λB4 O5=>ld (.int .u8) B4 (O5+((IntKind.wrap .i64 (Int.tdiv i1 (2:Int)))).toNat*1) λ(X6:Int)=>Bw ((2:Int)≠0)<|Bw ((0:Int)<=(IntKind.wrap .i64 ((Int.tmod i1 (2:Int))*(4:Int))))<|Q (.i (bits .and .i64 (IntKind.wrap .i64 (Dq .u8 X6 (IntKind.wrap .i64 ((Int.tmod i1 2)*4)))) 15))):=by kernel_rfl
theorem Aru{v2:Int}:Au jn PR Azn Tryz.f355 [.p s0,.i i1,.i v2] Q=(Bw ((2:Int)≠0)<|A5 λS=>Ad s0 λB1 O2=>F5 S B1 (O2+1) λX3=>Bw ((2:Int)≠0)<|Ad s0 λB4 O5=>Bw ((2:Int)≠0)<|Bw ((0:Int)<=(IntKind.wrap .i64 ((Int.tmod i1 (2:Int))*(4:Int))))<|Bw ((0:Int)<=(IntKind.wrap .i64 ((Int.tmod i1 (2:Int))*(4:Int))))<|Bu B4 (O5+1) λX6=>Ap true S<|CB X6.a X6.n (IntKind.wrap .i64 (Int.tdiv i1 2)) λB7 O8=>ld (.int .u8) B7 (O8+((IntKind.wrap .i64 (Int.tdiv i1 (2:Int)))).toNat*1) λ(X9:Int)=>Ap true S<|CB X3.a X3.n (IntKind.wrap .i64 (Int.tdiv i1 2)) λB10 O11=>
 st B10 (O11+((IntKind.wrap .i64 (Int.tdiv i1 (2:Int)))).toNat*1) (.int .u8 (bits .or .u8 (bits .andNot .u8 X9 (HF .u8 15 (IntKind.wrap .i64 ((Int.tmod i1 2)*4)))) (HF .u8 (IntKind.wrap .u8 v2) (IntKind.wrap .i64 ((Int.tmod i1 2)*4)))))<|Q (.tuple #[])):=by kernel_rfl
theorem Zy:U6 jn Q ((.p s0)::us 27 [])=(Ad s0 λB5 O6=>Ay B5 (O6+2) λX7=>Bw ((2:Int)≠0)<|Ad s0 λB8 O9=>st B8 (O9+2) (.i (IntKind.wrap .i64 (Int.tdiv X7 2)))<|Q (.tuple #[])):=by kernel_rfl
theorem NK{t9:Int}:PZ jn Q (m1+1) s0 t9 t10=(Aj (decide (t10<t9)) (Cc 354 [.p s0,.i t10] λX4=>Bw ((2:Int)≠0)<|wz 355 [.p s0,.i t10,.i (IntKind.wrap .i64 (Int.tdiv X4 2))]<|PZ jn Q m1 s0 t9 (IntKind.wrap .i64 (t10+1))) (Azp jn Q s0)):=by kernel_rfl
theorem Arv:Au jn PR PY Tryz.f356 [.p s0] Q=(Aj (Option.isNone s0) (Q (.tuple #[])) (Ad s0 λB1 O2=>Ay B1 O2 λX3=>DH λm=>PZ jn Q m s0 (IntKind.wrap .i64 (4*X3)) 0)):=by kernel_rfl
theorem Zz:U7 jn Q ((.p e0)::(.s key1)::us 6 ((.l gone8.a gone8.n gone8.c)::us 53 []))=(Ad e0 λB20 O21=>Bu B20 O21 λX22=>BZ B20 (O21+1) λX23=>Cc 370 [.agg #[.l X22.a X22.n X22.c,.p X23],.s key1] λX24=>Aj (X24==2) (wz 371 [.p e0,.i 1,.s key1,.i 0]<|Q (.tuple #[.b false,.l gone8.a gone8.n gone8.c])) (wz 371 [.p e0,.i 0,.s key1,.i 0]<|Q (.tuple #[.b false,.l gone8.a gone8.n gone8.c]))):=by kernel_rfl
theorem NL:Qb jn Q (m1+1) e0 key1 gone8=(A5 λS=>Ad e0 λB12 O13=>Ez S B12 (O13+2) λX14=>Cc 365 [.p e0] λX15=>Ap true S<|Aj (decide (X15>=X14)) (Fi 361 [.p e0] λX16 X17=>A1 [.s X16] 9 λB18=>AU 9 1 16 [.s Af] ⟨gone8.a,gone8.n,gone8.c⟩ 1 (λw=>F9 w (some ⟨B18,0,none⟩) (1*1)) λG19=>Qb jn Q m1 e0 key1 G19) (Ahz jn Q e0 key1 gone8)):=by kernel_rfl
theorem Arx:Au jn PR Qa Tryz.f360 [.p e0,.s key1] Q=(Aj (Option.isNone e0) (Q (.tuple #[.b false,.l none 0 0])) (DD 363 [.p e0,.s key1] λX1=>Aj X1 (Ad e0 λB2 O3=>BZ B2 (O3+5) λX4=>F0 192 [.p X4,.s key1] λX5 X6=>A5 λS=>Ad e0 λB7 O8=>EZ S B7 (O8+5) λX9=>Cc 119 [.i X5,.i 3] λX10=>Ap true S<|DD 161 [.p X9,.s key1,.i X10] λX11=>Q (.tuple #[.b true,.l none 0 0])) (DH λm=>Qb jn Q m e0 key1 ⟨none,0,0⟩))):=by kernel_rfl
theorem Z0{t28:Bool}:U8 jn Q ((.p e0)::us 27 ((.b t28)::us 9 []))=(Aj t28 (Fi 373 [.p e0] λX11 X12=>Aj X12 (Q (.tuple #[.s X11,.b true])) (V1 374 [.p e0] λX13=>Q (.tuple #[.s X13,.b true]))) (V1 374 [.p e0] λX14=>Q (.tuple #[.s X14,.b true]))):=by kernel_rfl
theorem Ary:Au jn PR Wy Tryz.f361 [.p e0] Q=(Cc 365 [.p e0] λX1=>Aj (X1==0) (Q (.tuple #[.s Af,.b false])) (A5 λS=>Ad e0 λB2 O3=>F5 S B2 O3 λX4=>EZ S B2 (O3+1) λX5=>Ad e0 λB6 O7=>Ez S B6 (O7+3) λX8=>A1 [.i 0] 3 λB9=>Ap true S<|Cc 372 [.agg #[.l X4.a X4.n X4.c,.p X5],.l (some ⟨B9,0,none⟩) 1 1] λX10=>Ap true S<|Aj (decide (X10>X8)) (Ap true S<|Wx jn Q e0 true) (Ad e0 λB15 O16=>F5 S B15 O16 λX17=>EZ S B15 (O16+1) λX18=>
 A1 [.i 1] 3 λB19=>Ap true S<|Cc 372 [.agg #[.l X17.a X17.n X17.c,.p X18],.l (some ⟨B19,0,none⟩) 1 1] λX20=>Wx jn Q e0 (X20==0)))):=by kernel_rfl
theorem Arz:Au jn PR Aw Tryz.f363 [.p e0,.s key1] Q=(Aj (Option.isNone e0) (Q (.b false)) (Ad e0 λB1 O2=>Bu B1 O2 λX3=>BZ B1 (O2+1) λX4=>Cc 370 [.agg #[.l X3.a X3.n X3.c,.p X4],.s key1] λX5=>Aj (X5==0) (Q (.b true)) (Q (.b (X5==1))))):=by kernel_rfl
theorem Ar0:Au jn PR Aw Tryz.f364 [.p e0] Q=(Aj (Option.isNone e0) (Q (.l none 0 0)) (Ad e0 λB1 O2=>Bu B1 O2 λX3=>BZ B1 (O2+1) λX4=>A1 [.i 0,.i 1] 3 λB5=>Gu 375 [.agg #[.l X3.a X3.n X3.c,.p X4],.l (some ⟨B5,0,none⟩) 2 2] λX6=>Q (.l X6.a X6.n X6.c))):=by kernel_rfl
theorem Ar1:Au jn PR Aw Tryz.f365 [.p e0] Q=(Aj (Option.isNone e0) (Q (.i 0)) (Ad e0 λB1 O2=>Bu B1 O2 λX3=>BZ B1 (O2+1) λX4=>A1 [.i 0,.i 1] 3 λB5=>Cc 372 [.agg #[.l X3.a X3.n X3.c,.p X4],.l (some ⟨B5,0,none⟩) 2 2] λX6=>Q (.i X6))):=by kernel_rfl
theorem Ar2:Au jn PR Azv Tryz.f366 [.p e0,.s key1] Q=(A5 λS=>Aj (Option.isNone e0) (Ap true S<|Ap true S<|Q (.b false)) (DD 363 [.p e0,.s key1] λX1=>Ap true S<|Aj X1 (Ap true S<|Q (.b false)) (Ad e0 λB2 O3=>Ez S B2 (O3+2) λX4=>Cc 365 [.p e0] λX5=>Ap true S<|Aj (X5==X4) (Q (.b false)) (wz 371 [.p e0,.i 1,.s key1,.i 0]<|Q (.b true))))):=by kernel_rfl
theorem Ar3:Au jn PR Aw Tryz.f367 [.p e0,.s key1] Q=(DD 363 [.p e0,.s key1] λX1=>Aj (!X1) (Q (.b false)) (wz 376 [.p e0,.s key1]<|Q (.b true))):=by kernel_rfl
theorem Ar4:Au jn PR Aw Tryz.f368 [.p e0] Q=(Aj (Option.isNone e0) (Q (.i 0)) (Ad e0 λB1 O2=>Ay B1 (O2+2) λX3=>Q (.i X3))):=by kernel_rfl
theorem Ar5{row1:Int}{count3:Int}:Au jn PR Aw Tryz.f371 [.p e0,.i row1,.s key2,.i count3] Q=(Ad e0 λB1 O2=>Bu B1 O2 λX3=>BZ B1 (O2+1) λX4=>wz 378 [.agg #[.l X3.a X3.n X3.c,.p X4],.i row1,.s key2]<|Ad e0 λB5 O6=>BZ B5 (O6+5) λX7=>DD 161 [.p X7,.s key2,.i count3] λX8=>Q (.tuple #[])):=by kernel_rfl
theorem NM:U9 jn Q m1 (us 4 ((.s key4)::us 59 []))=(Q (.tuple #[.s key4,.b true])):=by kernel_rfl
theorem NO{m2:Nat}:Qd jn Q m1 (m2+1) e0 key4=(A5 λS=>Ad e0 λB21 O22=>F5 S B21 O22 λX23=>EZ S B21 (O22+1) λX24=>Ad e0 λB25 O26=>Ez S B25 (O26+4) λX27=>A1 [.i 2] 3 λB28=>Ap true S<|Cc 372 [.agg #[.l X23.a X23.n X23.c,.p X24],.l (some ⟨B28,0,none⟩) 1 1] λX29=>Ap true S<|Aj (decide (X29>X27)) (A5 λS=>Ad e0 λB30 O31=>F5 S B30 O31 λX32=>EZ S B30 (O31+1) λX33=>Ad e0 λB34 O35=>Bu B34 O35 λX36=>BZ B34 (O35+1) λX37=>Ap true S<|V1 379 [.agg #[.l X36.a X36.n X36.c,.p X37],.i 2] λX38=>
 Ap true S<|wz 380 [.agg #[.l X32.a X32.n X32.c,.p X33],.s X38]<|Qd jn Q m1 m2 e0 key4) (Azz jn Q m1 key4)):=by kernel_rfl
theorem Z4:UA jn Q (us 64 [])=(Q (.tuple #[.s Af,.b false])):=by kernel_rfl
theorem NN:Qc jn Q (m1+1) e0=(Ad e0 λB1 O2=>Bu B1 O2 λX3=>BZ B1 (O2+1) λX4=>A1 [.i 0] 3 λB5=>Cc 372 [.agg #[.l X3.a X3.n X3.c,.p X4],.l (some ⟨B5,0,none⟩) 1 1] λX6=>Aj (decide (X6>0)) (Ad e0 λB7 O8=>Bu B7 O8 λX9=>BZ B7 (O8+1) λX10=>V1 379 [.agg #[.l X9.a X9.n X9.c,.p X10],.i 0] λX11=>Ad e0 λB12 O13=>BZ B12 (O13+5) λX14=>F0 192 [.p X14,.s X11] λX15 X16=>Aj (decide (X15>1)) (wz 371 [.p e0,.i 1,.s X11,.i 0]<|
 Qc jn Q m1 e0) (wz 376 [.p e0,.s X11]<|Ad e0 λB17 O18=>Bu B17 O18 λX19=>BZ B17 (O18+1) λX20=>wz 378 [.agg #[.l X19.a X19.n X19.c,.p X20],.i 2,.s X11]<|DH λm=>Qd jn Q m1 m e0 X11)) (Az0 jn Q)):=by kernel_rfl
theorem Ar8:Au jn PR Hj Tryz.f373 [.p e0] Q=(DH λm=>Qc jn Q m e0):=by kernel_rfl
theorem Z5:Qe jn Q (m1+1) e0=(Ad e0 λB1 O2=>Bu B1 O2 λX3=>BZ B1 (O2+1) λX4=>V1 379 [.agg #[.l X3.a X3.n X3.c,.p X4],.i 1] λX5=>Ad e0 λB6 O7=>BZ B6 (O7+5) λX8=>F0 192 [.p X8,.s X5] λX9 X10=>Aj (X9==0) (wz 376 [.p e0,.s X5]<|Q (.s X5)) (wz 371 [.p e0,.i 1,.s X5,.i (IntKind.wrap .i64 (X9-1))]<|Qe jn Q m1 e0)):=by kernel_rfl
theorem Ar9:Au jn PR Ah0 Tryz.f374 [.p e0] Q=(DH λm=>Qe jn Q m e0):=by kernel_rfl
theorem Asa:Au jn PR Aw Tryz.f376 [.p e0,.s key1] Q=(Ad e0 λB1 O2=>Bu B1 O2 λX3=>BZ B1 (O2+1) λX4=>wz 380 [.agg #[.l X3.a X3.n X3.c,.p X4],.s key1]<|Ad e0 λB5 O6=>BZ B5 (O6+5) λX7=>F0 159 [.p X7,.s key1] λX8 X9=>Q (.tuple #[])):=by kernel_rfl
end Go.Proofs.YtjipofkjmmpjdaaGreat
namespace Go.Hb
section
variable{W0 w:World}{L M:List HP}{b:Nat}
theorem Agr{c cap s r s' r':Nat}{B B':Array Value}(h:Ab W0 w (Gq c (.chan cap B false s r false)::M)):Ab W0 (w.setChan c cap B' false s' r' false) (Gq c (.chan cap B' false s' r' false)::M):=by
 have hb:=h.objC;have hlt:c<w.heap.size:=(Array.getElem?_eq_some_iff.1 hb).1;refine h.swapC rfl rfl ?_ (λx y hx hy=>?_)
 ·simp[World.setChan,hlt]
 ·simp only[World.setChan];rw[Array.getElem?_setIfInBounds_ne (Ne.symm hx)];exact hy
end
end Go.Hb
namespace Go.Proofs.YtjipofkjmmpjdaaGreat
open Go.Conc Go.RowKit Go.Hb
set_option maxRecDepth 100000 in
theorem Abh{b o:Nat}(w:World)(h:w.cell? ⟨b,o+4,none⟩=some (.bool true)):Calls PR 200 #[pq b o] w λe w'=>e = .returned (.bool true)/\w'=w:=by
 refine calls_of_loneTo λcs=>?_;have e:Frame.enter PR 200 #[pq b o] .normal=(base 200).at ⟨#[pq b o,undef,undef,undef,undef,undef,undef,undef,undef,undef,undef,undef,undef,undef,undef,undef,undef,undef,undef,undef,undef,undef,undef,undef,undef],[]⟩ [.code (Tryz.f200.body.getD .skip)]:=by
  simp[Frame.enter,Frame.at,Tryz.func200,base,Tryz.f200]
 rw[e];refine LoneTo.goes (n:=18) ?_;simp only[Tryz.f200,Option.getD_some]
 s_c stepG_seq
 s_reg
 s_op
 s_c stepG_region_end
 s_c stepG_seq
 s_c stepG_seq
 s_reg
 s_op
 s_op
 s_op
 s_op
 s_c stepG_region_end
 s_cond true
 s_c stepG_seq
 s_reg
 s_op
 s_c stepG_region_end
 s_c stepG_ret'
 s_stop
 refine LoneTo.done ⟨.returned (.bool true),_,rfl,⟨rfl,?_⟩,rfl,rfl,rfl,rfl,_,Tryz.func200,by simp[results,Tryz.f200,Frame.at]⟩;rfl
set_option maxRecDepth 100000 in
theorem Vc{b o c cap s r:Nat}{tm:Bool}(w:World)(h:w.cell? ⟨b,o+4,none⟩=some (.bool false))(h0:w.cell? ⟨b,o,none⟩=some (.chan (some c)))(hc:w.heap[c]? = some (.chan cap #[] false s r tm)):Calls PR 200 #[pq b o] w λe w'=>e = .returned (.bool false)/\w'=w:=by
 refine calls_of_loneTo λcs=>?_;have e:Frame.enter PR 200 #[pq b o] .normal=(base 200).at ⟨#[pq b o,undef,undef,undef,undef,undef,undef,undef,undef,undef,undef,undef,undef,undef,undef,undef,undef,undef,undef,undef,undef,undef,undef,undef,undef],[]⟩ [.code (Tryz.f200.body.getD .skip)]:=by
  simp[Frame.enter,Frame.at,Tryz.func200,base,Tryz.f200]
 rw[e];refine LoneTo.goes (n:=24) ?_;simp only[Tryz.f200,Option.getD_some]
 s_c stepG_seq
 s_reg
 s_op
 s_c stepG_region_end
 s_c stepG_seq
 s_c stepG_seq
 s_reg
 s_op
 s_op
 s_op
 s_op
 s_c stepG_region_end
 s_cond false
 s_c stepG_skip
 s_c stepG_seq
 s_c stepG_seq
 s_reg
 s_op
 s_op
 s_op
 s_op
 s_c stepG_region_end
 s_c stepG_seq
 s_reg
 s_stop
 refine LoneTo.step (step_lone_select_default (c:=c) (z:=(.agg #[.i 0,.string ⟨#[]⟩,.i 0])) (cap:=cap) (s:=s) (r:=r) (tm:=tm) (stepG_comm (cases:=#[rcase c (.agg #[.i 0,.string ⟨#[]⟩,.i 0])]) (blocking:=false) (shape:=.select) (w':=w) rfl rfl (by decide) (by simp[go_sem,execOp,rcase,Act.eval])) hc) ?_;rw[Frame.finish_at]
 walk_nrm
 refine LoneTo.goes (n:=18) ?_
 s_op
 s_op
 s_c stepG_region_end
 s_c stepG_block
 s_cond false
 s_c stepG_skip
 s_c stepG_inBlock
 s_c stepG_seq
 s_reg
 s_op
 s_op
 s_op
 s_op
 s_op
 s_c stepG_region_end
 s_c stepG_ret'
 s_stop
 refine LoneTo.done ⟨.returned (.bool false),_,rfl,⟨rfl,?_⟩,rfl,rfl,rfl,rfl,_,Tryz.func200,by simp[results,Tryz.f200,Frame.at]⟩;rfl
def A9o(cs:List Value)(o:Nat)(k:Int)(key:BA)(n:Int):List Value:=(((cs.set (o+1) (.i k)).set (o+1+1) (.string key)).set (o+1+1+1) (.i n)).set (o+4) (.bool true)
set_option maxRecDepth 100000 in
theorem Vd{W w:World}{L:List HP}{b o c cap s r:Nat}{k n:Int}{key:BA}{cs buf:List Value}(hl:o+5<=cs.length)(h:cs[o+4]? = some (.bool false))(h0:cs[o]? = some (.chan (some c)))
  (hs:Ab W w (Gq c (.chan cap (.agg #[.i k,.string key,.i n]::buf).toArray false s r false)::blk b cs::L)):Calls PR 200 #[pq b o] w λe w'=>e = .returned (.bool true)/\Ab W w' (Gq c (.chan cap buf.toArray false s (r+1) false)::blk b (A9o cs o k key n)::L):=by
 have hc:=hs.objC;have h:=(hs.cell (q:=1) rfl).trans h;have h0:=(hs.cell (q:=1) rfl).trans h0;have hs1:=Agr (s':=s) (r':=r+1) (B':=buf.toArray) hs;generalize hw1:w.setChan c cap buf.toArray false s (r+1) false=w1 at *;have a1:w1.cell? ⟨b,o+1,none⟩=some cs[o+1]:=(hs1.cell (q:=1) rfl).trans (List.getElem?_eq_getElem (by omega));have f1:=hs1.frozen (q:=1) (b:=b) (o:=o+1) rfl (by omega);have hs2:=hs1.set (q:=1) (b:=b) (o:=o+1) (v:=.i k) rfl;have a2:=(hs2.cell (q:=1) rfl).trans (List.getElem?_eq_getElem (show o+1+1<_ by simp;omega))
 have f2:=hs2.frozen (q:=1) (b:=b) (o:=o+1+1) rfl (by simp;omega);have hs3:=hs2.set (q:=1) (b:=b) (o:=o+1+1) (v:=.string key) rfl;have a3:=(hs3.cell (q:=1) rfl).trans (List.getElem?_eq_getElem (show o+1+2<_ by simp;omega))
 have f3:=hs3.frozen (q:=1) (b:=b) (o:=o+1+2) rfl (by simp;omega);have hs4:=hs3.set (q:=1) (b:=b) (o:=o+1+2) (v:=.i n) rfl;have a4:=(hs4.cell (q:=1) rfl).trans (List.getElem?_eq_getElem (show o+4<_ by simp;omega))
 have f4:=hs4.frozen (q:=1) (b:=b) (o:=o+4) rfl (by simp;omega);have hs5:=hs4.set (q:=1) (b:=b) (o:=o+4) (v:=.bool true) rfl;obtain⟨w5,hw5⟩:∃w5,(((w1.setCell ⟨b,o+1,none⟩ (.i k)).setCell ⟨b,o+1+1,none⟩ (.string key)).setCell ⟨b,o+1+2,none⟩ (.i n)).setCell ⟨b,o+4,none⟩ (.bool true)=w5:=⟨_,rfl⟩;rw[hw5] at hs5;have h4:w5.cell? ⟨b,o+4,none⟩=some (.bool true):=(hs5.cell (q:=1) (o:=o+4) rfl).trans (by rw[List.getElem?_set_self (by simp;omega)])
 have hx:(Value.agg #[.i k,.string key,.i n]::buf).toArray.extract 1 (Value.agg #[.i k,.string key,.i n]::buf).toArray.size=buf.toArray:=by simp
 refine calls_of_loneTo λcs_=>?_;have e:Frame.enter PR 200 #[pq b o] .normal=(base 200).at ⟨#[pq b o,undef,undef,undef,undef,undef,undef,undef,undef,undef,undef,undef,undef,undef,undef,undef,undef,undef,undef,undef,undef,undef,undef,undef,undef],[]⟩ [.code (Tryz.f200.body.getD .skip)]:=by
  simp[Frame.enter,Frame.at,Tryz.func200,base,Tryz.f200]
 rw[e];clear e;refine LoneTo.goes (n:=24) ?_;simp only[Tryz.f200,Option.getD_some]
 s_c stepG_seq
 s_reg
 s_op
 s_c stepG_region_end
 s_c stepG_seq
 s_c stepG_seq
 s_reg
 s_op
 s_op
 s_op
 s_op
 s_c stepG_region_end
 s_cond false
 s_c stepG_skip
 s_c stepG_seq
 s_c stepG_seq
 s_reg
 s_op
 s_op
 s_op
 s_op
 s_c stepG_region_end
 s_c stepG_seq
 s_reg
 s_stop
 refine LoneTo.step (step_lone_select_recv_buf (c:=c) (z:=(.agg #[.i 0,.string ⟨#[]⟩,.i 0])) (stepG_comm (cases:=#[rcase c (.agg #[.i 0,.string ⟨#[]⟩,.i 0])]) (blocking:=false) (shape:=.select) (w':=w) rfl rfl (by decide) (by simp[go_sem,execOp,rcase,Act.eval])) hc (by simp)) ?_;rw[Frame.finish_at,hx,hw1]
 walk_nrm
 refine LoneTo.goes (n:=34) ?_
 s_op
 s_op
 s_c stepG_region_end
 s_c stepG_block
 s_cond true
 s_c stepG_seq
 s_reg
 s_op
 s_op
 s_op
 s_op
 s_op
 s_c stepG_region_end
 s_reg
 s_op
 s_op
 s_op
 s_op
 clear hw5
 s_c stepG_region_end
 s_c stepG_inBlock
 s_c stepG_seq
 s_reg
 s_op
 s_op
 s_op
 s_op
 s_op
 s_c stepG_region_end
 s_c stepG_ret'
 s_stop
 have hs6:=hs5;simp only[List.set_cons_succ,List.set_cons_zero] at hs6;clear hs hs1 hs2 hs3 hs4 hs5 a1 a2 a3 a4 f1 f2 f3 f4 h4;refine LoneTo.done ⟨.returned (.bool true),_,rfl,⟨rfl,by unfold A9o;exact hs6⟩,rfl,rfl,rfl,rfl,_,Tryz.func200,?_⟩
 simp[results,Tryz.f200,Frame.at]
set_option maxRecDepth 100000 in
theorem SB{W w:World}{L:List HP}{b o c cap s r:Nat}{kd n:Int}{key:BA}{cs buf:List Value}(hl:10<cs.length)(h0:cs[o]? = some (.chan (some c)))(hn:cs[10]? = some (.i n))(hr:buf.length<cap)
  (hs:Ab W w (Gq c (.chan cap buf.toArray false s r false)::blk b cs::L)):Calls PR 122 #[pq b 0,pq b o,.i kd,.string key] w λe w'=>e = .returned (.bool true)/\Ab W w' (Gq c (.chan cap (buf++[Value.agg #[.i kd,.string key,.i n]]).toArray false (s+1) r false)::blk b (cs.set 10 (.i (IntKind.wrap .i64 (n+1))))::L):=by
 have hc:=hs.objC;have h0:=(hs.cell (q:=1) rfl).trans h0;have hn0:=(hs.cell (q:=1) rfl).trans hn;have hs1:=Agr (s':=s+1) (r':=r) (B':=(buf++[Value.agg #[.i kd,.string key,.i n]]).toArray) hs;have hp:buf.toArray.push (Value.agg #[.i kd,.string key,.i n])=(buf++[Value.agg #[.i kd,.string key,.i n]]).toArray:=by simp
 generalize hw1:w.setChan c cap (buf++[Value.agg #[.i kd,.string key,.i n]]).toArray false (s+1) r false=w1 at *;have a1:=(hs1.cell (q:=1) rfl).trans hn;have f1:=hs1.frozen (q:=1) (b:=b) (o:=10) rfl (by omega);have hs2:=hs1.set (q:=1) (b:=b) (o:=10) (v:=.i (IntKind.wrap .i64 (n+1))) rfl;refine calls_of_loneTo λcs_=>?_;have e:Frame.enter PR 122 #[pq b 0,pq b o,.i kd,.string key] .normal=(base 122).at ⟨#[pq b 0,pq b o,.i kd,.string key,undef,undef,undef,undef,undef,undef,undef,undef,undef,undef,undef,undef,undef,undef,undef,undef,undef,undef,undef,undef,undef,undef,undef,undef,undef,undef,undef],[]⟩ [.code (Tryz.f122.body.getD .skip)]:=by
  simp[Frame.enter,Frame.at,Tryz.func122,base,Tryz.f122]
 rw[e];clear e;refine LoneTo.goes (n:=24) ?_;simp only[Tryz.f122,Option.getD_some]
 s_c stepG_seq
 s_reg
 s_op
 s_c stepG_region_end
 s_c stepG_seq
 s_c stepG_seq
 s_reg
 s_op
 s_op
 s_op
 s_op
 s_c stepG_region_end
 s_reg
 s_op
 s_op
 s_op
 s_op
 s_op
 s_op
 s_op
 s_op
 s_c stepG_region_end
 s_c stepG_seq
 s_reg
 s_stop
 refine LoneTo.step (step_lone_select_send_room (c:=c) (v:=(Value.agg #[.i kd,.string key,.i n])) (z':=(.agg #[.i 0,.string ⟨#[]⟩,.i 0])) (stepG_comm (cases:=#[scase c (Value.agg #[.i kd,.string key,.i n]) (.agg #[.i 0,.string ⟨#[]⟩,.i 0])]) (blocking:=false) (shape:=.select) (w':=w) rfl rfl (by decide) (by simp[go_sem,execOp,scase,Act.eval])) hc (by simpa using hr)) ?_;rw[Frame.finish_at,hp,hw1]
 walk_nrm
 refine LoneTo.goes (n:=30) ?_
 s_op
 s_op
 s_c stepG_region_end
 s_c stepG_block
 s_cond true
 s_c stepG_seq
 s_reg
 s_op
 s_op
 s_op
 s_op
 s_op
 s_op
 s_op
 s_op
 s_c stepG_region_end
 s_c stepG_seq
 s_reg
 s_op
 s_c stepG_region_end
 s_c stepG_ret'
 s_stop
 refine LoneTo.done ⟨.returned (.bool true),_,rfl,⟨rfl,hs2⟩,rfl,rfl,rfl,rfl,_,Tryz.func122,?_⟩;simp[results,Tryz.f122,Frame.at]
set_option maxRecDepth 100000 in
theorem SA{W w:World}{L:List HP}{b o c cap s r:Nat}{kd n:Int}{key:BA}{cs buf:List Value}(h0:cs[o]? = some (.chan (some c)))(hn:cs[10]? = some (.i n))(hr:cap<=buf.length)
  (hs:Ab W w (Gq c (.chan cap buf.toArray false s r false)::blk b cs::L)):Calls PR 122 #[pq b 0,pq b o,.i kd,.string key] w λe w'=>e = .returned (.bool false)/\w'=w:=by
 have hc:=hs.objC;have h0:=(hs.cell (q:=1) rfl).trans h0;have hn0:=(hs.cell (q:=1) rfl).trans hn;refine calls_of_loneTo λcs_=>?_;have e:Frame.enter PR 122 #[pq b 0,pq b o,.i kd,.string key] .normal=(base 122).at ⟨#[pq b 0,pq b o,.i kd,.string key,undef,undef,undef,undef,undef,undef,undef,undef,undef,undef,undef,undef,undef,undef,undef,undef,undef,undef,undef,undef,undef,undef,undef,undef,undef,undef,undef],[]⟩ [.code (Tryz.f122.body.getD .skip)]:=by
  simp[Frame.enter,Frame.at,Tryz.func122,base,Tryz.f122]
 rw[e];clear e;refine LoneTo.goes (n:=24) ?_;simp only[Tryz.f122,Option.getD_some]
 s_c stepG_seq
 s_reg
 s_op
 s_c stepG_region_end
 s_c stepG_seq
 s_c stepG_seq
 s_reg
 s_op
 s_op
 s_op
 s_op
 s_c stepG_region_end
 s_reg
 s_op
 s_op
 s_op
 s_op
 s_op
 s_op
 s_op
 s_op
 s_c stepG_region_end
 s_c stepG_seq
 s_reg
 s_stop
 refine LoneTo.step (step_lone_select_send_full (c:=c) (v:=(Value.agg #[.i kd,.string key,.i n])) (z':=(.agg #[.i 0,.string ⟨#[]⟩,.i 0])) (stepG_comm (cases:=#[scase c (Value.agg #[.i kd,.string key,.i n]) (.agg #[.i 0,.string ⟨#[]⟩,.i 0])]) (blocking:=false) (shape:=.select) (w':=w) rfl rfl (by decide) (by simp[go_sem,execOp,scase,Act.eval])) hc (by simpa using hr)) ?_;rw[Frame.finish_at]
 walk_nrm
 refine LoneTo.goes (n:=30) ?_
 s_op
 s_op
 s_c stepG_region_end
 s_c stepG_block
 s_cond false
 s_c stepG_seq
 s_reg
 s_op
 s_c stepG_region_end
 s_c stepG_ret'
 s_stop
 refine LoneTo.done ⟨.returned (.bool false),_,rfl,⟨rfl,rfl⟩,rfl,rfl,rfl,rfl,_,Tryz.func122,?_⟩;simp[results,Tryz.f122,Frame.at]
end Go.Proofs.YtjipofkjmmpjdaaGreat
namespace Go.Hb
structure Pl(V:Type) where
 is_:Int
 key:BA
 v:V
instance {V:Type} [Inhabited V]:Inhabited (Pl V):=⟨⟨0,⟨#[]⟩,default⟩⟩
def CS{V:Type}(RV:Rec V):Rec (Pl V):=⟨2+RV.sz,λp=>.i p.is_::.s p.key::RV.cells p.v,λp=>by simp[RV.len];omega⟩
instance {V:Type} {RV:Rec V}:Gv (CS RV):=⟨by show 0<2+_;omega⟩
section
variable{V:Type}[Inhabited V]
def BU(ps:List (Pl V))(i:Nat):Int:=(ps.getD i default).is_
def Ed(ps:List (Pl V))(i:Nat):BA:=(ps.getD i default).key
def AJ(ps:List (Pl V))(k:BA):Nat->Option Nat->Nat->Nat×Bool
 | 0,_,i=>(i,false)
 | f+1,free,i=>
  if BU ps i=2/\Ed ps i=k then (i,true)
  else if BU ps i=1/\free=none then AJ ps k f (some i) ((i+1) % ps.length)
  else if BU ps i=0 then (free.getD i,false)
  else AJ ps k f free ((i+1) % ps.length)
def UG(ps:List (Pl V))(k:BA)(i:Nat):Prop:=BU ps i=2/\Ed ps i=k
theorem Ew(i e n:Nat):((i+1) % n+e) % n=(i+(e+1)) % n:=by
 rw[Nat.mod_add_mod];congr 1;omega
theorem KD(ps:List (Pl V))(k:BA):∀(f:Nat)(free:Option Nat)(i:Nat),i<ps.length->(AJ ps k f free i).2=true->UG ps k (AJ ps k f free i).1/\(AJ ps k f free i).1<ps.length
 | 0,_,_,_,h=>by simp[AJ] at h
 | f+1,free,i,hi,h=>by
  have hm:(i+1) % ps.length<ps.length:=Nat.mod_lt _ (by omega);unfold AJ at h ⊢;split at h
  ·rename_i h1;rw[if_pos h1];exact⟨h1,hi⟩
  ·rename_i h1;rw[if_neg h1]
   split at h
   ·rename_i h2;rw[if_pos h2];exact KD ps k f _ _ hm h
   ·rename_i h2;rw[if_neg h2]
    split at h
    ·simp at h
    ·rename_i h3;rw[if_neg h3];exact KD ps k f _ _ hm h
theorem Jm(ps:List (Pl V))(k:BA):∀(f:Nat)(free:Option Nat)(i:Nat),i<ps.length->(∃e,e<f/\BU ps ((i+e) % ps.length)=0)->(AJ ps k f free i).2=false ->
  ∃d,BU ps ((i+d) % ps.length)=0/\(∀e,e<d->BU ps ((i+e) % ps.length)≠0/\¬UG ps k ((i+e) % ps.length)) /\
   (∀j,free=some j->(AJ ps k f free i).1=j)/\(free=none->∃e,e<=d/\(AJ ps k f free i).1=(i+e) % ps.length/\BU ps ((i+e) % ps.length)≠2)
 | 0,_,_,_,⟨e,he,_⟩,_=>by omega
 | f+1,free,i,hi,⟨e,he,hz⟩,h=>by
  have hm:(i+1) % ps.length<ps.length:=Nat.mod_lt _ (by omega);have hi0:(i+0) % ps.length=i:=by rw[Nat.add_zero,Nat.mod_eq_of_lt hi]
  have next:BU ps i≠0->∃e',e'<f/\BU ps (((i+1) % ps.length+e') % ps.length)=0:=by
   intro hne;cases e with
   | zero=>rw[hi0] at hz;exact absurd hz hne
   | succ e=>exact⟨e,by omega,by rw[Ew];exact hz⟩
  unfold AJ at h ⊢;split at h
  ·simp at h
  rename_i h1;rw[if_neg h1];split at h
  ·rename_i h2;rw[if_pos h2];obtain⟨d,d1,d2,d3,d4⟩:=Jm ps k f (some i) _ hm (next (by rw[h2.1];decide)) h
   refine⟨d+1,by rw[Ew] at d1;exact d1,λe he=>?_,λj hj=>(by rw[h2.2] at hj;cases hj),λ_=>?_⟩
   ·cases e with
    | zero=>rw[hi0];exact⟨by rw[h2.1];decide,h1⟩
    | succ e=>have:=d2 e (by omega);rw[Ew] at this;exact this
   ·exact⟨0,by omega,by rw[hi0];exact d3 i rfl,by rw[hi0,h2.1];decide⟩
  ·rename_i h2;rw[if_neg h2];split at h
   ·rename_i h3;rw[if_pos h3];refine⟨0,by rw[hi0];exact h3,λe he=>by omega,λj hj=>by rw[hj];rfl,λhf=>⟨0,by omega,by rw[hf,hi0];rfl,by rw[hi0,h3];decide⟩⟩
   ·rename_i h3;rw[if_neg h3];obtain⟨d,d1,d2,d3,d4⟩:=Jm ps k f free _ hm (next h3) h;refine⟨d+1,by rw[Ew] at d1;exact d1,λe he=>?_,d3,λhf=>?_⟩
    ·cases e with
     | zero=>rw[hi0];exact⟨h3,h1⟩
     | succ e=>have:=d2 e (by omega);rw[Ew] at this;exact this
    ·obtain⟨e,e1,e2,e3⟩:=d4 hf;exact⟨e+1,by omega,by rw[e2,Ew],by rw[Ew] at e3;exact e3⟩
def EU(p:Pl V):List (BA×V):=if p.is_=2 then [(p.key,p.v)] else []
theorem Gd{p:Pl V}(h:p.is_=2):EU p=[(p.key,p.v)]:=if_pos h
theorem Ie{p:Pl V}(h:p.is_≠2):EU p=[]:=if_neg h
def Bd(ps:List (Pl V)):List (BA×V):=ps.flatMap EU
theorem Cg(a b:List (Pl V)):Bd (a++b)=Bd a++Bd b:=by simp[Bd]
theorem Sw{α:Type}[Inhabited α]{l:List α}{i:Nat}(h:i<l.length):l=l.take i++l.getD i default::l.drop (i+1):=by
 rw[List.getD_eq_getElem?_getD,List.getElem?_eq_getElem h];simp
theorem MR{α:Type}{l:List α}{i:Nat}(h:i<l.length)(a:α):l.set i a=l.take i++a::l.drop (i+1):=by
 rw[List.set_eq_take_append_cons_drop,if_pos h]
theorem Rk{ps:List (Pl V)}{i:Nat}(h:i<ps.length):(Bd ps).Perm (EU (ps.getD i default)++Bd (ps.take i++ps.drop (i+1))):=by
 have:Bd ps=Bd (ps.take i)++(EU (ps.getD i default)++Bd (ps.drop (i+1))):=by
  conv=>lhs;rw[Sw h]
  rw[Cg];rfl
 rw[this,Cg];rw[<- List.append_assoc,<- List.append_assoc];exact List.Perm.append_right _ List.perm_append_comm
theorem M9{ps:List (Pl V)}{i:Nat}(h:i<ps.length)(p:Pl V):(Bd (ps.set i p)).Perm (EU p++Bd (ps.take i++ps.drop (i+1))):=by
 have:Bd (ps.set i p)=Bd (ps.take i)++(EU p++Bd (ps.drop (i+1))):=by
  rw[MR h,Cg];rfl
 rw[this,Cg];rw[<- List.append_assoc,<- List.append_assoc];exact List.Perm.append_right _ List.perm_append_comm
def AD(ps:List (Pl V)):Nat:=ps.countP λp=>decide (p.is_≠0)
theorem BO{ps:List (Pl V)}{i:Nat}(h:i<ps.length)(p:Pl V)(hp:p.is_≠0):AD (ps.set i p)=AD ps+(if BU ps i=0 then 1 else 0):=by
 have h1:AD ps=AD (ps.take i)+((if BU ps i=0 then 0 else 1)+AD (ps.drop (i+1))):=by
  conv=>lhs;rw[Sw h]
  unfold AD BU;rw[List.countP_append,List.countP_cons]
  by_cases h0:(ps.getD i default).is_=0 <;> simp[h0] <;> omega
 have h2:AD (ps.set i p)=AD (ps.take i)+(1+AD (ps.drop (i+1))):=by
  rw[MR h];unfold AD;rw[List.countP_append,List.countP_cons];simp[hp];omega
 rw[h1,h2];split <;> omega
theorem Ab9{ps:List (Pl V)}(h:AD ps<ps.length):∃i,i<ps.length/\BU ps i=0:=by
 unfold AD at h
 induction ps with
 | nil=>simp at h
 | cons p ps ih=>
  by_cases hp:p.is_=0
  ·exact⟨0,by simp,hp⟩
  ·rw[List.countP_cons,if_pos (by simp[hp])] at h;simp only[List.length_cons] at h;obtain⟨i,hi,hz⟩:=ih (by omega);exact⟨i+1,by simpa using hi,hz⟩
theorem Rt{ps:List (Pl V)}{i j:Nat}(h:i<ps.length)(p:Pl V):BU (ps.set i p) j=if j=i then p.is_ else BU ps j:=by
 unfold BU;rw[List.getD_eq_getElem?_getD,List.getElem?_set,List.getD_eq_getElem?_getD]
 by_cases e:i=j
 ·subst e;simp[h]
 ·rw[if_neg e,if_neg (Ne.symm e)]
theorem UK{ps:List (Pl V)}{i j:Nat}(h:i<ps.length)(p:Pl V):Ed (ps.set i p) j=if j=i then p.key else Ed ps j:=by
 unfold Ed;rw[List.getD_eq_getElem?_getD,List.getElem?_set,List.getD_eq_getElem?_getD]
 by_cases e:i=j
 ·subst e;simp[h]
 ·rw[if_neg e,if_neg (Ne.symm e)]
structure C2(st:BA->Nat)(ps:List (Pl V))(m:List (BA×V)):Prop where
 big:8<=ps.length
 small:ps.length<4611686018427387904
 start:∀k,st k<ps.length
 perm:(Bd ps).Perm m
 nodup:(m.map (·.1)).Nodup
 reach:∀i,i<ps.length->BU ps i=2->∃e,i=(st (Ed ps i)+e) % ps.length/\∀e',e'<e->BU ps ((st (Ed ps i)+e') % ps.length)≠0
 room:AD ps<ps.length
section
variable{st:BA->Nat}{ps:List (Pl V)}{m:List (BA×V)}
theorem C2.stop(h:C2 st ps m)(k:BA):∃e,e<ps.length/\BU ps ((st k+e) % ps.length)=0:=by
 obtain⟨i,hi,hz⟩:=Ab9 h.room;have hs:=h.start k
 by_cases hle:st k<=i
 ·exact⟨i-st k,by omega,by rw[show st k+(i-st k)=i by omega,Nat.mod_eq_of_lt hi];exact hz⟩
 ·refine⟨i+ps.length-st k,by omega,?_⟩;rw[show st k+(i+ps.length-st k)=i+ps.length by omega,Nat.add_mod_right,Nat.mod_eq_of_lt hi];exact hz
def AQ(st:BA->Nat)(ps:List (Pl V))(k:BA):Nat×Bool:=AJ ps k ps.length none (st k)
theorem Atz{i:Nat}(hi:i<ps.length)(h2:BU ps i=2):(Ed ps i,(ps.getD i default).v)∈Bd ps:=by
 refine(Rk hi).symm.subset ?_;have:EU (ps.getD i default)=[(Ed ps i,(ps.getD i default).v)]:=Gd h2;rw[this];simp
theorem Asv{e:BA×V}(h:e∈Bd ps):∃i,i<ps.length/\BU ps i=2/\Ed ps i=e.1/\(ps.getD i default).v=e.2:=by
 unfold Bd at h;rw[List.mem_flatMap] at h;obtain⟨p,hp,he⟩:=h;obtain⟨i,hi,rfl⟩:=List.mem_iff_getElem.1 hp;unfold EU at he;split at he
 ·rename_i h2;simp only[List.mem_singleton] at he;have hg:ps.getD i default=ps[i]:=by rw[List.getD_eq_getElem?_getD,List.getElem?_eq_getElem hi];rfl
  refine⟨i,hi,by unfold BU;rw[hg];exact h2,by unfold Ed;rw[hg,he],by rw[hg,he]⟩
 ·cases he
def AC(m:List (BA×V))(k:BA):Option V:=(m.find? λe=>decide (e.1=k)).map (·.2)
theorem Ck{k:BA}{v:V}(hn:(m.map (·.1)).Nodup):AC m k=some v↔(k,v)∈m:=by
 unfold AC
 induction m with
 | nil=>simp
 | cons e m ih=>
  simp only[List.map_cons,List.nodup_cons] at hn;rw[List.find?_cons]
  by_cases he:e.1=k
  ·subst he;simp only[decide_true,Option.map_some,Option.some.injEq];constructor
   ·rintro rfl;simp
   ·intro h;rcases List.mem_cons.1 h with h|h
    ·exact(congrArg Prod.snd h).symm
    ·exact absurd (List.mem_map_of_mem (f:=(·.1)) h) hn.1
  ·simp only[he,decide_false];rw[ih hn.2];constructor
   ·exact λh=>List.mem_cons_of_mem _ h
   ·intro h;rcases List.mem_cons.1 h with h|h
    ·subst h;exact absurd rfl he
    ·exact h
theorem BY{k:BA}:AC m k=none↔∀e∈m,e.1≠k:=by
 unfold AC;simp
theorem Ak9{m':List (BA×V)}(hn:(m.map (·.1)).Nodup)(hp:m.Perm m')(k:BA):AC m k=AC m' k:=by
 have hn':(m'.map (·.1)).Nodup:=(hp.map _).nodup_iff.1 hn;cases h:AC m k with
 | some v=>exact((Ck hn').2 (hp.subset ((Ck hn).1 h))).symm
 | none=>exact(BY.2 λe he=>BY.1 h e (hp.symm.subset he)).symm
theorem C2.hit(h:C2 st ps m){k:BA}(hf:(AQ st ps k).2=true):(AQ st ps k).1<ps.length/\UG ps k (AQ st ps k).1/\AC m k=some (ps.getD (AQ st ps k).1 default).v:=by
 obtain⟨h1,h2⟩:=KD ps k ps.length none (st k) (h.start k) hf;refine⟨h2,h1,(Ck h.nodup).2 ?_⟩;have:=Atz (i:=(AQ st ps k).1) h2 h1.1;rw[show Ed ps (AQ st ps k).1=k from h1.2] at this;exact h.perm.subset this
theorem C2.miss(h:C2 st ps m){k:BA}(hf:(AQ st ps k).2=false):(AQ st ps k).1<ps.length/\BU ps (AQ st ps k).1≠2/\AC m k=none /\
  ∃e,(AQ st ps k).1=(st k+e) % ps.length/\∀e',e'<e->BU ps ((st k+e') % ps.length)≠0:=by
 obtain⟨d,d1,d2,_,d4⟩:=Jm ps k ps.length none (st k) (h.start k) (h.stop k) hf;obtain⟨e,e1,e2,e3⟩:=d4 rfl;have hp:0<ps.length:=by have:=h.big;omega
 have hfe:(AQ st ps k).1=(st k+e) % ps.length:=e2;refine⟨by rw[hfe];exact Nat.mod_lt _ hp,by rw[hfe];exact e3,?_,e,hfe,λe' he'=>(d2 e' (by omega)).1⟩
 rw[BY];intro x hx hk;obtain⟨i,hi,i2,ik,_⟩:=Asv (h.perm.symm.subset hx);obtain⟨a,a1,a2⟩:=h.reach i hi i2;rw[ik,hk] at a1 a2
 by_cases hda:d<a
 ·exact a2 d hda d1
 ·by_cases hde:d=a
  ·subst hde;rw[<- a1,i2] at d1;cases d1
  ·have:=(d2 a (by omega)).2;rw[<- a1] at this;exact this ⟨i2,by rw[ik,hk]⟩
def Fg(m:List (BA×V))(k:BA)(v:V):List (BA×V):=m.map λe=>if e.1=k then (k,v) else e
def Cr(m:List (BA×V))(k:BA):List (BA×V):=m.filter λe=>decide (e.1≠k)
def CE(m:List (BA×V))(k:BA)(v:V):List (BA×V):=match AC m k with
 | some _=>Fg m k v
 | none=>(k,v)::m
theorem MJ(m:List (BA×V))(k:BA)(v:V):(Fg m k v).map (·.1)=m.map (·.1):=by
 unfold Fg;rw[List.map_map];apply List.map_congr_left;intro e _;simp only[Function.comp];split
 ·rename_i h;exact h.symm
 ·rfl
theorem Abj{j:Nat}{k:BA}(hj:j<ps.length)(hit:UG ps k j)(hp:(Bd ps).Perm m):((k,(ps.getD j default).v)::Bd (ps.take j++ps.drop (j+1))).Perm m:=by
 have h1:=(Rk hj).symm.trans hp;have:EU (ps.getD j default)=[(k,(ps.getD j default).v)]:=by rw[<- hit.2];exact Gd hit.1
 rw[this] at h1;exact h1
theorem C2.set(h:C2 st ps m){k:BA}{v:V}{j:Nat}(hj:j<ps.length)(hit:UG ps k j):C2 st (ps.set j { ps.getD j default with v:=v }) (Fg m k v):=by
 have h0:=Abj hj hit h.perm;have hn:=(h0.map (·.1)).nodup_iff.2 h.nodup;simp only[List.map_cons,List.nodup_cons] at hn;have hset:(Bd (ps.set j { ps.getD j default with v:=v })).Perm ((k,v)::Bd (ps.take j++ps.drop (j+1))):=by
  have:=M9 hj { ps.getD j default with v:=v };have e:EU { ps.getD j default with v:=v }=[(k,v)]:=by rw[<- hit.2];exact Gd (p:={ ps.getD j default with v:=v }) hit.1
  rw[e] at this;exact this
 have hm:(Fg m k v).Perm ((k,v)::Bd (ps.take j++ps.drop (j+1))):=by
  have h1:(Fg m k v).Perm (Fg ((k,(ps.getD j default).v)::Bd (ps.take j++ps.drop (j+1))) k v):=(h0.map _).symm;refine h1.trans ?_;unfold Fg;rw[List.map_cons,if_pos rfl];rw[List.map_congr_left (g:=id) (λe he=>?_),List.map_id];rw[if_neg];rfl
  intro hk;exact hn.1 (by rw[<- hk];exact List.mem_map_of_mem he)
 have hi:∀x,BU (ps.set j { ps.getD j default with v:=v }) x=BU ps x:=by
  intro x;rw[Rt hj];split
  ·rename_i e;subst e;rfl
  ·rfl
 have hk:∀x,Ed (ps.set j { ps.getD j default with v:=v }) x=Ed ps x:=by
  intro x;rw[UK hj];split
  ·rename_i e;subst e;rfl
  ·rfl
 refine⟨by rw[List.length_set];exact h.big,by rw[List.length_set];exact h.small,by rw[List.length_set];exact h.start,hset.trans hm.symm,by rw[MJ];exact h.nodup,?_,?_⟩
 ·intro i hil h2;rw[List.length_set] at hil ⊢;rw[hi] at h2;simp only[hi,hk];exact h.reach i hil h2
 ·rw[BO hj _ (by show BU ps j≠0;rw[hit.1];decide),List.length_set,if_neg (by rw[hit.1];decide)];exact h.room
theorem Vk{p:Pl V}{j:Nat}(h:C2 st ps m)(hj:j<ps.length)(hp:p.is_≠0)(hnew:p.is_=2->∃e,j=(st p.key+e) % ps.length/\∀e',e'<e->BU ps ((st p.key+e') % ps.length)≠0) :
  ∀i,i<(ps.set j p).length->BU (ps.set j p) i=2->∃e,i=(st (Ed (ps.set j p) i)+e) % (ps.set j p).length/\∀e',e'<e->BU (ps.set j p) ((st (Ed (ps.set j p) i)+e') % (ps.set j p).length)≠0:=by
 intro i hi h2;rw[List.length_set] at hi ⊢;have mono:∀x,BU ps x≠0->BU (ps.set j p) x≠0:=by
  intro x hx;rw[Rt hj];split
  ·exact hp
  ·exact hx
 rw[Rt hj] at h2;rw[UK hj]
 by_cases e:i=j
 ·subst e;rw[if_pos rfl] at h2 ⊢;obtain⟨e,e1,e2⟩:=hnew h2;exact⟨e,e1,λe' he'=>mono _ (e2 e' he')⟩
 ·rw[if_neg e] at h2 ⊢;obtain⟨e,e1,e2⟩:=h.reach i hi h2;exact⟨e,e1,λe' he'=>mono _ (e2 e' he')⟩
theorem C2.add(h:C2 st ps m){k:BA}{v:V}{j:Nat}(hj:j<ps.length)(h2:BU ps j≠2)(hno:AC m k=none)
  (hr:∃e,j=(st k+e) % ps.length/\∀e',e'<e->BU ps ((st k+e') % ps.length)≠0) (hroom:AD ps+1<ps.length):C2 st (ps.set j ⟨2,k,v⟩) ((k,v)::m):=by
 have hfull:(Bd (ps.set j ⟨2,k,v⟩)).Perm ((k,v)::m):=by
  have h1:=M9 hj (⟨2,k,v⟩:Pl V);have h3:=(Rk hj).symm.trans h.perm;have e1:EU (⟨2,k,v⟩:Pl V)=[(k,v)]:=rfl;have e2:EU (ps.getD j default)=[]:=Ie h2;rw[e1] at h1;rw[e2,List.nil_append] at h3;exact h1.trans (List.Perm.cons _ h3)
 refine⟨by rw[List.length_set];exact h.big,by rw[List.length_set];exact h.small,by rw[List.length_set];exact h.start,hfull,?_,Vk h hj (by show(2:Int)≠0;decide) (λ_=>hr),?_⟩
 ·rw[List.map_cons,List.nodup_cons];refine⟨λhm=>?_,h.nodup⟩;rw[List.mem_map] at hm;obtain⟨e,he,hk⟩:=hm;exact BY.1 hno e he hk
 ·rw[BO hj _ (by show(2:Int)≠0;decide),List.length_set];split <;> omega
theorem C2.del(h:C2 st ps m){k:BA}{z:Pl V}{j:Nat}(hj:j<ps.length)(hit:UG ps k j)(hz:z.is_=1):C2 st (ps.set j z) (Cr m k):=by
 have h0:=Abj hj hit h.perm;have hn:=(h0.map (·.1)).nodup_iff.2 h.nodup;simp only[List.map_cons,List.nodup_cons] at hn;have hset:(Bd (ps.set j z)).Perm (Bd (ps.take j++ps.drop (j+1))):=by
  have:=M9 hj z;have e:EU z=[]:=by unfold EU;rw[if_neg (by rw[hz];decide)]
  rw[e] at this;exact this
 have hm:(Cr m k).Perm (Bd (ps.take j++ps.drop (j+1))):=by
  have h1:(Cr m k).Perm (Cr ((k,(ps.getD j default).v)::Bd (ps.take j++ps.drop (j+1))) k):=(h0.filter _).symm;refine h1.trans ?_;unfold Cr;rw[List.filter_cons_of_neg (by simp)];rw[List.filter_eq_self.2];intro e he;simp only[ne_eq,decide_not,Bool.not_eq_eq_eq_not,Bool.not_true,decide_eq_false_iff_not];intro hk;exact hn.1 (by rw[<- hk];exact List.mem_map_of_mem he)
 refine⟨by rw[List.length_set];exact h.big,by rw[List.length_set];exact h.small,by rw[List.length_set];exact h.start,hset.trans hm.symm,?_,Vk h hj (by rw[hz];decide) (λh2=>by rw[hz] at h2;cases h2),?_⟩
 ·exact(List.Nodup.sublist ((List.filter_sublist).map _) h.nodup)
 ·rw[BO hj _ (by rw[hz];decide),List.length_set,if_neg (by rw[hit.1];decide)];exact h.room
theorem Mb(hn:(m.map (·.1)).Nodup){k:BA}{v:V}(h:AC m k=some v):(Cr m k).length+1=m.length:=by
 have hm:=(Ck hn).1 h;obtain⟨a,b,rfl⟩:=List.append_of_mem hm;unfold Cr;simp only[List.map_append,List.map_cons] at hn;rw[List.nodup_append] at hn;simp only[List.nodup_cons] at hn;rw[List.filter_append,List.filter_cons_of_neg (by simp),List.filter_eq_self.2,List.filter_eq_self.2]
 ·simp;omega
 ·intro e he;simp only[ne_eq,decide_not,Bool.not_eq_eq_eq_not,Bool.not_true,decide_eq_false_iff_not];rintro rfl;exact hn.2.1.1 (List.mem_map_of_mem he)
 ·intro e he;simp only[ne_eq,decide_not,Bool.not_eq_eq_eq_not,Bool.not_true,decide_eq_false_iff_not];rintro rfl;exact hn.2.2 _ (List.mem_map_of_mem he) e.1 (by simp) rfl
theorem C2.new{n:Nat}{z:Pl V}(hz:z.is_=0)(h8:8<=n)(hn:n<4611686018427387904)(hst:∀k,st k<n):C2 st (List.replicate n z) []:=by
 have hu:AD (List.replicate n z)=0:=by
  unfold AD;rw[List.countP_eq_zero]
  intro a ha;rw[List.eq_of_mem_replicate ha];simp[hz]
 refine⟨by simpa using h8,by simpa using hn,by simpa using hst,?_,by simp,?_,by rw[hu];simp;omega⟩
 ·have:Bd (List.replicate n z)=[]:=by
   unfold Bd;rw[List.flatMap_eq_nil_iff]
   intro a ha;rw[List.eq_of_mem_replicate ha];unfold EU;rw[if_neg (by rw[hz];decide)]
  rw[this]
 ·intro i hi h2;rw[List.length_replicate] at hi;unfold BU at h2;rw[List.getD_eq_getElem?_getD,List.getElem?_eq_getElem (by simpa using hi)] at h2;simp only[List.getElem_replicate,Option.getD_some,hz] at h2;cases h2
end
end
end Go.Hb
