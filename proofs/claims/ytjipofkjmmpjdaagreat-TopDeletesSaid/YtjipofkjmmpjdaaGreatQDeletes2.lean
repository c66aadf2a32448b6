import Derived.Test.YtjipofkjmmpjdaaGreatChecked
import Derived.KernelRfl
import Derived.Conc.LoneSelect
import Derived.Laws.Rows
import Derived.OpenShut
import Derived.IntWalk
import Derived.Sort.EncStr
import Derived.Sort.Grow
import Derived.Sort.Walk0
import Derived.Test.YtjipofkjmmpjdaaGreatQDeletes1
set_option linter.unusedVariables false
set_option linter.unusedSimpArgs false
set_option linter.unnecessarySimpa false
set_option linter.unusedSectionVars false
set_option maxRecDepth 100000
namespace Go.Proofs.YtjipofkjmmpjdaaGreat
open Go.Hb
noncomputable abbrev PR:=Tryz.prog
abbrev Er(S:World->Prop)(b o:Nat)(K:Int->WP):WP:=ldS S (.int .i64) b o K
abbrev Fs(S:World->Prop)(b o:Nat)(K:Sl->WP):WP:=ldS S .slc b o K
abbrev EK(S:World->Prop)(b o:Nat)(K:OA->WP):WP:=ldS S .ptr b o K
abbrev wLs(S:World->Prop)(b o:Nat)(K:BA->WP):WP:=ldS S .str b o K
abbrev YR(S:World->Prop)(b o:Nat)(K:Int->WP):WP:=ldS S (.int .u64) b o K
noncomputable abbrev Dw(f:FuncId)(a:List Value)(K:Bool->WP):WP:=call1 .bool PR f a K
noncomputable abbrev Bw(f:FuncId)(a:List Value)(K:Int->WP):WP:=call1 (.int .i64) PR f a K
noncomputable abbrev FI(f:FuncId)(a:List Value)(K:Sl->WP):WP:=call1 .slc PR f a K
noncomputable abbrev JP(f:FuncId)(a:List Value)(K:OA->WP):WP:=call1 .ptr PR f a K
noncomputable abbrev TA(f:FuncId)(a:List Value)(K:BA->WP):WP:=call1 .str PR f a K
noncomputable abbrev YS(f:FuncId)(a:List Value)(K:Int->WP):WP:=call1 (.int .u64) PR f a K
noncomputable abbrev A1c(f:FuncId)(a:List Value)(K:Bool->Int->WP):WP:=Gb .bool (.int .i64) PR f a K
noncomputable abbrev A1d(f:FuncId)(a:List Value)(K:Bool->Sl->WP):WP:=Gb .bool .slc PR f a K
noncomputable abbrev Fy(f:FuncId)(a:List Value)(K:Int->Bool->WP):WP:=Gb (.int .i64) .bool PR f a K
noncomputable abbrev Abj(f:FuncId)(a:List Value)(K:OA->Int->WP):WP:=Gb .ptr (.int .i64) PR f a K
noncomputable abbrev ED(f:FuncId)(a:List Value)(K:BA->Bool->WP):WP:=Gb .str .bool PR f a K
abbrev HT(b o:Nat)(K:Bool->WP):WP:=ld .bool b o K
abbrev Ay(b o:Nat)(K:Int->WP):WP:=ld (.int .i64) b o K
abbrev AZ(b o:Nat)(K:Sl->WP):WP:=ld .slc b o K
abbrev Bs(b o:Nat)(K:OA->WP):WP:=ld .ptr b o K
abbrev BQ(b o:Nat)(K:BA->WP):WP:=ld .str b o K
abbrev Dx(b o:Nat)(K:Int->WP):WP:=ld (.int .u64) b o K
noncomputable abbrev wz(f:FuncId)(a:List Value)(K:WP):WP:=VH PR f a K
noncomputable def bE(f:Func)(l:List Nat):Code:=Ax5 l (AR f)
def rE(f:Func)(Q:VW):EW:=Bf PR f Q
def cE(f:Func)(kp:KP)(jn:Jn)(Q:VW)(l:List Nat)(X:EW)(Y:Nat->EW):EW:=BC PR kp jn (bE f l) X Y (rE f Q)
def sE(f:Func)(kp:KP)(jn:Jn)(Q:VW)(l:List Nat)(X:EW)(Y:Nat->EW):EW:=JF PR kp jn (bE f l) X Y (rE f Q)
theorem mixed:PR.follows .mixedOrders=true:=by kernel_rfl
section
variable(jn:Jn)(Q:VW)
def A03:BA:=⟨#[50,113]⟩
def CW:BA:=⟨#[95,45,46,47,58]⟩
def QE:BA:=⟨#[97]⟩
def Awz:BA:=⟨#[97,114,99]⟩
def Ae:BA:=⟨#[]⟩
def Apf:BA:=⟨#[108,105,114,115]⟩
def Abb:BA:=⟨#[115,51,102,105,102,111]⟩
def YL:BA:=⟨#[116,105,110,121,108,102,117]⟩
def QF:BA:=⟨#[120]⟩
def Kq:KP:=⟨[(8,[1,2,3,4]),(23,[2,3,9,11]),(26,[2,3,9,11]),(28,[2,3,9,11]),(34,[])],[]⟩
def Pn:EW:=sE Tryz.f5 Kq jn Q [1,1,1,1,1,1,1] (rE Tryz.f5 Q) A6
def Amx(m2:Nat):EW:=Iy PR Kq jn (bE Tryz.f5 [1,1,1,1,1,1,0,1,0,0]) (A8 0 (Pn jn Q) A6) (rE Tryz.f5 Q) m2
def Amy(m2:Nat):EW:=sE Tryz.f5 Kq jn Q [1,1,1,1,1,1,0,1,0,0,1,1] (Amx jn Q m2) (A8 0 (Pn jn Q) A6)
def Azb(m2:Nat):Nat->EW:=A8 1 (Amy jn Q m2) (A8 0 (Pn jn Q) A6)
def Acz(m2:Nat):EW:=cE Tryz.f5 Kq jn Q [1,1,1,1,1,1,0,1,0,0,1,0,0,1] (Amy jn Q m2) (Azb jn Q m2)
def Amz(m2:Nat)(more2:Sl)(key3:BA)(c9:OA)(i11:Int):WP:=jn 28 (Acz jn Q m2) (us 2 ((.l more2.a more2.n more2.c)::(.s key3)::us 5 ((.p c9)::us 1 ((.i i11)::us 75 []))))
def Acy(m2:Nat):EW:=cE Tryz.f5 Kq jn Q [1,1,1,1,1,1,0,1,0,0,1] (Amx jn Q m2) (A8 0 (Pn jn Q) A6)
def A1s(m2:Nat)(more2:Sl)(key3:BA)(c9:OA)(i11:Int):WP:=jn 26 (Acy jn Q m2) (us 2 ((.l more2.a more2.n more2.c)::(.s key3)::us 5 ((.p c9)::us 1 ((.i i11)::us 75 []))))
def Ac0:EW:=cE Tryz.f5 Kq jn Q [1,1,1,1,1,1,1] (rE Tryz.f5 Q) A6
def Am0:WP:=jn 34 (Ac0 jn Q) (us 87 [])
def SF(m2:Nat)(more2:Sl)(key3:BA)(c9:OA)(i11:Int):WP:=CQ PR Kq jn (bE Tryz.f5 [1,1,1,1,1,1,0,1,0,0]) (A8 0 (Pn jn Q) A6) (rE Tryz.f5 Q) m2 (us 2 ((.l more2.a more2.n more2.c)::(.s key3)::us 5 ((.p c9)::us 1 ((.i i11)::us 75 []))))
def Acx:EW:=cE Tryz.f5 Kq jn Q [1,1] (rE Tryz.f5 Q) A6
def A1r(l1 more2:Sl)(key3:BA)(f4_b f4_o:Nat):WP:=jn 8 (Acx jn Q) (us 1 ((.l l1.a l1.n l1.c)::(.l more2.a more2.n more2.c)::(.s key3)::(pq f4_b f4_o)::us 82 []))
def SH:KP:=⟨[(7,[0,3]),(10,[0,3]),(14,[])],[]⟩
def Am8:EW:=sE Tryz.f9 SH jn Q [1,1] (rE Tryz.f9 Q) A6
def A1t(m1:Nat):EW:=Iy PR SH jn (bE Tryz.f9 [1,0,1,0,0]) (A8 0 (Am8 jn Q) A6) (rE Tryz.f9 Q) m1
def Ac2(m1:Nat):EW:=cE Tryz.f9 SH jn Q [1,0,1,0,0,1] (A1t jn Q m1) (A8 0 (Am8 jn Q) A6)
def A1u(m1:Nat)(l0:Sl)(i3:Int):WP:=jn 10 (Ac2 jn Q m1) ((.l l0.a l0.n l0.c)::us 2 ((.i i3)::us 26 []))
def Ac3:EW:=cE Tryz.f9 SH jn Q [1,1] (rE Tryz.f9 Q) A6
def Axk:WP:=jn 14 (Ac3 jn Q) (us 30 [])
def Ac4(m1:Nat)(l0:Sl)(i3:Int):WP:=CQ PR SH jn (bE Tryz.f9 [1,0,1,0,0]) (A8 0 (Am8 jn Q) A6) (rE Tryz.f9 Q) m1 ((.l l0.a l0.n l0.c)::us 2 ((.i i3)::us 26 []))
def Aw:KP:=⟨[],[]⟩
def Aiw:KP:=⟨[(10,[1])],[]⟩
def Wk:EW:=cE Tryz.f12 Aiw jn Q [1,1,1] (rE Tryz.f12 Q) A6
def Ayg(c1:OA):WP:=jn 10 (Wk jn Q) (us 1 ((.p c1)::us 31 []))
def TX:KP:=⟨[(9,[0,5,8,9,10]),(16,[5])],[]⟩
def Ayh:EW:=sE Tryz.f14 TX jn Q [1,1,1] (rE Tryz.f14 Q) A6
def Wt:EW:=cE Tryz.f14 TX jn Q [1,1,1] (rE Tryz.f14 Q) A6
def Ayi(all5:Sl):WP:=jn 16 (Wt jn Q) (us 5 ((.l all5.a all5.n all5.c)::us 16 []))
def TY(m1:Nat)(c0:OA)(all5 t8:Sl)(t9 t10:Int):WP:=CQ PR TX jn (bE Tryz.f14 [1,1,0,1,0,0]) (A8 0 (Ayh jn Q) A6) (rE Tryz.f14 Q) m1 ((.p c0)::us 4 ((.l all5.a all5.n all5.c)::us 2 ((.l t8.a t8.n t8.c)::(.i t9)::(.i t10)::us 11 [])))
def Ue:KP:=⟨[(12,[0,3,4,5,24]),(14,[0,3,4,5])],[(6,[0,1,2,3,4])]⟩
def Ayj:EW:=sE Tryz.f15 Ue jn Q [1,1,1,1] (rE Tryz.f15 Q) A6
def W1:EW:=cE Tryz.f15 Ue jn Q [1,1,1,1] (rE Tryz.f15 Q) A6
def Ayk(c0:OA)(o3b o3o t4b t4o kinds5b kinds5o:Nat):WP:=jn 14 (W1 jn Q) ((.p c0)::us 2 ((pq o3b o3o)::(pq t4b t4o)::(pq kinds5b kinds5o)::us 27 []))
def Wz:EW:=cE Tryz.f15 Ue jn Q [1,1,1,0,1] (Ayj jn Q) A6
def Ei(c0:OA)(o3b o3o t4b t4o kinds5b kinds5o:Nat)(t24:Bool):WP:=jn 12 (Wz jn Q) ((.p c0)::us 2 ((pq o3b o3o)::(pq t4b t4o)::(pq kinds5b kinds5o)::us 18 ((.b t24)::us 8 [])))
def Ld:KP:=⟨[(8,[0,1])],[]⟩
def WA:EW:=cE Tryz.f19 Ld jn Q [1,1] (rE Tryz.f19 Q) A6
def Ayl(c0:OA)(i1:Int):WP:=jn 8 (WA jn Q) ((.p c0)::(.i i1)::us 25 [])
def Pf:KP:=⟨[(8,[1]),(13,[1,4,48,49]),(24,[1,4])],[(11,[0,1,2,3,4,8,9,10,11,12])]⟩
def Aym:EW:=sE Tryz.f27 Pf jn Q [1,1,1,1] (rE Tryz.f27 Q) A6
def WR:EW:=cE Tryz.f27 Pf jn Q [1,1,1,1] (rE Tryz.f27 Q) A6
def Aku(c1b c1o x4b x4o:Nat):WP:=jn 24 (WR jn Q) (us 1 ((pq c1b c1o)::us 2 ((pq x4b x4o)::us 91 [])))
def Ut(m2:Nat)(c1b c1o x4b x4o:Nat)(t48 t49:Int):WP:=CQ PR Pf jn (bE Tryz.f27 [1,1,1,0,1,0,0]) (A8 0 (Aym jn Q) A6) (rE Tryz.f27 Q) m2 (us 1 ((pq c1b c1o)::us 2 ((pq x4b x4o)::us 43 ((.i t48)::(.i t49)::us 46 []))))
def WO:EW:=cE Tryz.f27 Pf jn Q [1,1] (rE Tryz.f27 Q) A6
def Ayn(c1b c1o:Nat):WP:=jn 8 (WO jn Q) (us 1 ((pq c1b c1o)::us 94 []))
def Ayo:KP:=⟨[],[(1,[0,1,2,4,5,6,7,8,9,11,12,13,14,15,16,18,20,22]),(3,[0,1,2,3,4])]⟩
def Ayp:KP:=⟨[],[(1,[0,1,2,4,5,6,7,8,9,10,11,12,13,15,16,17,18,20]),(3,[0,1,2,3,4])]⟩
def Ayq:KP:=⟨[],[(1,[0,1,2,4,5,6,7,8,9,11,12,13,14,15,17,19])]⟩
def Ju:KP:=⟨[(6,[0,3,4,19]),(8,[0,3,4]),(13,[0,4,33,34,35]),(20,[4])],[(1,[0,2,3,4,5,6,7,8,10,11,12]),(3,[0,1,2,3,4,6,7,8]),(7,[0,1,2,3,4,5,9])]⟩
def Ayr:EW:=sE Tryz.f31 Ju jn Q [1,1] (rE Tryz.f31 Q) A6
def Ays:EW:=sE Tryz.f31 Ju jn Q [1,1,1,1] (rE Tryz.f31 Q) A6
def Xf:EW:=cE Tryz.f31 Ju jn Q [1,1,1,1] (rE Tryz.f31 Q) A6
def Ayu(r4b r4o:Nat):WP:=jn 20 (Xf jn Q) (us 4 ((pq r4b r4o)::us 46 []))
def U1(m3:Nat)(c0:OA)(r4b r4o:Nat)(t33:Sl)(t34 t35:Int):WP:=CQ PR Ju jn (bE Tryz.f31 [1,1,1,0,1,0,0]) (A8 0 (Ays jn Q) A6) (rE Tryz.f31 Q) m3 ((.p c0)::us 3 ((pq r4b r4o)::us 28 ((.l t33.a t33.n t33.c)::(.i t34)::(.i t35)::us 15 [])))
def Xe:EW:=cE Tryz.f31 Ju jn Q [1,1] (rE Tryz.f31 Q) A6
def Ayt(c0:OA)(o3b o3o r4b r4o:Nat):WP:=jn 8 (Xe jn Q) ((.p c0)::us 2 ((pq o3b o3o)::(pq r4b r4o)::us 46 []))
def Xd:EW:=cE Tryz.f31 Ju jn Q [1,0,1] (Ayr jn Q) A6
def Zx(c0:OA)(o3b o3o r4b r4o:Nat)(t19:Bool):WP:=jn 6 (Xd jn Q) ((.p c0)::us 2 ((pq o3b o3o)::(pq r4b r4o)::us 14 ((.b t19)::us 31 [])))
def Al8:KP:=⟨[(10,[4,5,6])],[(1,[0,1,2,3,4,5,6,9,10,12,13,14,15,16])]⟩
def Xn:EW:=cE Tryz.f34 Al8 jn Q [1,1,1] (rE Tryz.f34 Q) A6
def Z1(t4b t4o:Nat)(pick5:Int)(change6:Bool):WP:=jn 10 (Xn jn Q) (us 4 ((pq t4b t4o)::(.i pick5)::(.b change6)::us 23 []))
def Ayv:KP:=⟨[],[(1,[0,1,2,3,4,7])]⟩
def Jv:KP:=⟨[(6,[0,3,4,16]),(8,[0,3,4]),(11,[0,3,4,21,22,23]),(20,[0,3,4])],[(9,[0,1,2,3,4,5,6,7,8,10,11])]⟩
def Ayw:EW:=sE Tryz.f36 Jv jn Q [1,1] (rE Tryz.f36 Q) A6
def Ayx:EW:=sE Tryz.f36 Jv jn Q [1,1,1] (rE Tryz.f36 Q) A6
def Xw:EW:=cE Tryz.f36 Jv jn Q [1,1,1] (rE Tryz.f36 Q) A6
def Ayz(c0:OA)(o3b o3o r4b r4o:Nat):WP:=jn 20 (Xw jn Q) ((.p c0)::us 2 ((pq o3b o3o)::(pq r4b r4o)::us 49 []))
def U9(m3:Nat)(c0:OA)(o3b o3o r4b r4o:Nat)(t21:Sl)(t22 t23:Int):WP:=CQ PR Jv jn (bE Tryz.f36 [1,1,0,1,0,0]) (A8 0 (Ayx jn Q) A6) (rE Tryz.f36 Q) m3 ((.p c0)::us 2 ((pq o3b o3o)::(pq r4b r4o)::us 16 ((.l t21.a t21.n t21.c)::(.i t22)::(.i t23)::us 30 [])))
def Xv:EW:=cE Tryz.f36 Jv jn Q [1,1] (rE Tryz.f36 Q) A6
def Ayy(c0:OA)(o3b o3o r4b r4o:Nat):WP:=jn 8 (Xv jn Q) ((.p c0)::us 2 ((pq o3b o3o)::(pq r4b r4o)::us 49 []))
def Xu:EW:=cE Tryz.f36 Jv jn Q [1,0,1] (Ayw jn Q) A6
def Z3(c0:OA)(o3b o3o r4b r4o:Nat)(t16:Bool):WP:=jn 6 (Xu jn Q) ((.p c0)::us 2 ((pq o3b o3o)::(pq r4b r4o)::us 11 ((.b t16)::us 37 [])))
def Amv:KP:=⟨[(12,[0,1,2])],[]⟩
def Xz:EW:=cE Tryz.f48 Amv jn Q [1,1] (rE Tryz.f48 Q) A6
def Ay0(kind0 hold1:Int)(t2:OA):WP:=jn 12 (Xz jn Q) ((.i kind0)::(.i hold1)::(.p t2)::us 23 [])
def Ay1:KP:=⟨[],[(1,[0,1,2,3,4,5,6,7,9,11,13])]⟩
def Pj:KP:=⟨[(8,[0,1]),(11,[1,21,22]),(18,[])],[]⟩
def Ay2:EW:=sE Tryz.f52 Pj jn Q [1,1,1] (rE Tryz.f52 Q) A6
def XA:EW:=cE Tryz.f52 Pj jn Q [1,1,1] (rE Tryz.f52 Q) A6
def Ay4:WP:=jn 18 (XA jn Q) (us 29 [])
def ZA(m2:Nat)(key1:BA)(t21_0 t21_1 t21_2 t21_3 t21_4:OA)(t22:Int):WP:=CQ PR Pj jn (bE Tryz.f52 [1,1,0,1,0,0]) (A8 0 (Ay2 jn Q) A6) (rE Tryz.f52 Q) m2 (us 1 ((.s key1)::us 19 ((.agg #[.p t21_0,.p t21_1,.p t21_2,.p t21_3,.p t21_4])::(.i t22)::us 6 [])))
def X0:EW:=cE Tryz.f52 Pj jn Q [1,1] (rE Tryz.f52 Q) A6
def Ay3(p0:OA)(key1:BA):WP:=jn 8 (X0 jn Q) ((.p p0)::(.s key1)::us 27 [])
def UF:KP:=⟨[(20,[0,1,2,3,4,14,57]),(26,[0,1,2,3,4,14])],[(8,[0,1,2,4,6,7,8,9,10,12,13,14,15,17,18])]⟩
def Auh:EW:=sE Tryz.f53 UF jn Q [1,1,1,1,1,1] (rE Tryz.f53 Q) A6
def XC:EW:=cE Tryz.f53 UF jn Q [1,1,1,1,1,1] (rE Tryz.f53 Q) A6
def Ay5(s0:OA)(key1 val2:BA)(now3 life4:Int)(gone14:Sl):WP:=jn 26 (XC jn Q) ((.p s0)::(.s key1)::(.s val2)::(.i now3)::(.i life4)::us 9 ((.l gone14.a gone14.n gone14.c)::us 90 []))
def XB:EW:=cE Tryz.f53 UF jn Q [1,1,1,1,1,0,1] (Auh jn Q) A6
def UE(s0:OA)(key1 val2:BA)(now3 life4:Int)(gone14:Sl)(t57:Bool):WP:=jn 20 (XB jn Q) ((.p s0)::(.s key1)::(.s val2)::(.i now3)::(.i life4)::us 9 ((.l gone14.a gone14.n gone14.c)::us 42 ((.b t57)::us 47 [])))
def Pk:KP:=⟨[(8,[0,1]),(13,[0,1,5,20,21,22]),(20,[5])],[]⟩
def Ay6:EW:=sE Tryz.f55 Pk jn Q [1,1,1,1] (rE Tryz.f55 Q) A6
def XE:EW:=cE Tryz.f55 Pk jn Q [1,1,1,1] (rE Tryz.f55 Q) A6
def Ay8(gone5:Sl):WP:=jn 20 (XE jn Q) (us 5 ((.l gone5.a gone5.n gone5.c)::us 28 []))
def UG(m2:Nat)(s0:OA)(now1:Int)(gone5 t20:Sl)(t21 t22:Int):WP:=CQ PR Pk jn (bE Tryz.f55 [1,1,1,0,1,0,0]) (A8 0 (Ay6 jn Q) A6) (rE Tryz.f55 Q) m2 ((.p s0)::(.i now1)::us 3 ((.l gone5.a gone5.n gone5.c)::us 14 ((.l t20.a t20.n t20.c)::(.i t21)::(.i t22)::us 11 [])))
def XD:EW:=cE Tryz.f55 Pk jn Q [1,1] (rE Tryz.f55 Q) A6
def Ay7(s0:OA)(now1:Int):WP:=jn 8 (XD jn Q) ((.p s0)::(.i now1)::us 32 [])
def Amw:KP:=⟨[(24,[0,8])],[(3,[0,1,2,3,4,6,8,9]),(4,[0,1,2,3,4,5,6,10]),(11,[0,1,2,3,4,5,6,8])]⟩
def XF:EW:=cE Tryz.f58 Amw jn Q [1,1,1,1,1] (rE Tryz.f58 Q) A6
def ZF(c0:OA)(pick8:Int):WP:=jn 24 (XF jn Q) ((.p c0)::us 7 ((.i pick8)::us 72 []))
def UH:KP:=⟨[(11,[2,3,13,14]),(20,[2,3])],[(7,[0,1,2,3,4,5,7])]⟩
def Ay9:EW:=sE Tryz.f59 UH jn Q [1,1,1] (rE Tryz.f59 Q) A6
def XG:EW:=cE Tryz.f59 UH jn Q [1,1,1] (rE Tryz.f59 Q) A6
def Aza(ghosts2b ghosts2o:Nat)(all3:Int):WP:=jn 20 (XG jn Q) (us 2 ((pq ghosts2b ghosts2o)::(.i all3)::us 25 []))
def ZI(m1:Nat)(ghosts2b ghosts2o:Nat)(all3:Int)(t13_0 t13_1 t13_2 t13_3 t13_4:OA)(t14:Int):WP:=CQ PR UH jn (bE Tryz.f59 [1,1,0,1,0,0]) (A8 0 (Ay9 jn Q) A6) (rE Tryz.f59 Q) m1 (us 2 ((pq ghosts2b ghosts2o)::(.i all3)::us 9 ((.agg #[.p t13_0,.p t13_1,.p t13_2,.p t13_3,.p t13_4])::(.i t14)::us 14 [])))
def Am1:KP:=⟨[(5,[1,9,10,11])],[]⟩
def UI(m1:Nat)(kind1:Int)(t9:Sl)(t10 t11:Int):WP:=CQ PR Am1 jn (bE Tryz.f60 [1,0,0]) (A8 0 (rE Tryz.f60 Q) A6) (rE Tryz.f60 Q) m1 (us 1 ((.i kind1)::us 7 ((.l t9.a t9.n t9.c)::(.i t10)::(.i t11)::us 7 [])))
def XH:EW:=cE Tryz.f63 Ld jn Q [1,1] (rE Tryz.f63 Q) A6
def Azd(s0:OA)(room1:Int):WP:=jn 8 (XH jn Q) ((.p s0)::(.i room1)::us 24 [])
def Am2:KP:=⟨[(9,[0,16])],[(5,[0,1,2,3,4,5,8,9,10,11,12,13])]⟩
def ZK(m1:Nat)(p0:OA)(t16:Int):WP:=CQ PR Am2 jn (bE Tryz.f64 [1,1,1,0,0]) (A8 0 (rE Tryz.f64 Q) A6) (rE Tryz.f64 Q) m1 ((.p p0)::us 15 ((.i t16)::us 17 []))
def UJ:KP:=⟨[(13,[3,11,12,13]),(22,[3])],[]⟩
def Aze:EW:=sE Tryz.f71 UJ jn Q [1,1,1,1] (rE Tryz.f71 Q) A6
def XI:EW:=cE Tryz.f71 UJ jn Q [1,1,1,1] (rE Tryz.f71 Q) A6
def Azf(l3:Sl):WP:=jn 22 (XI jn Q) (us 3 ((.l l3.a l3.n l3.c)::us 25 []))
def Pp(m1:Nat)(l3 t11:Sl)(t12 t13:Int):WP:=CQ PR UJ jn (bE Tryz.f71 [1,1,1,0,1,0,0]) (A8 0 (Aze jn Q) A6) (rE Tryz.f71 Q) m1 (us 3 ((.l l3.a l3.n l3.c)::us 7 ((.l t11.a t11.n t11.c)::(.i t12)::(.i t13)::us 15 [])))
end
variable{jn:Jn}{Q:VW}{c0 s0 p0 c9 t0 m0 t2 x0:OA}{o1_0 o1_3 room1 i11 t22 kind0 now3 life4 now1 kind1 f0_0 f0_1 f0_2 f0_3 f0_4 f0_5 f0_6 i3 c0_0 c0_1 c0_2 c0_3 c0_4 c0_5 c0_6 t10 i1 rate0 room0 hold1 now2 all3:Int}{o1_1 o1_2 key1 key3 val2:BA}{o3b o3o r4b r4o m1 m2 t4b t4o c1b c1o kinds5b kinds5o x4b x4o m3 ghosts2b ghosts2o:Nat}{more2 l1 l0 f0_7 c0_7 all5 gone14 gone5 l3:Sl}
theorem Afi:Acz jn Q m2 (us 2 ((.l more2.a more2.n more2.c)::(.s key3)::us 5 ((.p c9)::us 1 ((.i i11)::us 75 []))))=(C7 more2.a more2.n i11 λB36 O37=>Ay B36 (O37+i11.toNat*4) λX38=>BQ B36 ((O37+i11.toNat*4)+1) λX39=>BQ B36 (((O37+i11.toNat*4)+1)+1) λX40=>Ay B36 ((((O37+i11.toNat*4)+1)+1)+1) λX41=>λw=>Calls PR 15 #[.p c9,.agg #[.i X38,.s X39,.s X40,.i X41]] w λe w'=>∃X42:Int,∃X43:Bool,∃X44:BA,∃X45:Sl,e = .returned (.agg #[.i X42,.b X43,.s X44,.l X45.a X45.n X45.c])/\(
 λw=>Calls PR 15 #[.p c9,.agg #[.i 1,.s key3,.s Ae,.i 0]] w λe w'=>∃X46:Int,∃X47:Bool,∃X48:BA,∃X49:Sl,e = .returned (.agg #[.i X46,.b X47,.s X48,.l X49.a X49.n X49.c])/\(Aj X47 (Q (.b false)) (SF jn Q m2 more2 key3 c9 (IntKind.wrap .i64 (i11+1)))) w') w'):=by kernel_rfl
theorem Afh:Acy jn Q m2 (us 2 ((.l more2.a more2.n more2.c)::(.s key3)::us 5 ((.p c9)::us 1 ((.i i11)::us 75 []))))=(C7 more2.a more2.n i11 λB30 O31=>Ay B30 (O31+i11.toNat*4) λX32=>Aj (X32==2) (C7 more2.a more2.n i11 λB33 O34=>BQ B33 ((O34+i11.toNat*4)+1) λX35=>Aj (sEq X35 key3) (SF jn Q m2 more2 key3 c9 (IntKind.wrap .i64 (i11+1))) (Amz jn Q m2 more2 key3 c9 i11)) (Amz jn Q m2 more2 key3 c9 i11)):=by kernel_rfl
theorem Afj:Ac0 jn Q (us 87 [])=(Dw 12 [] λX50=>Q (.b X50)):=by kernel_rfl
theorem SG:SF jn Q (m2+1) more2 key3 c9 i11=(Aj (decide (i11<(more2.n:Int))) (Aj (decide (i11<150)) (A1s jn Q m2 more2 key3 c9 i11) (Am0 jn Q)) (Am0 jn Q)):=by kernel_rfl
theorem Afg{f4_b f4_o:Nat}:Acx jn Q (us 1 ((.l l1.a l1.n l1.c)::(.l more2.a more2.n more2.c)::(.s key3)::(pq f4_b f4_o)::us 82 []))=(Ay f4_b f4_o λX13=>Ay f4_b (f4_o+1) λX14=>Ay f4_b ((f4_o+1)+1) λX15=>Ay f4_b (((f4_o+1)+1)+1) λX16=>Ay f4_b ((((f4_o+1)+1)+1)+1) λX17=>Ay f4_b (((((f4_o+1)+1)+1)+1)+1) λX18=>Ay f4_b ((((((f4_o+1)+1)+1)+1)+1)+1) λX19=>AZ f4_b (((((((f4_o+1)+1)+1)+1)+1)+1)+1) λX20=>Gb .ptr .bool PR 13 [.agg #[.i X13,.i X14,.i X15,.i X16,.i X17,.i X18,.i X19,.l X20.a X20.n X20.c]] λ(X21:OA)(X22:Bool)=>
 Aj (!X22) (Dw 12 [] λX23=>Q (.b X23)) (AY ((0:Int)<=(if (150:Int)<(l1.n:Int) then (150:Int) else (l1.n:Int))/\(if (150:Int)<(l1.n:Int) then (150:Int) else (l1.n:Int))<=(l1.c:Int))<|FI 14 [.p X21,.l (Hk l1.a 0 l1.c 4) (((if 150<(l1.n:Int) then 150 else (l1.n:Int))).toNat-0) (l1.c-0)] λX24=>λw=>Calls PR 15 #[.p X21,.agg #[.i 3,.s key3,.s Ae,.i 0]] w λe w'=>∃X25:Int,∃X26:Bool,∃X27:BA,∃X28:Sl,e = .returned (.agg #[.i X25,.b X26,.s X27,.l X28.a X28.n X28.c])/\(Aj (X25 != 0) (Dw 12 [] λX29=>Q (.b X29)) (
 DF λm=>SF jn Q m more2 key3 X21 0)) w')):=by kernel_rfl
theorem Azc:Av jn PR Kq Tryz.f5 [.agg #[.i f0_0,.i f0_1,.i f0_2,.i f0_3,.i f0_4,.i f0_5,.i f0_6,.l f0_7.a f0_7.n f0_7.c],.l l1.a l1.n l1.c,.l more2.a more2.n more2.c,.s key3] Q=(A1 [.i f0_0,.i f0_1,.i f0_2,.i f0_3,.i f0_4,.i f0_5,.i f0_6,.l f0_7.a f0_7.n f0_7.c] 24 λB1=>Dw 9 [.l l1.a l1.n l1.c] λX2=>Aj X2 (Q (.b true)) (Dw 9 [.l more2.a more2.n more2.c] λX3=>Aj X3 (Q (.b true)) (Ay B1 0 λX4=>
 Ay B1 1 λX5=>Ay B1 2 λX6=>Ay B1 3 λX7=>Ay B1 4 λX8=>Ay B1 5 λX9=>Ay B1 6 λX10=>AZ B1 7 λX11=>Dw 10 [.agg #[.i X4,.i X5,.i X6,.i X7,.i X8,.i X9,.i X10,.l X11.a X11.n X11.c]] λX12=>Aj (!X12) (Q (.b true)) (Aj (decide ((key3.size:Int)>40)) (Q (.b true)) (A1r jn Q l1 more2 key3 B1 0))))):=by kernel_rfl
theorem Afk:Ac2 jn Q m1 ((.l l0.a l0.n l0.c)::us 2 ((.i i3)::us 26 []))=(C7 l0.a l0.n i3 λB1 O2=>BQ B1 ((O2+i3.toNat*4)+1) λX3=>Aj (decide ((X3.size:Int)>40)) (Q (.b true)) (C7 l0.a l0.n i3 λB4 O5=>BQ B4 ((O5+i3.toNat*4)+2) λX6=>Aj (decide ((X6.size:Int)>100)) (Q (.b true)) (Ac4 jn Q m1 l0 (IntKind.wrap .i64 (i3+1))))):=by kernel_rfl
theorem IF:Ac3 jn Q (us 30 [])=(Q (.b false)):=by kernel_rfl
theorem SI:Ac4 jn Q (m1+1) l0 i3=(Aj (decide (i3<(l0.n:Int))) (Aj (decide (i3<150)) (A1u jn Q m1 l0 i3) (Axk jn Q)) (Axk jn Q)):=by kernel_rfl
theorem Azs:Av jn PR SH Tryz.f9 [.l l0.a l0.n l0.c] Q=(DF λm=>Ac4 jn Q m l0 0):=by kernel_rfl
theorem Aqj:Av jn PR Aw Tryz.f10 [.agg #[.i c0_0,.i c0_1,.i c0_2,.i c0_3,.i c0_4,.i c0_5,.i c0_6,.l c0_7.a c0_7.n c0_7.c]] Q=(A1 [.i c0_0,.i c0_1,.i c0_2,.i c0_3,.i c0_4,.i c0_5,.i c0_6,.l c0_7.a c0_7.n c0_7.c] 24 λB1=>Ay B1 1 λX2=>Aj (decide (X2<=64)) (Ay B1 2 λX3=>Aj (decide (X3<=64)) (Ay B1 3 λX4=>Aj (decide (X4<=64)) (AZ B1 7 λX5=>Q (.b (decide ((X5.n:Int)<=100)))) (Q (.b false))) (Q (.b false))) (
 Q (.b false))):=by kernel_rfl
theorem Zr{c1:OA}:Wk jn Q (us 1 ((.p c1)::us 31 []))=(λw=>Calls PR 15 #[.p c1,.agg #[.i 2,.s QE,.s QF,.i 0]] w λe w'=>∃X3:Int,∃X4:Bool,∃X5:BA,∃X6:Sl,e = .returned (.agg #[.i X3,.b X4,.s X5,.l X6.a X6.n X6.c])/\(λw=>Calls PR 15 #[.p c1,.agg #[.i 1,.s QE,.s Ae,.i 0]] w λe w'=>∃X7:Int,∃X8:Bool,∃X9:BA,∃X10:Sl,e = .returned (.agg #[.i X7,.b X8,.s X9,.l X10.a X10.n X10.c])/\(A1 [.i 0,.b false,.s Ae,.l none 0 0] 38 λB11=>st B11 0 (.i X7)<|st B11 1 (.b X8)<|st B11 2 (.s X9)<|
 st B11 3 (.l X10.a X10.n X10.c)<|HT B11 1 λX12=>Aj X12 (BQ B11 2 λX13=>Aj (sEq X13 QF) (Ay B11 0 λX14=>Q (.b (X14==0))) (Q (.b false))) (Q (.b false))) w') w'):=by kernel_rfl
theorem Aqt:Av jn PR Aiw Tryz.f12 [] Q=(Abj 27 [.agg #[.i 1,.i 2,.i 2,.i 2,.i 0,.i 1,.i 0,.l none 0 0]] λX1 X2=>Aj (X2 != 0) (Q (.b false)) (Aj (Option.isNone X1) (Q (.b false)) (Ayg jn Q X1))):=by kernel_rfl
theorem Aqy:Av jn PR Aw Tryz.f13 [.agg #[.i f0_0,.i f0_1,.i f0_2,.i f0_3,.i f0_4,.i f0_5,.i f0_6,.l f0_7.a f0_7.n f0_7.c]] Q=(A1 [.i f0_0,.i f0_1,.i f0_2,.i f0_3,.i f0_4,.i f0_5,.i f0_6,.l f0_7.a f0_7.n f0_7.c] 24 λB1=>Ay B1 0 λX2=>Ay B1 1 λX3=>Ay B1 2 λX4=>Ay B1 3 λX5=>Ay B1 4 λX6=>Ay B1 5 λX7=>Ay B1 6 λX8=>AZ B1 7 λX9=>Abj 27 [.agg #[.i X2,.i X3,.i X4,.i X5,.i X6,.i X7,.i X8,.l X9.a X9.n X9.c]] λX10 X11=>
 Aj (X11 != 0) (Q (.tuple #[.p none,.b false])) (Q (.tuple #[.p X10,.b true]))):=by kernel_rfl
theorem Zs:Wt jn Q (us 5 ((.l all5.a all5.n all5.c)::us 16 []))=(Q (.l all5.a all5.n all5.c)):=by kernel_rfl
theorem Pd{t8:Sl}{t9:Int}:TY jn Q (m1+1) c0 all5 t8 t9 t10=(Aj (decide (t10<t9)) (C7 t8.a t8.n t10 λB1 O2=>Ay B1 (O2+t10.toNat*4) λX3=>BQ B1 ((O2+t10.toNat*4)+1) λX4=>BQ B1 (((O2+t10.toNat*4)+1)+1) λX5=>Ay B1 ((((O2+t10.toNat*4)+1)+1)+1) λX6=>A1 [.i 0,.s Ae,.s Ae,.i 0] 41 λB7=>st B7 0 (.i X3)<|st B7 1 (.s X4)<|st B7 2 (.s X5)<|st B7 3 (.i X6)<|Ay B7 0 λX8=>BQ B7 1 λX9=>BQ B7 2 λX10=>Ay B7 3 λX11=>λw=>Calls PR 15 #[.p c0,.agg #[.i X8,.s X9,.s X10,.i X11]] w λe w'=>∃X12:Int,∃X13:Bool,∃X14:BA,∃X15:Sl,e = .returned (.agg #[.i X12,.b X13,.s X14,.l X15.a X15.n X15.c])/\(
 A1 [.i X12,.b X13,.s X14,.l X15.a X15.n X15.c] 38 λB16=>Bt 38 4 56 [.i 0,.b false,.s Ae,.l none 0 0] ⟨all5.a,all5.n,all5.c⟩ 1 (λw=>HF w (some ⟨B16,0,none⟩) (1*4)) λG17=>TY jn Q m1 c0 G17 t8 t9 (IntKind.wrap .i64 (t10+1))) w') (Ayi jn Q all5)):=by kernel_rfl
theorem Aq7:Av jn PR TX Tryz.f14 [.p c0,.l l1.a l1.n l1.c] Q=(DF λm=>TY jn Q m c0 ⟨none,0,0⟩ l1 (l1.n:Int) 0):=by kernel_rfl
theorem Zt:W1 jn Q ((.p c0)::us 2 ((pq o3b o3o)::(pq t4b t4o)::(pq kinds5b kinds5o)::us 27 []))=(A5 λS=>Er S o3b o3o λX13=>AY ((0:Int)<=X13/\X13<((10:Nat):Int))<|Az8 S kinds5b (kinds5o+X13.toNat*1) (Ay o3b o3o λX14=>BQ o3b (o3o+1) λX15=>BQ o3b ((o3o+1)+1) λX16=>Ay o3b (((o3o+1)+1)+1) λX17=>Aq true S<|C9) [
 (15,
 Ay o3b o3o λX18=>BQ o3b (o3o+1) λX19=>BQ o3b ((o3o+1)+1) λX20=>Ay o3b (((o3o+1)+1)+1) λX21=>Aq true S<|λw=>Calls PR 15 #[.p c0,.agg #[.i X18,.s X19,.s X20,.i X21]] w λe w'=>∃X22:Int,∃X23:Bool,∃X24:BA,∃X25:Sl,e = .returned (.agg #[.i X22,.b X23,.s X24,.l X25.a X25.n X25.c])/\(st t4b t4o (.i X22)<|st t4b (t4o+1) (.b X23)<|st t4b ((t4o+1)+1) (.s X24)<|st t4b (((t4o+1)+1)+1) (.l X25.a X25.n X25.c)<|Ay t4b t4o λX26=>HT t4b (t4o+1) λX27=>BQ t4b ((t4o+1)+1) λX28=>AZ t4b (((t4o+1)+1)+1) λX29=>
 Q (.agg #[.i X26,.b X27,.s X28,.l X29.a X29.n X29.c])) w'),
 (28,
 Ay o3b o3o λX30=>BQ o3b (o3o+1) λX31=>BQ o3b ((o3o+1)+1) λX32=>Ay o3b (((o3o+1)+1)+1) λX33=>Aq true S<|λw=>Calls PR 28 #[.p c0,.agg #[.i X30,.s X31,.s X32,.i X33]] w λe w'=>∃X34:Int,∃X35:Bool,∃X36:BA,∃X37:Sl,e = .returned (.agg #[.i X34,.b X35,.s X36,.l X37.a X37.n X37.c])/\(st t4b t4o (.i X34)<|st t4b (t4o+1) (.b X35)<|st t4b ((t4o+1)+1) (.s X36)<|st t4b (((t4o+1)+1)+1) (.l X37.a X37.n X37.c)<|Ay t4b t4o λX38=>HT t4b (t4o+1) λX39=>BQ t4b ((t4o+1)+1) λX40=>AZ t4b (((t4o+1)+1)+1) λX41=>
 Q (.agg #[.i X38,.b X39,.s X40,.l X41.a X41.n X41.c])) w'),
 (29,
 Ay o3b o3o λX42=>BQ o3b (o3o+1) λX43=>BQ o3b ((o3o+1)+1) λX44=>Ay o3b (((o3o+1)+1)+1) λX45=>Aq true S<|λw=>Calls PR 29 #[.p c0,.agg #[.i X42,.s X43,.s X44,.i X45]] w λe w'=>∃X46:Int,∃X47:Bool,∃X48:BA,∃X49:Sl,e = .returned (.agg #[.i X46,.b X47,.s X48,.l X49.a X49.n X49.c])/\(st t4b t4o (.i X46)<|st t4b (t4o+1) (.b X47)<|st t4b ((t4o+1)+1) (.s X48)<|st t4b (((t4o+1)+1)+1) (.l X49.a X49.n X49.c)<|Ay t4b t4o λX50=>HT t4b (t4o+1) λX51=>BQ t4b ((t4o+1)+1) λX52=>AZ t4b (((t4o+1)+1)+1) λX53=>
 Q (.agg #[.i X50,.b X51,.s X52,.l X53.a X53.n X53.c])) w'),
 (30,
 Ay o3b o3o λX54=>BQ o3b (o3o+1) λX55=>BQ o3b ((o3o+1)+1) λX56=>Ay o3b (((o3o+1)+1)+1) λX57=>Aq true S<|λw=>Calls PR 30 #[.p c0,.agg #[.i X54,.s X55,.s X56,.i X57]] w λe w'=>∃X58:Int,∃X59:Bool,∃X60:BA,∃X61:Sl,e = .returned (.agg #[.i X58,.b X59,.s X60,.l X61.a X61.n X61.c])/\(st t4b t4o (.i X58)<|st t4b (t4o+1) (.b X59)<|st t4b ((t4o+1)+1) (.s X60)<|st t4b (((t4o+1)+1)+1) (.l X61.a X61.n X61.c)<|Ay t4b t4o λX62=>HT t4b (t4o+1) λX63=>BQ t4b ((t4o+1)+1) λX64=>AZ t4b (((t4o+1)+1)+1) λX65=>
 Q (.agg #[.i X62,.b X63,.s X64,.l X65.a X65.n X65.c])) w'),
 (31,
 Ay o3b o3o λX66=>BQ o3b (o3o+1) λX67=>BQ o3b ((o3o+1)+1) λX68=>Ay o3b (((o3o+1)+1)+1) λX69=>Aq true S<|λw=>Calls PR 31 #[.p c0,.agg #[.i X66,.s X67,.s X68,.i X69]] w λe w'=>∃X70:Int,∃X71:Bool,∃X72:BA,∃X73:Sl,e = .returned (.agg #[.i X70,.b X71,.s X72,.l X73.a X73.n X73.c])/\(st t4b t4o (.i X70)<|st t4b (t4o+1) (.b X71)<|st t4b ((t4o+1)+1) (.s X72)<|st t4b (((t4o+1)+1)+1) (.l X73.a X73.n X73.c)<|Ay t4b t4o λX74=>HT t4b (t4o+1) λX75=>BQ t4b ((t4o+1)+1) λX76=>AZ t4b (((t4o+1)+1)+1) λX77=>
 Q (.agg #[.i X74,.b X75,.s X76,.l X77.a X77.n X77.c])) w'),
 (32,
 Ay o3b o3o λX78=>BQ o3b (o3o+1) λX79=>BQ o3b ((o3o+1)+1) λX80=>Ay o3b (((o3o+1)+1)+1) λX81=>Aq true S<|λw=>Calls PR 32 #[.p c0,.agg #[.i X78,.s X79,.s X80,.i X81]] w λe w'=>∃X82:Int,∃X83:Bool,∃X84:BA,∃X85:Sl,e = .returned (.agg #[.i X82,.b X83,.s X84,.l X85.a X85.n X85.c])/\(st t4b t4o (.i X82)<|st t4b (t4o+1) (.b X83)<|st t4b ((t4o+1)+1) (.s X84)<|st t4b (((t4o+1)+1)+1) (.l X85.a X85.n X85.c)<|Ay t4b t4o λX86=>HT t4b (t4o+1) λX87=>BQ t4b ((t4o+1)+1) λX88=>AZ t4b (((t4o+1)+1)+1) λX89=>
 Q (.agg #[.i X86,.b X87,.s X88,.l X89.a X89.n X89.c])) w'),
 (33,
 Ay o3b o3o λX90=>BQ o3b (o3o+1) λX91=>BQ o3b ((o3o+1)+1) λX92=>Ay o3b (((o3o+1)+1)+1) λX93=>Aq true S<|λw=>Calls PR 33 #[.p c0,.agg #[.i X90,.s X91,.s X92,.i X93]] w λe w'=>∃X94:Int,∃X95:Bool,∃X96:BA,∃X97:Sl,e = .returned (.agg #[.i X94,.b X95,.s X96,.l X97.a X97.n X97.c])/\(st t4b t4o (.i X94)<|st t4b (t4o+1) (.b X95)<|st t4b ((t4o+1)+1) (.s X96)<|st t4b (((t4o+1)+1)+1) (.l X97.a X97.n X97.c)<|Ay t4b t4o λX98=>HT t4b (t4o+1) λX99=>BQ t4b ((t4o+1)+1) λX100=>AZ t4b (((t4o+1)+1)+1) λX101=>
 Q (.agg #[.i X98,.b X99,.s X100,.l X101.a X101.n X101.c])) w'),
 (34,
 Ay o3b o3o λX102=>BQ o3b (o3o+1) λX103=>BQ o3b ((o3o+1)+1) λX104=>Ay o3b (((o3o+1)+1)+1) λX105=>Aq true S<|λw=>Calls PR 34 #[.p c0,.agg #[.i X102,.s X103,.s X104,.i X105]] w λe w'=>∃X106:Int,∃X107:Bool,∃X108:BA,∃X109:Sl,e = .returned (.agg #[.i X106,.b X107,.s X108,.l X109.a X109.n X109.c])/\(st t4b t4o (.i X106)<|st t4b (t4o+1) (.b X107)<|st t4b ((t4o+1)+1) (.s X108)<|st t4b (((t4o+1)+1)+1) (.l X109.a X109.n X109.c)<|Ay t4b t4o λX110=>HT t4b (t4o+1) λX111=>BQ t4b ((t4o+1)+1) λX112=>
 AZ t4b (((t4o+1)+1)+1) λX113=>Q (.agg #[.i X110,.b X111,.s X112,.l X113.a X113.n X113.c])) w'),
 (35,
 Ay o3b o3o λX114=>BQ o3b (o3o+1) λX115=>BQ o3b ((o3o+1)+1) λX116=>Ay o3b (((o3o+1)+1)+1) λX117=>Aq true S<|λw=>Calls PR 35 #[.p c0,.agg #[.i X114,.s X115,.s X116,.i X117]] w λe w'=>∃X118:Int,∃X119:Bool,∃X120:BA,∃X121:Sl,e = .returned (.agg #[.i X118,.b X119,.s X120,.l X121.a X121.n X121.c])/\(st t4b t4o (.i X118)<|st t4b (t4o+1) (.b X119)<|st t4b ((t4o+1)+1) (.s X120)<|st t4b (((t4o+1)+1)+1) (.l X121.a X121.n X121.c)<|Ay t4b t4o λX122=>HT t4b (t4o+1) λX123=>BQ t4b ((t4o+1)+1) λX124=>
 AZ t4b (((t4o+1)+1)+1) λX125=>Q (.agg #[.i X122,.b X123,.s X124,.l X125.a X125.n X125.c])) w'),
 (36,
 Ay o3b o3o λX126=>BQ o3b (o3o+1) λX127=>BQ o3b ((o3o+1)+1) λX128=>Ay o3b (((o3o+1)+1)+1) λX129=>Aq true S<|λw=>Calls PR 36 #[.p c0,.agg #[.i X126,.s X127,.s X128,.i X129]] w λe w'=>∃X130:Int,∃X131:Bool,∃X132:BA,∃X133:Sl,e = .returned (.agg #[.i X130,.b X131,.s X132,.l X133.a X133.n X133.c])/\(st t4b t4o (.i X130)<|st t4b (t4o+1) (.b X131)<|st t4b ((t4o+1)+1) (.s X132)<|st t4b (((t4o+1)+1)+1) (.l X133.a X133.n X133.c)<|Ay t4b t4o λX134=>HT t4b (t4o+1) λX135=>BQ t4b ((t4o+1)+1) λX136=>
 AZ t4b (((t4o+1)+1)+1) λX137=>Q (.agg #[.i X134,.b X135,.s X136,.l X137.a X137.n X137.c])) w')]):=by kernel_rfl
theorem Pe{t24:Bool}:Wz jn Q ((.p c0)::us 2 ((pq o3b o3o)::(pq t4b t4o)::(pq kinds5b kinds5o)::us 18 ((.b t24)::us 8 [])))=(Aj t24 (st t4b t4o (.i 7)<|st t4b (t4o+1) (.b false)<|st t4b ((t4o+1)+1) (.s Ae)<|st t4b (((t4o+1)+1)+1) (.l none 0 0)<|Ay t4b t4o λX9=>HT t4b (t4o+1) λX10=>BQ t4b ((t4o+1)+1) λX11=>AZ t4b (((t4o+1)+1)+1) λX12=>Q (.agg #[.i X9,.b X10,.s X11,.l X12.a X12.n X12.c])) (Ayk jn Q c0 o3b o3o t4b t4o kinds5b kinds5o)):=by kernel_rfl
theorem Aq9:Av jn PR Ue Tryz.f15 [.p c0,.agg #[.i o1_0,.s o1_1,.s o1_2,.i o1_3]] Q=(A1 [.i o1_0,.s o1_1,.s o1_2,.i o1_3] 41 λB1=>A1 [.i 0,.b false,.s Ae,.l none 0 0] 38 λB2=>Aj (Option.isNone c0) (st B2 0 (.i 1)<|st B2 1 (.b false)<|st B2 2 (.s Ae)<|st B2 3 (.l none 0 0)<|Ay B2 0 λX3=>HT B2 1 λX4=>BQ B2 2 λX5=>AZ B2 3 λX6=>Q (.agg #[.i X3,.b X4,.s X5,.l X6.a X6.n X6.c])) (A1 [.nilFunc,.nilFunc,.nilFunc,.nilFunc,.nilFunc,.nilFunc,.nilFunc,.nilFunc,.nilFunc,.nilFunc] 64 λB7=>
 st B7 0 .nilFunc<|st B7 1 (.func (.func 28) #[] #[])<|st B7 2 (.func (.func 29) #[] #[])<|st B7 3 (.func (.func 30) #[] #[])<|st B7 4 (.func (.func 31) #[] #[])<|st B7 5 (.func (.func 32) #[] #[])<|st B7 6 (.func (.func 33) #[] #[])<|st B7 7 (.func (.func 34) #[] #[])<|st B7 8 (.func (.func 35) #[] #[])<|st B7 9 (.func (.func 36) #[] #[])<|Ay B1 0 λX8=>Aj (decide (X8<0)) (Ei jn Q c0 B1 0 B2 0 B7 0 true) (Ay B1 0 λX138=>Aj (decide (X138>=10)) (Ei jn Q c0 B1 0 B2 0 B7 0 true) (Ay B1 0 λX139=>AY ((0:Int)<=X139/\X139<((10:Nat):Int))<|ldV B7 (0+X139.toNat*1) (Ei jn Q c0 B1 0 B2 0 B7 0 true) [
 (15,
 Ei jn Q c0 B1 0 B2 0 B7 0 false),
 (28,
 Ei jn Q c0 B1 0 B2 0 B7 0 false),
 (29,
 Ei jn Q c0 B1 0 B2 0 B7 0 false),
 (30,
 Ei jn Q c0 B1 0 B2 0 B7 0 false),
 (31,
 Ei jn Q c0 B1 0 B2 0 B7 0 false),
 (32,
 Ei jn Q c0 B1 0 B2 0 B7 0 false),
 (33,
 Ei jn Q c0 B1 0 B2 0 B7 0 false),
 (34,
 Ei jn Q c0 B1 0 B2 0 B7 0 false),
 (35,
 Ei jn Q c0 B1 0 B2 0 B7 0 false),
 (36,
 Ei jn Q c0 B1 0 B2 0 B7 0 false)])))):=by kernel_rfl
theorem Zu:WA jn Q ((.p c0)::(.i i1)::us 25 [])=(Ad c0 λB4 O5=>AZ B4 O5 λX6=>C7 X6.a X6.n i1 λB7 O8=>Bs B7 (O8+i1.toNat*1) λX9=>Q (.p X9)):=by kernel_rfl
theorem Arr:Av jn PR Ld Tryz.f19 [.p c0,.i i1] Q=(Aj (Option.isNone c0) (Q (.p none)) (Aj (decide (i1<0)) (Q (.p none)) (Ad c0 λB1 O2=>AZ B1 O2 λX3=>Aj (decide (i1>=(X3.n:Int))) (Q (.p none)) (Ayl jn Q c0 i1)))):=by kernel_rfl
theorem Zw:WR jn Q (us 1 ((pq c1b c1o)::us 2 ((pq x4b x4o)::us 91 [])))=(A5 λS=>Er S c1b (c1o+6) λX27=>Er S c1b (c1o+5) λX28=>AZ c1b (c1o+7) λX29=>Aq true S<|JP 49 [.l X29.a X29.n X29.c] λX30=>Aq true S<|Abj 48 [.i X27,.i X28,.p X30] λX31 X32=>Aj (X32 != 0) (Q (.tuple #[.p none,.i X32])) (Ad (some ⟨x4b,x4o,none⟩) λB33 O34=>st B33 (O34+2) (.p X31)<|Q (.tuple #[pq x4b x4o,.i 0]))):=by kernel_rfl
theorem Pg{t48 t49:Int}:Ut jn Q (m2+1) c1b c1o x4b x4o t48 t49=(Aj (decide (t49<t48)) (Ay c1b (c1o+1) λX14=>Ay c1b (c1o+2) λX15=>Ay c1b (c1o+3) λX16=>Ay c1b (c1o+6) λX17=>Abj 47 [.i X14,.i X15,.i X16,.i X17] λX18 X19=>Aj (X19 != 0) (Q (.tuple #[.p none,.i X19])) (Ad (some ⟨x4b,x4o,none⟩) λB20 O21=>AZ B20 O21 λX22=>A1 [.p X18] 50 λB23=>Bt 50 1 8 [.p none] ⟨X22.a,X22.n,X22.c⟩ 1 (λw=>HF w (some ⟨B23,0,none⟩) (1*1)) λG24=>
 Ad (some ⟨x4b,x4o,none⟩) λB25 O26=>st B25 O26 (.l G24.a G24.n G24.c)<|Ut jn Q m2 c1b c1o x4b x4o t48 (IntKind.wrap .i64 (t49+1)))) (Aku jn Q c1b c1o x4b x4o)):=by kernel_rfl
theorem Zv:WO jn Q (us 1 ((pq c1b c1o)::us 94 []))=(Ay c1b (c1o+4) λX8=>Ay c1b (c1o+1) λX9=>Ay c1b c1o λX10=>JP 46 [.i X8,.i (IntKind.wrap .i64 (X9*X10))] λX11=>A1 [.l none 0 0,.p X11,.p none,.i 0] 73 λB12=>Ay c1b c1o λX13=>DF λm=>Ut jn Q m c1b c1o B12 0 X13 0):=by kernel_rfl
theorem Asa:Av jn PR Pf Tryz.f27 [.agg #[.i c0_0,.i c0_1,.i c0_2,.i c0_3,.i c0_4,.i c0_5,.i c0_6,.l c0_7.a c0_7.n c0_7.c]] Q=(A1 [.i c0_0,.i c0_1,.i c0_2,.i c0_3,.i c0_4,.i c0_5,.i c0_6,.l c0_7.a c0_7.n c0_7.c] 24 λB1=>Ay B1 0 λX2=>Aj (decide (X2<1)) (Q (.tuple #[.p none,.i 1])) (Ay B1 0 λX3=>Aj (decide (X3>8)) (Q (.tuple #[.p none,.i 1])) (Ay B1 1 λX4=>Aj (decide (X4<1)) (Q (.tuple #[.p none,.i 1])) (
 Ay B1 1 λX5=>Aj (decide (X5>1024)) (Q (.tuple #[.p none,.i 1])) (Ay B1 4 λX6=>Aj (decide (X6<0)) (Q (.tuple #[.p none,.i 1])) (Ay B1 4 λX7=>Aj (decide (X7>16777216)) (Q (.tuple #[.p none,.i 1])) (Ayn jn Q B1 0))))))):=by kernel_rfl
theorem Asf:Av jn PR Ayo Tryz.f28 [.p c0,.agg #[.i o1_0,.s o1_1,.s o1_2,.i o1_3]] Q=(A1 [.i o1_0,.s o1_1,.s o1_2,.i o1_3] 41 λB1=>A1 [.i 0,.b false,.s Ae,.l none 0 0] 38 λB2=>A5 λS=>wLs S B1 1 λX3=>wLs S B1 1 λX4=>Ad c0 λB5 O6=>Er S B5 (O6+3) λX7=>JP 50 [.p c0,.s X3] λX8=>Aq true S<|λw=>Calls PR 51 #[.p X8,.s X4,.i X7] w λe w'=>∃X9:BA,∃X10:Bool,∃X11:Sl,∃X12:Int,e = .returned (.tuple #[.s X9,.b X10,.l X11.a X11.n X11.c,.i X12])/\(
 st B2 2 (.s X9)<|st B2 1 (.b X10)<|st B2 3 (.l X11.a X11.n X11.c)<|st B2 0 (.i X12)<|Ay B2 0 λX13=>Aj (X13==0) (A5 λS=>Ad c0 λB14 O15=>EK S B14 (O15+1) λX16=>BQ B1 1 λX17=>Aq true S<|Dw 52 [.p X16,.s X17] λX18=>Ay B2 0 λX19=>HT B2 1 λX20=>BQ B2 2 λX21=>AZ B2 3 λX22=>st B2 0 (.i X19)<|st B2 1 (.b X20)<|st B2 2 (.s X21)<|st B2 3 (.l X22.a X22.n X22.c)<|Ay B2 0 λX23=>HT B2 1 λX24=>BQ B2 2 λX25=>AZ B2 3 λX26=>Q (.agg #[.i X23,.b X24,.s X25,.l X26.a X26.n X26.c])) (
 Ay B2 0 λX27=>HT B2 1 λX28=>BQ B2 2 λX29=>AZ B2 3 λX30=>st B2 0 (.i X27)<|st B2 1 (.b X28)<|st B2 2 (.s X29)<|st B2 3 (.l X30.a X30.n X30.c)<|Ay B2 0 λX31=>HT B2 1 λX32=>BQ B2 2 λX33=>AZ B2 3 λX34=>Q (.agg #[.i X31,.b X32,.s X33,.l X34.a X34.n X34.c]))) w'):=by kernel_rfl
theorem Asj:Av jn PR Ayp Tryz.f29 [.p c0,.agg #[.i o1_0,.s o1_1,.s o1_2,.i o1_3]] Q=(A1 [.i o1_0,.s o1_1,.s o1_2,.i o1_3] 41 λB1=>A1 [.i 0,.b false,.s Ae,.l none 0 0] 38 λB2=>A5 λS=>wLs S B1 1 λX3=>wLs S B1 1 λX4=>wLs S B1 2 λX5=>Ad c0 λB6 O7=>Er S B6 (O7+3) λX8=>Er S B1 3 λX9=>JP 50 [.p c0,.s X3] λX10=>Aq true S<|Gb .slc (.int .i64) PR 53 [.p X10,.s X4,.s X5,.i X8,.i X9] λ(X11:Sl)(X12:Int)=>
 st B2 3 (.l X11.a X11.n X11.c)<|st B2 0 (.i X12)<|Ay B2 0 λX13=>Aj (X13==0) (A5 λS=>Ad c0 λB14 O15=>EK S B14 (O15+1) λX16=>BQ B1 1 λX17=>Aq true S<|Dw 52 [.p X16,.s X17] λX18=>Ay B2 0 λX19=>HT B2 1 λX20=>BQ B2 2 λX21=>AZ B2 3 λX22=>st B2 0 (.i X19)<|st B2 1 (.b X20)<|st B2 2 (.s X21)<|st B2 3 (.l X22.a X22.n X22.c)<|Ay B2 0 λX23=>HT B2 1 λX24=>BQ B2 2 λX25=>AZ B2 3 λX26=>Q (.agg #[.i X23,.b X24,.s X25,.l X26.a X26.n X26.c])) (
 Ay B2 0 λX27=>HT B2 1 λX28=>BQ B2 2 λX29=>AZ B2 3 λX30=>st B2 0 (.i X27)<|st B2 1 (.b X28)<|st B2 2 (.s X29)<|st B2 3 (.l X30.a X30.n X30.c)<|Ay B2 0 λX31=>HT B2 1 λX32=>BQ B2 2 λX33=>AZ B2 3 λX34=>Q (.agg #[.i X31,.b X32,.s X33,.l X34.a X34.n X34.c]))):=by kernel_rfl
theorem Asp:Av jn PR Ayq Tryz.f30 [.p c0,.agg #[.i o1_0,.s o1_1,.s o1_2,.i o1_3]] Q=(A1 [.i o1_0,.s o1_1,.s o1_2,.i o1_3] 41 λB1=>A1 [.i 0,.b false,.s Ae,.l none 0 0] 38 λB2=>A5 λS=>wLs S B1 1 λX3=>wLs S B1 1 λX4=>Ad c0 λB5 O6=>Er S B5 (O6+3) λX7=>JP 50 [.p c0,.s X3] λX8=>Aq true S<|A1p .bool .slc (.int .i64) PR 54 [.p X8,.s X4,.i X7] λ(X9:Bool)(X10:Sl)(X11:Int)=>st B2 1 (.b X9)<|st B2 3 (.l X10.a X10.n X10.c)<|
 st B2 0 (.i X11)<|Ay B2 0 λX12=>HT B2 1 λX13=>BQ B2 2 λX14=>AZ B2 3 λX15=>st B2 0 (.i X12)<|st B2 1 (.b X13)<|st B2 2 (.s X14)<|st B2 3 (.l X15.a X15.n X15.c)<|Ay B2 0 λX16=>HT B2 1 λX17=>BQ B2 2 λX18=>AZ B2 3 λX19=>Q (.agg #[.i X16,.b X17,.s X18,.l X19.a X19.n X19.c])):=by kernel_rfl
theorem Z0:Xf jn Q (us 4 ((pq r4b r4o)::us 46 []))=(Ay r4b r4o λX26=>HT r4b (r4o+1) λX27=>BQ r4b ((r4o+1)+1) λX28=>AZ r4b (((r4o+1)+1)+1) λX29=>st r4b r4o (.i X26)<|st r4b (r4o+1) (.b X27)<|st r4b ((r4o+1)+1) (.s X28)<|st r4b (((r4o+1)+1)+1) (.l X29.a X29.n X29.c)<|Ay r4b r4o λX30=>HT r4b (r4o+1) λX31=>BQ r4b ((r4o+1)+1) λX32=>AZ r4b (((r4o+1)+1)+1) λX33=>Q (.agg #[.i X30,.b X31,.s X32,.l X33.a X33.n X33.c])):=by kernel_rfl
theorem Ph{t33:Sl}{t34 t35:Int}:U1 jn Q (m3+1) c0 r4b r4o t33 t34 t35=(Aj (decide (t35<t34)) (C7 t33.a t33.n t35 λB17 O18=>Bs B17 (O18+t35.toNat*1) λX19=>A5 λS=>Fs S r4b (r4o+3) λX20=>Ad c0 λB21 O22=>Ay B21 (O22+3) λX23=>Aq true S<|FI 55 [.p X19,.i X23] λX24=>Aq true S<|Bt 9 1 16 [.s Ae] ⟨X20.a,X20.n,X20.c⟩ X24.n (λw=>HF w X24.a (X24.n*1)) λG25=>st r4b (r4o+3) (.l G25.a G25.n G25.c)<|U1 jn Q m3 c0 r4b r4o t33 t34 (IntKind.wrap .i64 (t35+1))) (Ayu jn Q r4b r4o)):=by kernel_rfl
theorem Zz:Xe jn Q ((.p c0)::us 2 ((pq o3b o3o)::(pq r4b r4o)::us 46 []))=(A5 λS=>Ad c0 λB8 O9=>Er S B8 (O9+3) λX10=>Ay o3b (o3o+3) λX11=>Aq true S<|Ad c0 λB12 O13=>st B12 (O13+3) (.i (IntKind.wrap .i64 (X10+X11)))<|Ad c0 λB14 O15=>AZ B14 O15 λX16=>DF λm=>U1 jn Q m c0 r4b r4o X16 (X16.n:Int) 0):=by kernel_rfl
theorem Zy{t19:Bool}:Xd jn Q ((.p c0)::us 2 ((pq o3b o3o)::(pq r4b r4o)::us 14 ((.b t19)::us 31 [])))=(Aj t19 (st r4b r4o (.i 1)<|st r4b (r4o+1) (.b false)<|st r4b ((r4o+1)+1) (.s Ae)<|st r4b (((r4o+1)+1)+1) (.l none 0 0)<|Ay r4b r4o λX4=>HT r4b (r4o+1) λX5=>BQ r4b ((r4o+1)+1) λX6=>AZ r4b (((r4o+1)+1)+1) λX7=>Q (.agg #[.i X4,.b X5,.s X6,.l X7.a X7.n X7.c])) (Ayt jn Q c0 o3b o3o r4b r4o)):=by kernel_rfl
theorem Asv:Av jn PR Ju Tryz.f31 [.p c0,.agg #[.i o1_0,.s o1_1,.s o1_2,.i o1_3]] Q=(A1 [.i o1_0,.s o1_1,.s o1_2,.i o1_3] 41 λB1=>A1 [.i 0,.b false,.s Ae,.l none 0 0] 38 λB2=>A5 λS=>Ay B1 3 λX3=>Aq true S<|Aj (decide (X3<0)) (Aq true S<|Zx jn Q c0 B1 0 B2 0 true) (Er S B1 3 λX34=>Ad c0 λB35 O36=>Ay B35 (O36+3) λX37=>Aq true S<|Zx jn Q c0 B1 0 B2 0 (decide (X34>(IntKind.wrap .i64 (1125899906842624-X37)))))):=by kernel_rfl
theorem As3:Av jn PR Aw Tryz.f32 [.p c0,.agg #[.i o1_0,.s o1_1,.s o1_2,.i o1_3]] Q=(A1 [.i o1_0,.s o1_1,.s o1_2,.i o1_3] 41 λB1=>A1 [.i 0,.b false,.s Ae,.l none 0 0] 38 λB2=>Ay B1 3 λX3=>JP 19 [.p c0,.i X3] λX4=>Aj (Option.isNone X4) (st B2 0 (.i 1)<|st B2 1 (.b false)<|st B2 2 (.s Ae)<|st B2 3 (.l none 0 0)<|Ay B2 0 λX5=>HT B2 1 λX6=>BQ B2 2 λX7=>AZ B2 3 λX8=>Q (.agg #[.i X5,.b X6,.s X7,.l X8.a X8.n X8.c])) (
 Bw 56 [.p X4] λX9=>st B2 0 (.i 0)<|st B2 1 (.b (decide (X9>0)))<|st B2 2 (.s Ae)<|st B2 3 (.l none 0 0)<|Ay B2 0 λX10=>HT B2 1 λX11=>BQ B2 2 λX12=>AZ B2 3 λX13=>Q (.agg #[.i X10,.b X11,.s X12,.l X13.a X13.n X13.c]))):=by kernel_rfl
theorem As9:Av jn PR Aw Tryz.f33 [.p c0,.agg #[.i o1_0,.s o1_1,.s o1_2,.i o1_3]] Q=(A1 [.i o1_0,.s o1_1,.s o1_2,.i o1_3] 41 λB1=>A1 [.i 0,.b false,.s Ae,.l none 0 0] 38 λB2=>Ay B1 3 λX3=>JP 19 [.p c0,.i X3] λX4=>Aj (Option.isNone X4) (st B2 0 (.i 1)<|st B2 1 (.b false)<|st B2 2 (.s Ae)<|st B2 3 (.l none 0 0)<|Ay B2 0 λX5=>HT B2 1 λX6=>BQ B2 2 λX7=>AZ B2 3 λX8=>Q (.agg #[.i X5,.b X6,.s X7,.l X8.a X8.n X8.c])) (
 ED 57 [.p X4] λX9 X10=>st B2 2 (.s X9)<|st B2 1 (.b X10)<|Ay B2 0 λX11=>HT B2 1 λX12=>BQ B2 2 λX13=>AZ B2 3 λX14=>st B2 0 (.i X11)<|st B2 1 (.b X12)<|st B2 2 (.s X13)<|st B2 3 (.l X14.a X14.n X14.c)<|Ay B2 0 λX15=>HT B2 1 λX16=>BQ B2 2 λX17=>AZ B2 3 λX18=>Q (.agg #[.i X15,.b X16,.s X17,.l X18.a X18.n X18.c]))):=by kernel_rfl
theorem Z2{pick5:Int}{change6:Bool}:Xn jn Q (us 4 ((pq t4b t4o)::(.i pick5)::(.b change6)::us 23 []))=(TA 61 [.i pick5] λX17=>st t4b t4o (.i 0)<|st t4b (t4o+1) (.b change6)<|st t4b ((t4o+1)+1) (.s X17)<|st t4b (((t4o+1)+1)+1) (.l none 0 0)<|Ay t4b t4o λX18=>HT t4b (t4o+1) λX19=>BQ t4b ((t4o+1)+1) λX20=>AZ t4b (((t4o+1)+1)+1) λX21=>Q (.agg #[.i X18,.b X19,.s X20,.l X21.a X21.n X21.c])):=by kernel_rfl
theorem Atg{p1_0:Int}{p1_1 p1_2:BA}{p1_3:Int}:Av jn PR Al8 Tryz.f34 [.p c0,.agg #[.i p1_0,.s p1_1,.s p1_2,.i p1_3]] Q=(A1 [.i p1_0,.s p1_1,.s p1_2,.i p1_3] 41 λB1=>A1 [.i 0,.b false,.s Ae,.l none 0 0] 38 λB2=>A5 λS=>Ad c0 λB3 O4=>EK S B3 (O4+2) λX5=>Ad c0 λB6 O7=>Bs B6 (O7+1) λX8=>Aq true S<|λw=>Calls PR 59 #[.p X8] w λe w'=>∃X9:Int,∃X10:Int,∃X11:Int,∃X12:Int,∃X13:Int,∃X14:Int,e = .returned (.tuple #[.agg #[.i X9,.i X10,.i X11,.i X12,.i X13],.i X14])/\(
 Aq true S<|Fy 58 [.p X5,.agg #[.i X9,.i X10,.i X11,.i X12,.i X13],.i X14] λX15 X16=>Aj X16 (wz 60 [.p c0,.i X15]<|Z1 jn Q B2 0 X15 X16) (Z1 jn Q B2 0 X15 X16)) w'):=by kernel_rfl
theorem Atu:Av jn PR Ayv Tryz.f35 [.p c0,.agg #[.i o1_0,.s o1_1,.s o1_2,.i o1_3]] Q=(A1 [.i o1_0,.s o1_1,.s o1_2,.i o1_3] 41 λB1=>A1 [.i 0,.b false,.s Ae,.l none 0 0] 38 λB2=>A5 λS=>Ad c0 λB3 O4=>EK S B3 (O4+2) λX5=>Ay B1 3 λX6=>Aq true S<|Bw 62 [.p X5,.i X6] λX7=>Aj (X7==0) (Ay B1 3 λX8=>wz 60 [.p c0,.i X8]<|st B2 0 (.i X7)<|st B2 1 (.b false)<|st B2 2 (.s Ae)<|
 st B2 3 (.l none 0 0)<|Ay B2 0 λX9=>HT B2 1 λX10=>BQ B2 2 λX11=>AZ B2 3 λX12=>Q (.agg #[.i X9,.b X10,.s X11,.l X12.a X12.n X12.c])) (st B2 0 (.i X7)<|st B2 1 (.b false)<|st B2 2 (.s Ae)<|st B2 3 (.l none 0 0)<|Ay B2 0 λX13=>HT B2 1 λX14=>BQ B2 2 λX15=>AZ B2 3 λX16=>Q (.agg #[.i X13,.b X14,.s X15,.l X16.a X16.n X16.c]))):=by kernel_rfl
theorem Z6:Xw jn Q ((.p c0)::us 2 ((pq o3b o3o)::(pq r4b r4o)::us 49 []))=(A5 λS=>Ad c0 λB19 O20=>EK S B19 (O20+1) λX21=>Er S o3b (o3o+3) λX22=>Ad c0 λB23 O24=>AZ B23 O24 λX25=>Aq true S<|wz 64 [.p X21,.i (IntKind.wrap .i64 (X22*(X25.n:Int)))]<|Ay r4b r4o λX26=>HT r4b (r4o+1) λX27=>BQ r4b ((r4o+1)+1) λX28=>AZ r4b (((r4o+1)+1)+1) λX29=>st r4b r4o (.i X26)<|st r4b (r4o+1) (.b X27)<|st r4b ((r4o+1)+1) (.s X28)<|st r4b (((r4o+1)+1)+1) (.l X29.a X29.n X29.c)<|
 Ay r4b r4o λX30=>HT r4b (r4o+1) λX31=>BQ r4b ((r4o+1)+1) λX32=>AZ r4b (((r4o+1)+1)+1) λX33=>Q (.agg #[.i X30,.b X31,.s X32,.l X33.a X33.n X33.c])):=by kernel_rfl
theorem Pi{t21:Sl}{t23:Int}:U9 jn Q (m3+1) c0 o3b o3o r4b r4o t21 t22 t23=(Aj (decide (t23<t22)) (C7 t21.a t21.n t23 λB11 O12=>Bs B11 (O12+t23.toNat*1) λX13=>Ay o3b (o3o+3) λX14=>Gb .slc (.int .i64) PR 63 [.p X13,.i X14] λ(X15:Sl)(X16:Int)=>AZ r4b (r4o+3) λX17=>Bt 9 1 16 [.s Ae] ⟨X17.a,X17.n,X17.c⟩ X15.n (λw=>HF w X15.a (X15.n*1)) λG18=>st r4b (r4o+3) (.l G18.a G18.n G18.c)<|U9 jn Q m3 c0 o3b o3o r4b r4o t21 t22 (IntKind.wrap .i64 (t23+1))) (Ayz jn Q c0 o3b o3o r4b r4o)):=by kernel_rfl
theorem Z5:Xv jn Q ((.p c0)::us 2 ((pq o3b o3o)::(pq r4b r4o)::us 49 []))=(Ad c0 λB8 O9=>AZ B8 O9 λX10=>DF λm=>U9 jn Q m c0 o3b o3o r4b r4o X10 (X10.n:Int) 0):=by kernel_rfl
theorem Z4{t16:Bool}:Xu jn Q ((.p c0)::us 2 ((pq o3b o3o)::(pq r4b r4o)::us 11 ((.b t16)::us 37 [])))=(Aj t16 (st r4b r4o (.i 1)<|st r4b (r4o+1) (.b false)<|st r4b ((r4o+1)+1) (.s Ae)<|st r4b (((r4o+1)+1)+1) (.l none 0 0)<|Ay r4b r4o λX4=>HT r4b (r4o+1) λX5=>BQ r4b ((r4o+1)+1) λX6=>AZ r4b (((r4o+1)+1)+1) λX7=>Q (.agg #[.i X4,.b X5,.s X6,.l X7.a X7.n X7.c])) (Ayy jn Q c0 o3b o3o r4b r4o)):=by kernel_rfl
theorem Atx:Av jn PR Jv Tryz.f36 [.p c0,.agg #[.i o1_0,.s o1_1,.s o1_2,.i o1_3]] Q=(A1 [.i o1_0,.s o1_1,.s o1_2,.i o1_3] 41 λB1=>A1 [.i 0,.b false,.s Ae,.l none 0 0] 38 λB2=>Ay B1 3 λX3=>Aj (decide (X3<1)) (Z3 jn Q c0 B1 0 B2 0 true) (Ay B1 3 λX34=>Z3 jn Q c0 B1 0 B2 0 (decide (X34>1024)))):=by kernel_rfl
theorem At7:Av jn PR Aw Tryz.f40 [.p t0] Q=(Aj (Option.isNone t0) (Q (.i 0)) (Ad t0 λB1 O2=>Bs B1 O2 λX3=>Bw 70 [.p X3] λX4=>Q (.i X4))):=by kernel_rfl
theorem At8:Av jn PR Aw Tryz.f41 [.p t0] Q=(Aj (Option.isNone t0) (Q (.l none 0 0)) (Ad t0 λB1 O2=>Bs B1 O2 λX3=>FI 71 [.p X3] λX4=>Q (.l X4.a X4.n X4.c))):=by kernel_rfl
theorem Acw:Av jn PR Aw Tryz.f42 [.p m0] Q=(Aj (!Option.isNone m0) (Ad m0 λB1 O2=>MW B1 (O2+3) (Q (.b false)) λ(t_3:TypeId)(v_4:Value)=>Q (.b true)) (Q (.b false))):=by kernel_rfl
theorem At9:Av jn PR Aw Tryz.f43 [.p m0] Q=(Aj (Option.isNone m0) (Q (.i (-1))) (Ad m0 λB1 O2=>Ay B1 O2 λX3=>Q (.i X3))):=by kernel_rfl
theorem Aua:Av jn PR Aw Tryz.f46 [.i rate0,.i room1] Q=(JP 73 [.i rate0] λX1=>A1 [.p X1,.i 0,.p none,.p none,.p none,.p none,.p none] 131 λB2=>wz 64 [pq B2 0,.i room1]<|Q (pq B2 0)):=by kernel_rfl
theorem Aub{reads1 writes2 kind3:Int}:Av jn PR Aw Tryz.f47 [.i room0,.i reads1,.i writes2,.i kind3] Q=(Dw 74 [.i room0] λX1=>Aj (!X1) (Q (.tuple #[.p none,.i 1])) (Abj 75 [.i reads1,.i writes2] λX2 X3=>Aj (X3 != 0) (Q (.tuple #[.p none,.i X3])) (Abj 76 [.i kind3,.i room0] λX4 X5=>Aj (X5 != 0) (Q (.tuple #[.p none,.i X5])) (JP 77 [] λX6=>A1 [.p X6,.p X2,.p X4,.i 0,.i 0,.i 0,.i 0,.i 0,.i 0,.l none 0 0] 79 λB7=>
 Q (.tuple #[pq B7 0,.i 0]))))):=by kernel_rfl
theorem Z7:Xz jn Q ((.i kind0)::(.i hold1)::(.p t2)::us 23 [])=(λw=>Calls PR 79 #[] w λe w'=>∃X2:Int,∃X3:Int,∃X4:Int,∃X5:Int,∃X6:Int,e = .returned (.agg #[.int .u64 X2,.int .u64 X3,.int .u64 X4,.int .u64 X5,.int .u64 X6])/\(A1 [.i kind0,.i hold1,.p t2,.int .u64 X2,.int .u64 X3,.int .u64 X4,.int .u64 X5,.int .u64 X6,.i kind0,.i 0] 143 λB7=>Q (.tuple #[pq B7 0,.i 0])) w'):=by kernel_rfl
theorem Auc:Av jn PR Amv Tryz.f48 [.i kind0,.i hold1,.p t2] Q=(Dw 78 [.i kind0] λX1=>Aj (!X1) (Q (.tuple #[.p none,.i 4])) (Aj (decide (hold1<1)) (Q (.tuple #[.p none,.i 1])) (Aj (decide (hold1>256)) (Q (.tuple #[.p none,.i 1])) (Ay0 jn Q kind0 hold1 t2)))):=by kernel_rfl
theorem Aud{draws0:Sl}:Av jn PR Aw Tryz.f49 [.l draws0.a draws0.n draws0.c] Q=(FI 80 [.l draws0.a draws0.n draws0.c] λX1=>A1 [.l X1.a X1.n X1.c,.i 0] 147 λB2=>Q (pq B2 0)):=by kernel_rfl
theorem Aue:Av jn PR Ay1 Tryz.f50 [.p c0,.s key1] Q=(A5 λS=>Ad c0 λB1 O2=>Fs S B1 O2 λX3=>Ad c0 λB4 O5=>AZ B4 O5 λX6=>Aq true S<|Bw 81 [.s key1,.i (X6.n:Int)] λX7=>Aq true S<|C7 X3.a X3.n X7 λB8 O9=>Bs B8 (O9+X7.toNat*1) λX10=>Q (.p X10)):=by kernel_rfl
theorem Auf:Av jn PR Aw Tryz.f51 [.p s0,.s key1,.i now2] Q=(Bw 82 [.p s0,.s key1,.i now2] λX1=>Aj (X1 != 0) (Q (.tuple #[.s Ae,.b false,.l none 0 0,.i X1])) (FI 83 [.p s0,.s key1,.i now2] λX2=>Ad s0 λB3 O4=>wz 84 [.p (some ⟨B3,(O4+3),none⟩)]<|Ad s0 λB5 O6=>Bs B5 O6 λX7=>ED 85 [.p X7,.s key1,.i now2] λX8 X9=>Aj X9 (Ad s0 λB10 O11=>wz 84 [.p (some ⟨B10,((O11+3)+1),none⟩)]<|
 Ad s0 λB12 O13=>Bs B12 (O13+1) λX14=>Dw 86 [.p X14,.s key1] λX15=>Aj (!X15) (Ad s0 λB16 O17=>wz 84 [.p (some ⟨B16,((O17+3)+4),none⟩)]<|Q (.tuple #[.s X8,.b X9,.l X2.a X2.n X2.c,.i 0])) (Q (.tuple #[.s X8,.b X9,.l X2.a X2.n X2.c,.i 0]))) (Q (.tuple #[.s X8,.b X9,.l X2.a X2.n X2.c,.i 0])))):=by kernel_rfl
theorem Z9:XA jn Q (us 29 [])=(Q (.b true)):=by kernel_rfl
theorem EL{t21_0 t21_1 t21_2 t21_3 t21_4:OA}:ZA jn Q (m2+1) key1 t21_0 t21_1 t21_2 t21_3 t21_4 t22=(Aj (decide (t22<5)) (AY ((0:Int)<=t22/\t22<((5:Nat):Int))<|λw=>∃X12:OA,([.p t21_0,.p t21_1,.p t21_2,.p t21_3,.p t21_4]:List Value)[t22.toNat]? = some (.p X12)/\Ct (.p X12)=false/\(Dw 88 [.p X12,.s key1] λX13=>ZA jn Q m2 key1 t21_0 t21_1 t21_2 t21_3 t21_4 (IntKind.wrap .i64 (t22+1))) w) (Ay4 jn Q)):=by kernel_rfl
theorem Z8:X0 jn Q ((.p p0)::(.s key1)::us 27 [])=(Ad p0 λB5 O6=>Bs B5 (O6+2) λX7=>Bs B5 ((O6+2)+1) λX8=>Bs B5 (((O6+2)+1)+1) λX9=>Bs B5 ((((O6+2)+1)+1)+1) λX10=>Bs B5 (((((O6+2)+1)+1)+1)+1) λX11=>DF λm=>ZA jn Q m key1 X7 X8 X9 X10 X11 0):=by kernel_rfl
theorem Aug:Av jn PR Pj Tryz.f52 [.p p0,.s key1] Q=(Aj (Option.isNone p0) (Q (.b false)) (Ad p0 λB1 O2=>Bs B1 O2 λX3=>Dw 87 [.p X3,.s key1] λX4=>Aj (!X4) (Q (.b false)) (Ay3 jn Q p0 key1))):=by kernel_rfl
theorem ZC:XC jn Q ((.p s0)::(.s key1)::(.s val2)::(.i now3)::(.i life4)::us 9 ((.l gone14.a gone14.n gone14.c)::us 90 []))=(Bw 93 [.p s0] λX16=>Ad s0 λB17 O18=>Bs B17 (O18+2) λX19=>FI 94 [.p X19,.s key1] λX20=>Ad s0 λB21 O22=>AZ B21 (O22+9) λX23=>A1 [.i 2,.s key1] 159 λB24=>Bt 159 2 24 [.i 0,.s Ae] ⟨X23.a,X23.n,X23.c⟩ 1 (λw=>HF w (some ⟨B24,0,none⟩) (1*2)) λG25=>Ad s0 λB26 O27=>st B26 (O27+9) (.l G25.a G25.n G25.c)<|
 wz 95 [.p s0,.l X20.a X20.n X20.c]<|Ad s0 λB28 O29=>Bs B28 O29 λX30=>A1c 89 [.p X30,.s key1,.s val2,.i now3,.i life4] λX31 X32=>Bt 9 1 16 [.s Ae] ⟨gone14.a,gone14.n,gone14.c⟩ X20.n (λw=>HF w X20.a (X20.n*1)) λG33=>Q (.tuple #[.l G33.a G33.n G33.c,.i 0])):=by kernel_rfl
theorem ZB{t57:Bool}:XB jn Q ((.p s0)::(.s key1)::(.s val2)::(.i now3)::(.i life4)::us 9 ((.l gone14.a gone14.n gone14.c)::us 42 ((.b t57)::us 47 [])))=(Aj t57 (Ad s0 λB11 O12=>Bs B11 O12 λX13=>A1c 89 [.p X13,.s key1,.s val2,.i now3,.i life4] λX14 X15=>wz 92 [.p s0,.i 2,.s key1]<|Q (.tuple #[.l gone14.a gone14.n gone14.c,.i 0])) (Ay5 jn Q s0 key1 val2 now3 life4 gone14)):=by kernel_rfl
theorem Aui:Av jn PR UF Tryz.f53 [.p s0,.s key1,.s val2,.i now3,.i life4] Q=(Aj (Option.isNone s0) (Q (.tuple #[.l none 0 0,.i 1])) (JP 77 [] λX1=>A1c 89 [.p X1,.s key1,.s val2,.i now3,.i life4] λX2 X3=>Aj (X3 != 0) (Q (.tuple #[.l none 0 0,.i X3])) (FI 83 [.p s0,.s key1,.i now3] λX4=>Ad s0 λB5 O6=>wz 84 [.p (some ⟨B5,((O6+3)+2),none⟩)]<|A5 λS=>Ad s0 λB7 O8=>Bs B7 O8 λX9=>
 Aq true S<|Dw 90 [.p X9,.s key1] λX10=>Aq true S<|Aj X10 (Aq true S<|UE jn Q s0 key1 val2 now3 life4 X4 true) (Ad s0 λB34 O35=>EK S B34 O35 λX36=>Ad s0 λB37 O38=>EK S B37 (O38+2) λX39=>Bw 40 [.p X36] λX40=>Aq true S<|Bw 91 [.p X39] λX41=>UE jn Q s0 key1 val2 now3 life4 X4 (decide (X40<X41)))))):=by kernel_rfl
theorem Auj:Av jn PR Aw Tryz.f54 [.p s0,.s key1,.i now2] Q=(Bw 82 [.p s0,.s key1,.i now2] λX1=>Aj (X1 != 0) (Q (.tuple #[.b false,.l none 0 0,.i X1])) (FI 83 [.p s0,.s key1,.i now2] λX2=>Ad s0 λB3 O4=>Bs B3 O4 λX5=>Dw 96 [.p X5,.s key1] λX6=>Aj X6 (wz 92 [.p s0,.i 3,.s key1]<|Q (.tuple #[.b X6,.l X2.a X2.n X2.c,.i 0])) (Q (.tuple #[.b X6,.l X2.a X2.n X2.c,.i 0])))):=by kernel_rfl
theorem ZE:XE jn Q (us 5 ((.l gone5.a gone5.n gone5.c)::us 28 []))=(Q (.l gone5.a gone5.n gone5.c)):=by kernel_rfl
theorem Pm{t20:Sl}{t21:Int}:UG jn Q (m2+1) s0 now1 gone5 t20 t21 t22=(Aj (decide (t22<t21)) (C7 t20.a t20.n t22 λB6 O7=>BQ B6 (O7+t22.toNat*1) λX8=>FI 83 [.p s0,.s X8,.i now1] λX9=>Bt 9 1 16 [.s Ae] ⟨gone5.a,gone5.n,gone5.c⟩ X9.n (λw=>HF w X9.a (X9.n*1)) λG10=>UG jn Q m2 s0 now1 G10 t20 t21 (IntKind.wrap .i64 (t22+1))) (Ay8 jn Q gone5)):=by kernel_rfl
theorem ZD:XD jn Q ((.p s0)::(.i now1)::us 32 [])=(Ad s0 λB2 O3=>Bs B2 O3 λX4=>FI 98 [.p X4,.i now1] λX5=>DF λm=>UG jn Q m s0 now1 ⟨none,0,0⟩ X5 (X5.n:Int) 0):=by kernel_rfl
theorem Auk:Av jn PR Pk Tryz.f55 [.p s0,.i now1] Q=(Aj (Option.isNone s0) (Q (.l none 0 0)) (Dw 97 [.i now1] λX1=>Aj (!X1) (Q (.l none 0 0)) (Ay7 jn Q s0 now1))):=by kernel_rfl
theorem Aul:Av jn PR Aw Tryz.f56 [.p s0] Q=(Aj (Option.isNone s0) (Q (.i 0)) (Bw 93 [.p s0] λX1=>Q (.i X1))):=by kernel_rfl
theorem Aum:Av jn PR Aw Tryz.f57 [.p s0] Q=(Aj (Option.isNone s0) (Q (.tuple #[.s Ae,.b false])) (Bw 93 [.p s0] λX1=>Ad s0 λB2 O3=>Bs B2 (O3+2) λX4=>ED 99 [.p X4] λX5 X6=>Aj X6 (Ad s0 λB7 O8=>wz 84 [.p (some ⟨B7,((O8+3)+5),none⟩)]<|Q (.tuple #[.s X5,.b X6])) (Q (.tuple #[.s X5,.b X6])))):=by kernel_rfl
theorem ZG{pick8:Int}:XF jn Q ((.p c0)::us 7 ((.i pick8)::us 72 []))=(A5 λS=>Ad c0 λB48 O49=>Er S B48 (O49+9) λX50=>Ad c0 λB51 O52=>Ay B51 (O52+1) λX53=>Aq true S<|Aj (decide (X50<X53)) (Q (.tuple #[.i pick8,.b false])) (Bw 62 [.p c0,.i pick8] λX54=>Q (.tuple #[.i pick8,.b true]))):=by kernel_rfl
theorem Aun{ghosts1_0 ghosts1_1 ghosts1_2 ghosts1_3 ghosts1_4 all2:Int}:Av jn PR Amw Tryz.f58 [.p c0,.agg #[.i ghosts1_0,.i ghosts1_1,.i ghosts1_2,.i ghosts1_3,.i ghosts1_4],.i all2] Q=(A1 [.i ghosts1_0,.i ghosts1_1,.i ghosts1_2,.i ghosts1_3,.i ghosts1_4] 100 λB1=>Aj (Option.isNone c0) (Q (.tuple #[.i 0,.b false])) (A5 λS=>Ad c0 λB2 O3=>YR S B2 (O3+3) λX4=>YR S B2 ((O3+3)+1) λX5=>YR S B2 (((O3+3)+1)+1) λX6=>YR S B2 ((((O3+3)+1)+1)+1) λX7=>YR S B2 (((((O3+3)+1)+1)+1)+1) λX8=>
 Ay B1 0 λX9=>Ay B1 1 λX10=>Ay B1 2 λX11=>Ay B1 3 λX12=>Ay B1 4 λX13=>Aq true S<|λw=>Calls PR 100 #[.agg #[.int .u64 X4,.int .u64 X5,.int .u64 X6,.int .u64 X7,.int .u64 X8],.agg #[.i X9,.i X10,.i X11,.i X12,.i X13],.i all2] w λe w'=>∃X14:Int,∃X15:Int,∃X16:Int,∃X17:Int,∃X18:Int,e = .returned (.agg #[.int .u64 X14,.int .u64 X15,.int .u64 X16,.int .u64 X17,.int .u64 X18])/\(Ad c0 λB19 O20=>st B19 (O20+3) (.int .u64 X14)<|st B19 ((O20+3)+1) (.int .u64 X15)<|st B19 (((O20+3)+1)+1) (.int .u64 X16)<|st B19 ((((O20+3)+1)+1)+1) (.int .u64 X17)<|
 st B19 (((((O20+3)+1)+1)+1)+1) (.int .u64 X18)<|A5 λS=>Ad c0 λB21 O22=>YR S B21 (O22+3) λX23=>YR S B21 ((O22+3)+1) λX24=>YR S B21 (((O22+3)+1)+1) λX25=>YR S B21 ((((O22+3)+1)+1)+1) λX26=>YR S B21 (((((O22+3)+1)+1)+1)+1) λX27=>Ad c0 λB28 O29=>Bs B28 (O29+2) λX30=>Aq true S<|call1 (.int .u32) PR 102 [.p X30] λ(X31:Int)=>Aq true S<|Bw 101 [.agg #[.int .u64 X23,.int .u64 X24,.int .u64 X25,.int .u64 X26,.int .u64 X27],.int .u32 X31] λX32=>Ad c0 λB33 O34=>Ay B33 O34 λX35=>Aj (X32==X35) (
 Ad c0 λB36 O37=>st B36 (O37+8) (.i X32)<|Ad c0 λB38 O39=>st B38 (O39+9) (.i 0)<|Q (.tuple #[.i X32,.b false])) (Ad c0 λB40 O41=>Ay B40 (O41+8) λX42=>Aj (X32==X42) (Ad c0 λB43 O44=>Ay B43 (O44+9) λX45=>Ad c0 λB46 O47=>st B46 (O47+9) (.i (IntKind.wrap .i64 (X45+1)))<|ZF jn Q c0 X32) (Ad c0 λB55 O56=>st B55 (O56+8) (.i X32)<|Ad c0 λB57 O58=>st B57 (O58+9) (.i 1)<|ZF jn Q c0 X32))) w')):=by kernel_rfl
theorem ZH:XG jn Q (us 2 ((pq ghosts2b ghosts2o)::(.i all3)::us 25 []))=(Ay ghosts2b ghosts2o λX26=>Ay ghosts2b (ghosts2o+1) λX27=>Ay ghosts2b ((ghosts2o+1)+1) λX28=>Ay ghosts2b (((ghosts2o+1)+1)+1) λX29=>Ay ghosts2b ((((ghosts2o+1)+1)+1)+1) λX30=>st ghosts2b ghosts2o (.i X26)<|st ghosts2b (ghosts2o+1) (.i X27)<|st ghosts2b ((ghosts2o+1)+1) (.i X28)<|st ghosts2b (((ghosts2o+1)+1)+1) (.i X29)<|st ghosts2b ((((ghosts2o+1)+1)+1)+1) (.i X30)<|Ay ghosts2b ghosts2o λX31=>
 Ay ghosts2b (ghosts2o+1) λX32=>Ay ghosts2b ((ghosts2o+1)+1) λX33=>Ay ghosts2b (((ghosts2o+1)+1)+1) λX34=>Ay ghosts2b ((((ghosts2o+1)+1)+1)+1) λX35=>Q (.tuple #[.agg #[.i X31,.i X32,.i X33,.i X34,.i X35],.i all3])):=by kernel_rfl
theorem EM{t13_0 t13_1 t13_2 t13_3 t13_4:OA}{t14:Int}:ZI jn Q (m1+1) ghosts2b ghosts2o all3 t13_0 t13_1 t13_2 t13_3 t13_4 t14=(Aj (decide (t14<5)) (AY ((0:Int)<=t14/\t14<((5:Nat):Int))<|λw=>∃X19:OA,([.p t13_0,.p t13_1,.p t13_2,.p t13_3,.p t13_4]:List Value)[t14.toNat]? = some (.p X19)/\Ct (.p X19)=false/\(λw=>Calls PR 103 #[.p X19] w λe w'=>∃X20:Int,∃X21:Int,∃X22:Int,e = .returned (.agg #[.i X20,.i X21,.i X22])/\(A1 [.i 0,.i 0,.i 0] 165 λB23=>st B23 0 (.i X20)<|st B23 1 (.i X21)<|
 st B23 2 (.i X22)<|A5 λS=>Er S B23 2 λX24=>Er S B23 0 λX25=>AY ((0:Int)<=t14/\t14<((5:Nat):Int))<|st ghosts2b (ghosts2o+t14.toNat*1) (.i X24)<|Aq true S<|ZI jn Q m1 ghosts2b ghosts2o X25 t13_0 t13_1 t13_2 t13_3 t13_4 (IntKind.wrap .i64 (t14+1))) w') w) (Aza jn Q ghosts2b ghosts2o all3)):=by kernel_rfl
theorem Auo:Av jn PR UH Tryz.f59 [.p p0] Q=(A1 [.i 0,.i 0,.i 0,.i 0,.i 0] 100 λB1=>Aj (Option.isNone p0) (Ay B1 0 λX2=>Ay B1 1 λX3=>Ay B1 2 λX4=>Ay B1 3 λX5=>Ay B1 4 λX6=>st B1 0 (.i X2)<|st B1 1 (.i X3)<|st B1 2 (.i X4)<|st B1 3 (.i X5)<|st B1 4 (.i X6)<|Ay B1 0 λX7=>Ay B1 1 λX8=>Ay B1 2 λX9=>Ay B1 3 λX10=>Ay B1 4 λX11=>Q (.tuple #[.agg #[.i X7,.i X8,.i X9,.i X10,.i X11],.i 0])) (
 Ad p0 λB12 O13=>Bs B12 (O13+2) λX14=>Bs B12 ((O13+2)+1) λX15=>Bs B12 (((O13+2)+1)+1) λX16=>Bs B12 ((((O13+2)+1)+1)+1) λX17=>Bs B12 (((((O13+2)+1)+1)+1)+1) λX18=>DF λm=>ZI jn Q m B1 0 0 X14 X15 X16 X17 X18 0)):=by kernel_rfl
theorem Po{t9:Sl}{t11:Int}:UI jn Q (m1+1) kind1 t9 t10 t11=(Aj (decide (t11<t10)) (C7 t9.a t9.n t11 λB4 O5=>Bs B4 (O5+t11.toNat*1) λX6=>Bw 104 [.p X6,.i kind1] λX7=>UI jn Q m1 kind1 t9 t10 (IntKind.wrap .i64 (t11+1))) (Q (.tuple #[]))):=by kernel_rfl
theorem Aup:Av jn PR Am1 Tryz.f60 [.p c0,.i kind1] Q=(Ad c0 λB1 O2=>AZ B1 O2 λX3=>DF λm=>UI jn Q m kind1 X3 (X3.n:Int) 0):=by kernel_rfl
theorem Auq:Av jn PR Aw Tryz.f61 [.i kind0] Q=(Aj (kind0==0) (Q (.s Awz)) (Aj (kind0==1) (Q (.s Apf)) (Aj (kind0==2) (Q (.s A03)) (Aj (kind0==3) (Q (.s YL)) (Aj (kind0==4) (Q (.s Abb)) (Q (.s Ae))))))):=by kernel_rfl
theorem Aur:Av jn PR Aw Tryz.f62 [.p c0,.i kind1] Q=(Aj (Option.isNone c0) (Q (.i 1)) (Dw 78 [.i kind1] λX1=>Aj (!X1) (Q (.i 4)) (Ad c0 λB2 O3=>st B2 O3 (.i kind1)<|Ad c0 λB4 O5=>st B4 (O5+8) (.i kind1)<|Ad c0 λB6 O7=>st B6 (O7+9) (.i 0)<|Q (.i 0)))):=by kernel_rfl
theorem ZJ:XH jn Q ((.p s0)::(.i room1)::us 24 [])=(Bw 93 [.p s0] λX2=>Ad s0 λB3 O4=>Bs B3 (O4+2) λX5=>FI 105 [.p X5,.i room1] λX6=>wz 95 [.p s0,.l X6.a X6.n X6.c]<|Q (.tuple #[.l X6.a X6.n X6.c,.i 0])):=by kernel_rfl
theorem Aus:Av jn PR Ld Tryz.f63 [.p s0,.i room1] Q=(Aj (Option.isNone s0) (Q (.tuple #[.l none 0 0,.i 1])) (Dw 74 [.i room1] λX1=>Aj (!X1) (Q (.tuple #[.l none 0 0,.i 1])) (Azd jn Q s0 room1))):=by kernel_rfl
theorem EN{t16:Int}:ZK jn Q (m1+1) p0 t16=(Aj (decide (t16<5)) (A5 λS=>Ad p0 λB7 O8=>Ad p0 λB9 O10=>Ay B7 (O8+1) λX11=>Abj 107 [.i t16,.i X11] λX12 X13=>AY ((0:Int)<=t16/\t16<((5:Nat):Int))<|st B9 ((O10+2)+t16.toNat*1) (.p X12)<|ZK jn Q m1 p0 (IntKind.wrap .i64 (t16+1))) (Q (.tuple #[]))):=by kernel_rfl
theorem Aut:Av jn PR Am2 Tryz.f64 [.p p0,.i room1] Q=(Aj (Option.isNone p0) (Q (.tuple #[])) (Ad p0 λB1 O2=>Bs B1 O2 λX3=>Bw 106 [.p X3,.i room1] λX4=>Ad p0 λB5 O6=>st B5 (O6+1) (.i X4)<|DF λm=>ZK jn Q m p0 0)):=by kernel_rfl
theorem Auu:Av jn PR Aw Tryz.f70 [.p x0] Q=(Aj (Option.isNone x0) (Q (.i 0)) (Ad x0 λB1 O2=>Ay B1 (O2+2) λX3=>Q (.i X3))):=by kernel_rfl
theorem ZL:XI jn Q (us 3 ((.l l3.a l3.n l3.c)::us 25 []))=(wz 112 [.l l3.a l3.n l3.c]<|Q (.l l3.a l3.n l3.c)):=by kernel_rfl
theorem Pq{t11:Sl}{t12 t13:Int}:Pp jn Q (m1+1) l3 t11 t12 t13=(Aj (decide (t13<t12)) (C7 t11.a t11.n t13 λB4 O5=>Ay B4 (O5+t13.toNat*4) λX6=>BQ B4 ((O5+t13.toNat*4)+1) λX7=>BQ B4 (((O5+t13.toNat*4)+1)+1) λX8=>Ay B4 ((((O5+t13.toNat*4)+1)+1)+1) λX9=>A1 [.i 0,.s Ae,.s Ae,.i 0] 178 λB10=>st B10 0 (.i X6)<|st B10 1 (.s X7)<|st B10 2 (.s X8)<|st B10 3 (.i X9)<|Ay B10 0 λX11=>Aj (X11==2) (BQ B10 1 λX12=>A1 [.s X12] 9 λB13=>Bt 9 1 16 [.s Ae] ⟨l3.a,l3.n,l3.c⟩ 1 (λw=>HF w (some ⟨B13,0,none⟩) (1*1)) λG14=>
 Pp jn Q m1 G14 t11 t12 (IntKind.wrap .i64 (t13+1))) (Pp jn Q m1 l3 t11 t12 (IntKind.wrap .i64 (t13+1)))) (Azf jn Q l3)):=by kernel_rfl
theorem Auv:Av jn PR UJ Tryz.f71 [.p x0] Q=(Aj (Option.isNone x0) (Q (.l none 0 0)) (Ad x0 λB1 O2=>AZ B1 (O2+1) λX3=>DF λm=>Pp jn Q m ⟨none,0,0⟩ X3 (X3.n:Int) 0)):=by kernel_rfl
theorem Auw{n0 low1 high2:Int}:Av jn PR Aw Tryz.f72 [.i n0,.i low1,.i high2] Q=(Q (.i (if high2<(if low1>n0 then low1 else n0) then high2 else (if low1>n0 then low1 else n0)))):=by kernel_rfl
theorem Aux:Av jn PR Aw Tryz.f73 [.i rate0] Q=(Bw 72 [.i rate0,.i 0,.i 16777216] λX1=>A1 [.i X1,.i 0,.i 0] 181 λB2=>Q (pq B2 0)):=by kernel_rfl
theorem Auy:Av jn PR Aw Tryz.f74 [.i room0] Q=(Aj (decide (room0>=1)) (Q (.b (decide (room0<=1024)))) (Q (.b false))):=by kernel_rfl
end Go.Proofs.YtjipofkjmmpjdaaGreat
namespace Go.Proofs.YtjipofkjmmpjdaaGreat
open Go.Hb
section
variable(jn:Jn)(Q:VW)
def Am3:KP:=⟨[(8,[0,1])],[(3,[0,2,3,5,6,8,9])]⟩
def XJ:EW:=cE Tryz.f75 Am3 jn Q [1,1] (rE Tryz.f75 Q) A6
def Azg(reads0 writes1:Int):WP:=jn 8 (XJ jn Q) ((.i reads0)::(.i writes1)::us 26 [])
def UK:KP:=⟨[(9,[0,1,3]),(16,[0,1])],[]⟩
def Azh:EW:=sE Tryz.f79 UK jn Q [1,1,1] (rE Tryz.f79 Q) A6
def XK:EW:=cE Tryz.f79 UK jn Q [1,1,1] (rE Tryz.f79 Q) A6
def Azi(t0b t0o w1b w1o:Nat):WP:=jn 16 (XK jn Q) ((pq t0b t0o)::(pq w1b w1o)::us 9 [])
def UL(m1:Nat)(t0b t0o w1b w1o:Nat)(t3:Int):WP:=CQ PR UK jn (bE Tryz.f79 [1,1,0,1,0,0]) (A8 0 (Azh jn Q) A6) (rE Tryz.f79 Q) m1 ((pq t0b t0o)::(pq w1b w1o)::us 1 ((.i t3)::us 7 []))
def Am5:KP:=⟨[(10,[0,1])],[]⟩
def XL:EW:=cE Tryz.f83 Am5 jn Q [1,1] (rE Tryz.f83 Q) A6
def Am4(s0:OA)(key1:BA):WP:=jn 10 (XL jn Q) ((.p s0)::(.s key1)::us 36 [])
def Azj:KP:=⟨[],[(4,[0,2,3,4,5,7])]⟩
def Pu:KP:=⟨[(12,[0,5,6,7]),(19,[0,5,43,44,45]),(26,[5])],[]⟩
def Azk:EW:=sE Tryz.f88 Pu jn Q [1,1,1,1,1,1,1] (rE Tryz.f88 Q) A6
def XN:EW:=cE Tryz.f88 Pu jn Q [1,1,1,1,1,1,1] (rE Tryz.f88 Q) A6
def Azl(hit5:Bool):WP:=jn 26 (XN jn Q) (us 5 ((.b hit5)::us 51 []))
def ZR(m2:Nat)(s0:OA)(hit5:Bool)(t43:Sl)(t44 t45:Int):WP:=CQ PR Pu jn (bE Tryz.f88 [1,1,1,1,1,1,0,1,0,0]) (A8 0 (Azk jn Q) A6) (rE Tryz.f88 Q) m2 ((.p s0)::us 4 ((.b hit5)::us 37 ((.l t43.a t43.n t43.c)::(.i t44)::(.i t45)::us 11 [])))
def XM:EW:=cE Tryz.f88 Pu jn Q [1,1,1,1] (rE Tryz.f88 Q) A6
def ZP(s0:OA)(hit5:Bool)(went6:Sl)(back7:Bool):WP:=jn 12 (XM jn Q) ((.p s0)::us 4 ((.b hit5)::(.l went6.a went6.n went6.c)::(.b back7)::us 49 []))
def ZV:KP:=⟨[(20,[0,1,2,3,4]),(26,[0,1,12])],[(12,[0,1,2,3,4,7,8])]⟩
def XP:EW:=cE Tryz.f89 ZV jn Q [1,1,1,1] (rE Tryz.f89 Q) A6
def ZT(t0:OA)(key1:BA)(v12b v12o:Nat):WP:=jn 26 (XP jn Q) ((.p t0)::(.s key1)::us 10 ((pq v12b v12o)::us 41 []))
def XO:EW:=cE Tryz.f89 ZV jn Q [1,1] (rE Tryz.f89 Q) A6
def Azm(t0:OA)(key1 val2:BA)(now3 life4:Int):WP:=jn 20 (XO jn Q) ((.p t0)::(.s key1)::(.s val2)::(.i now3)::(.i life4)::us 49 [])
def UM:KP:=⟨[(9,[0,3,11,12,13]),(16,[0,3])],[(5,[0,1,2,3,4])]⟩
def Azn:EW:=sE Tryz.f93 UM jn Q [1,1,1] (rE Tryz.f93 Q) A6
def XQ:EW:=cE Tryz.f93 UM jn Q [1,1,1] (rE Tryz.f93 Q) A6
def Azo(s0:OA)(l3:Sl):WP:=jn 16 (XQ jn Q) ((.p s0)::us 2 ((.l l3.a l3.n l3.c)::us 33 []))
def UN(m1:Nat)(s0:OA)(l3 t11:Sl)(t12 t13:Int):WP:=CQ PR UM jn (bE Tryz.f93 [1,1,0,1,0,0]) (A8 0 (Azn jn Q) A6) (rE Tryz.f93 Q) m1 ((.p s0)::us 2 ((.l l3.a l3.n l3.c)::us 7 ((.l t11.a t11.n t11.c)::(.i t12)::(.i t13)::us 23 [])))
def Lf:KP:=⟨[(15,[0,1,5]),(16,[0,1,5]),(20,[0,1,5])],[(6,[0,2,3,4,5,6,7,8,10,11])]⟩
def ZX:EW:=sE Tryz.f94 Lf jn Q [1,1,1,1,1] (rE Tryz.f94 Q) A6
def Azp(m1:Nat):EW:=Iy PR Lf jn (bE Tryz.f94 [1,1,1,1,0,0,0]) (A8 0 (ZX jn Q) A6) (rE Tryz.f94 Q) m1
def XR(m1:Nat):EW:=cE Tryz.f94 Lf jn Q [1,1,1,1,0,0,0,1] (Azp jn Q m1) (A8 0 (ZX jn Q) A6)
def Am6(m1:Nat)(m0:OA)(key1:BA)(gone5:Sl):WP:=jn 16 (XR jn Q m1) ((.p m0)::(.s key1)::us 3 ((.l gone5.a gone5.n gone5.c)::us 45 []))
def XS:EW:=cE Tryz.f94 Lf jn Q [1,1,1,1,1] (rE Tryz.f94 Q) A6
def Pw(m0:OA)(key1:BA)(gone5:Sl):WP:=jn 20 (XS jn Q) ((.p m0)::(.s key1)::us 3 ((.l gone5.a gone5.n gone5.c)::us 45 []))
def UO(m1:Nat)(m0:OA)(key1:BA)(gone5:Sl):WP:=CQ PR Lf jn (bE Tryz.f94 [1,1,1,1,0,0,0]) (A8 0 (ZX jn Q) A6) (rE Tryz.f94 Q) m1 ((.p m0)::(.s key1)::us 3 ((.l gone5.a gone5.n gone5.c)::us 45 []))
def Am7:KP:=⟨[(5,[0,6,7,8])],[]⟩
def Pz(m1:Nat)(s0:OA)(t6:Sl)(t7 t8:Int):WP:=CQ PR Am7 jn (bE Tryz.f95 [1,0,0]) (A8 0 (rE Tryz.f95 Q) A6) (rE Tryz.f95 Q) m1 ((.p s0)::us 5 ((.l t6.a t6.n t6.c)::(.i t7)::(.i t8)::us 15 []))
def UP:KP:=⟨[(9,[0,1,5,11,12,13]),(20,[5])],[]⟩
def Azq:EW:=sE Tryz.f98 UP jn Q [1,1,1] (rE Tryz.f98 Q) A6
def XT:EW:=cE Tryz.f98 UP jn Q [1,1,1] (rE Tryz.f98 Q) A6
def Azr(l5:Sl):WP:=jn 20 (XT jn Q) (us 5 ((.l l5.a l5.n l5.c)::us 29 []))
def P1(m1:Nat)(t0:OA)(now1:Int)(l5 t11:Sl)(t12 t13:Int):WP:=CQ PR UP jn (bE Tryz.f98 [1,1,0,1,0,0]) (A8 0 (Azq jn Q) A6) (rE Tryz.f98 Q) m1 ((.p t0)::(.i now1)::us 3 ((.l l5.a l5.n l5.c)::us 5 ((.l t11.a t11.n t11.c)::(.i t12)::(.i t13)::us 21 [])))
def H1:KP:=⟨[(11,[2,3,4,6,14]),(18,[3,6]),(23,[3,6,8,32]),(30,[3,6])],[(6,[0,1,2,3,4,5,7,11])]⟩
def Aqa:EW:=sE Tryz.f100 H1 jn Q [1,1,1] (rE Tryz.f100 Q) A6
def Ah7:EW:=sE Tryz.f100 H1 jn Q [1,1,1,1,1] (rE Tryz.f100 Q) A6
def Rt:EW:=cE Tryz.f100 H1 jn Q [1,1,1,1,1] (rE Tryz.f100 Q) A6
def Aqc(w3b w3o t6b t6o:Nat):WP:=jn 30 (Rt jn Q) (us 3 ((pq w3b w3o)::us 2 ((pq t6b t6o)::us 39 [])))
def Nz(m3:Nat)(w3b w3o t6b t6o:Nat)(t8 t32:Int):WP:=CQ PR H1 jn (bE Tryz.f100 [1,1,1,1,0,1,0,0]) (A8 2 (Ah7 jn Q) A6) (rE Tryz.f100 Q) m3 (us 3 ((pq w3b w3o)::us 2 ((pq t6b t6o)::us 1 ((.int .u64 t8)::us 23 ((.i t32)::us 13 [])))))
def Rs:EW:=cE Tryz.f100 H1 jn Q [1,1,1] (rE Tryz.f100 Q) A6
def Aqb(w3b w3o t6b t6o:Nat):WP:=jn 18 (Rs jn Q) (us 3 ((pq w3b w3o)::us 2 ((pq t6b t6o)::us 39 [])))
def Ny(m1:Nat)(all2:Int)(w3b w3o ghosts4b ghosts4o t6b t6o:Nat)(t14:Int):WP:=CQ PR H1 jn (bE Tryz.f100 [1,1,0,1,0,0]) (A8 0 (Aqa jn Q) A6) (rE Tryz.f100 Q) m1 (us 2 ((.i all2)::(pq w3b w3o)::(pq ghosts4b ghosts4o)::us 1 ((pq t6b t6o)::us 7 ((.i t14)::us 31 []))))
def N0:KP:=⟨[(9,[1,5,8,9]),(20,[])],[]⟩
def Aqd:EW:=sE Tryz.f101 N0 jn Q [1,1,1] (rE Tryz.f101 Q) A6
def Ru:EW:=cE Tryz.f101 N0 jn Q [1,1,1] (rE Tryz.f101 Q) A6
def Aqe:WP:=jn 20 (Ru jn Q) (us 22 [])
def N1(m1:Nat)(draw1 sum5 t8_0 t8_1 t8_2 t8_3 t8_4 t9:Int):WP:=CQ PR N0 jn (bE Tryz.f101 [1,1,0,1,0,0]) (A8 0 (Aqd jn Q) A6) (rE Tryz.f101 Q) m1 (us 1 ((.int .u32 draw1)::us 3 ((.int .u64 sum5)::us 2 ((.agg #[.int .u64 t8_0,.int .u64 t8_1,.int .u64 t8_2,.int .u64 t8_3,.int .u64 t8_4])::(.i t9)::us 12 []))))
def Aqf:KP:=⟨[],[(4,[0,1,2,3,4,5,6,8,9]),(6,[0,1,2,3,4,5,6,8,9,11])]⟩
def N2:KP:=⟨[(10,[0,1,8]),(16,[0,1])],[]⟩
def Abt:EW:=sE Tryz.f104 N2 jn Q [1,1] (rE Tryz.f104 Q) A6
def Rw:EW:=cE Tryz.f104 N2 jn Q [1,1] (rE Tryz.f104 Q) A6
def Aqg(s0:OA)(kind1:Int):WP:=jn 16 (Rw jn Q) ((.p s0)::(.i kind1)::us 29 [])
def Rv:EW:=cE Tryz.f104 N2 jn Q [1,0,0,1,1,1] (Abt jn Q) (A8 0 (Abt jn Q) A6)
def Abu(s0:OA)(kind1:Int)(t8:Bool):WP:=jn 10 (Rv jn Q) ((.p s0)::(.i kind1)::us 6 ((.b t8)::us 22 []))
def N3:KP:=⟨[(15,[0,5]),(20,[0,5])],[(6,[0,2,3,4,5,6]),(9,[0,1,2,3,4,5,6,7,8,9,10,11,15,16,17,18,19])]⟩
def Aqh:EW:=sE Tryz.f105 N3 jn Q [1,1,1,1,1,1] (rE Tryz.f105 Q) A6
def Rx:EW:=cE Tryz.f105 N3 jn Q [1,1,1,1,1,1] (rE Tryz.f105 Q) A6
def Abv(m0:OA)(gone5:Sl):WP:=jn 20 (Rx jn Q) ((.p m0)::us 4 ((.l gone5.a gone5.n gone5.c)::us 48 []))
def N4(m1:Nat)(m0:OA)(gone5:Sl):WP:=CQ PR N3 jn (bE Tryz.f105 [1,1,1,1,1,0,0,0]) (A8 0 (Aqh jn Q) A6) (rE Tryz.f105 Q) m1 ((.p m0)::us 4 ((.l gone5.a gone5.n gone5.c)::us 48 []))
def Aqi:KP:=⟨[],[(3,[0,2,3,4,5,6,7,8,9])]⟩
def N5:KP:=⟨[(9,[1,2,3,5]),(18,[1,2,3])],[(5,[0,1,2,3,4,6]),(8,[0,1,2,5,6,7])]⟩
def Aqk:EW:=sE Tryz.f115 N5 jn Q [1,1,1] (rE Tryz.f115 Q) A6
def Ry:EW:=cE Tryz.f115 N5 jn Q [1,1,1] (rE Tryz.f115 Q) A6
def Abw(w1b w1o t2b t2o:Nat)(best3:Int):WP:=jn 18 (Ry jn Q) (us 1 ((pq w1b w1o)::(pq t2b t2o)::(.i best3)::us 22 []))
def JY(m1:Nat)(w1b w1o t2b t2o:Nat)(best3 t5:Int):WP:=CQ PR N5 jn (bE Tryz.f115 [1,1,0,1,0,0]) (A8 0 (Aqk jn Q) A6) (rE Tryz.f115 Q) m1 (us 1 ((pq w1b w1o)::(pq t2b t2o)::(.i best3)::us 1 ((.i t5)::us 20 [])))
def N6:KP:=⟨[(9,[1,5,14,15]),(16,[5])],[]⟩
def Aql:EW:=sE Tryz.f117 N6 jn Q [1,1,1] (rE Tryz.f117 Q) A6
def Rz:EW:=cE Tryz.f117 N6 jn Q [1,1,1] (rE Tryz.f117 Q) A6
def Aqm(h5:Int):WP:=jn 16 (Rz jn Q) (us 5 ((.int .u64 h5)::us 22 []))
def N7(m1:Nat)(s1:BA)(h5 t14 t15:Int):WP:=CQ PR N6 jn (bE Tryz.f117 [1,1,0,1,0,0]) (A8 0 (Aql jn Q) A6) (rE Tryz.f117 Q) m1 (us 1 ((.s s1)::us 3 ((.int .u64 h5)::us 8 ((.i t14)::(.i t15)::us 12 []))))
def JZ:KP:=⟨[(8,[0]),(11,[0,14,15]),(22,[])],[]⟩
def Aqn:EW:=sE Tryz.f118 JZ jn Q [1,1,1] (rE Tryz.f118 Q) A6
def R1:EW:=cE Tryz.f118 JZ jn Q [1,1,1] (rE Tryz.f118 Q) A6
def Aqp:WP:=jn 22 (R1 jn Q) (us 49 [])
def Cs(m2:Nat)(s0:BA)(t14 t15:Int):WP:=CQ PR JZ jn (bE Tryz.f118 [1,1,0,1,0,0]) (A8 0 (Aqn jn Q) A6) (rE Tryz.f118 Q) m2 ((.s s0)::us 13 ((.i t14)::(.i t15)::us 33 []))
def R0:EW:=cE Tryz.f118 JZ jn Q [1,1] (rE Tryz.f118 Q) A6
def Aqo(s0:BA):WP:=jn 8 (R0 jn Q) ((.s s0)::us 48 [])
def Ea:KP:=⟨[(12,[4])],[]⟩
def R2:EW:=cE Tryz.f120 Ea jn Q [1,1] (rE Tryz.f120 Q) A6
def Abx(t4b t4o:Nat):WP:=jn 12 (R2 jn Q) (us 4 ((pq t4b t4o)::us 22 []))
def Aby:KP:=⟨[(8,[0,2])],[]⟩
def R3:EW:=cE Tryz.f125 Aby jn Q [1,1] (rE Tryz.f125 Q) A6
def TV(c0:OA)(gone2:Bool):WP:=jn 8 (R3 jn Q) ((.p c0)::us 1 ((.b gone2)::us 29 []))
def Aqq:KP:=⟨[],[(4,[0,1,2,3,4,5,6,7,9]),(5,[0,1,2,3,5,6,7,8,9]),(7,[0,1,2,3,4,5,6,10,11,12,13,14])]⟩
def ID:KP:=⟨[],[(5,[0,1,2,3,4,6,7]),(8,[0,1,2,3,4,5,6,7,9,10])]⟩
def Abz:KP:=⟨[(8,[0,1,2])],[]⟩
def R4:EW:=cE Tryz.f128 Abz jn Q [1,1] (rE Tryz.f128 Q) A6
def TW(f0:OA)(kind1:Int)(key2:BA):WP:=jn 8 (R4 jn Q) ((.p f0)::(.i kind1)::(.s key2)::us 21 [])
def N8:KP:=⟨[(13,[0,3,4]),(20,[3])],[]⟩
def Aqr:EW:=sE Tryz.f129 N8 jn Q [1,1,1,1] (rE Tryz.f129 Q) A6
def R5:EW:=cE Tryz.f129 N8 jn Q [1,1,1,1] (rE Tryz.f129 Q) A6
def Aqs(all3:Sl):WP:=jn 20 (R5 jn Q) (us 3 ((.l all3.a all3.n all3.c)::us 21 []))
def Ka(m1:Nat)(f0:OA)(all3:Sl)(l4:OA):WP:=CQ PR N8 jn (bE Tryz.f129 [1,1,1,0,1,0,0]) (A8 0 (Aqr jn Q) A6) (rE Tryz.f129 Q) m1 ((.p f0)::us 2 ((.l all3.a all3.n all3.c)::(.p l4)::us 20 []))
def Aqu:KP:=⟨[],[(10,[0,1,2,3,4]),(12,[0,1,2,3,4])]⟩
def R6:EW:=cE Tryz.f132 Ld jn Q [1,1] (rE Tryz.f132 Q) A6
def N9(m0:OA)(key1:BA):WP:=jn 8 (R6 jn Q) ((.p m0)::(.s key1)::us 28 [])
def Aqv:KP:=⟨[],[(3,[0,2,3,4,5,7,8])]⟩
def NA:KP:=⟨[(7,[1,5,6]),(16,[1])],[]⟩
def Aqw:EW:=sE Tryz.f138 NA jn Q [1,1] (rE Tryz.f138 Q) A6
def R7:EW:=cE Tryz.f138 NA jn Q [1,1] (rE Tryz.f138 Q) A6
def Aqx(w1b w1o:Nat):WP:=jn 16 (R7 jn Q) (us 1 ((pq w1b w1o)::us 17 []))
def NB(m1:Nat)(w1b w1o:Nat)(t5_0 t5_1 t5_2 t5_3 t5_4 t6:Int):WP:=CQ PR NA jn (bE Tryz.f138 [1,0,1,0,0]) (A8 0 (Aqw jn Q) A6) (rE Tryz.f138 Q) m1 (us 1 ((pq w1b w1o)::us 3 ((.agg #[.int .u64 t5_0,.int .u64 t5_1,.int .u64 t5_2,.int .u64 t5_3,.int .u64 t5_4])::(.i t6)::us 12 [])))
def NC:KP:=⟨[(9,[3,5,6]),(14,[3])],[]⟩
def Aqz:EW:=sE Tryz.f140 NC jn Q [1,1,1] (rE Tryz.f140 Q) A6
def R8:EW:=cE Tryz.f140 NC jn Q [1,1,1] (rE Tryz.f140 Q) A6
def Aq0(x3:Int):WP:=jn 14 (R8 jn Q) (us 3 ((.int .u64 x3)::us 9 []))
def ND(m1:Nat)(x3 t5 t6:Int):WP:=CQ PR NC jn (bE Tryz.f140 [1,1,0,1,0,0]) (A8 0 (Aqz jn Q) A6) (rE Tryz.f140 Q) m1 (us 3 ((.int .u64 x3)::us 1 ((.i t5)::(.i t6)::us 6 [])))
def NF:KP:=⟨[(9,[3,6,7]),(16,[3])],[]⟩
def Aq1:EW:=sE Tryz.f142 NF jn Q [1,1,1] (rE Tryz.f142 Q) A6
def R9:EW:=cE Tryz.f142 NF jn Q [1,1,1] (rE Tryz.f142 Q) A6
def Aq2(sum3:Int):WP:=jn 16 (R9 jn Q) (us 3 ((.int .u64 sum3)::us 11 []))
def NG(m1:Nat)(sum3 t6_0 t6_1 t6_2 t6_3 t6_4 t7:Int):WP:=CQ PR NF jn (bE Tryz.f142 [1,1,0,1,0,0]) (A8 0 (Aq1 jn Q) A6) (rE Tryz.f142 Q) m1 (us 3 ((.int .u64 sum3)::us 2 ((.agg #[.int .u64 t6_0,.int .u64 t6_1,.int .u64 t6_2,.int .u64 t6_3,.int .u64 t6_4])::(.i t7)::us 7 [])))
def NH:KP:=⟨[(7,[0,3]),(14,[3])],[]⟩
def Aq3:EW:=sE Tryz.f145 NH jn Q [1,1,1] (rE Tryz.f145 Q) A6
def RA:EW:=cE Tryz.f145 NH jn Q [1,1,1] (rE Tryz.f145 Q) A6
def Aq4(n3:Int):WP:=jn 14 (RA jn Q) (us 3 ((.i n3)::us 13 []))
def IE(m1:Nat)(m0:OA)(n3:Int):WP:=CQ PR NH jn (bE Tryz.f145 [1,1,0,0,0]) (A8 0 (Aq3 jn Q) A6) (rE Tryz.f145 Q) m1 ((.p m0)::us 2 ((.i n3)::us 13 []))
def Kb:KP:=⟨[(13,[8,21,22,23]),(20,[8])],[]⟩
def Ab0:EW:=sE Tryz.f146 Kb jn Q [1,1,1,1] (rE Tryz.f146 Q) A6
def Aq6(m1:Nat)(t21:Sl)(t22 t23:Int):WP:=CQ PR Kb jn (bE Tryz.f146 [1,1,1,0,1,0,0]) (A8 0 (Ab0 jn Q) A6) (rE Tryz.f146 Q) m1 (us 8 ((.nilIface)::us 12 ((.l t21.a t21.n t21.c)::(.i t22)::(.i t23)::us 8 [])))
def RB:EW:=cE Tryz.f146 Kb jn Q [1,1,1,1] (rE Tryz.f146 Q) A6
def Aq5(e8_t:TypeId)(e8_v:Value):WP:=jn 20 (RB jn Q) (us 8 ((.iface e8_t e8_v)::us 23 []))
def NI(m3:Nat)(e8_t:TypeId)(e8_v:Value)(t21:Sl)(t22 t23:Int):WP:=CQ PR Kb jn (bE Tryz.f146 [1,1,1,0,1,0,0]) (A8 0 (Ab0 jn Q) A6) (rE Tryz.f146 Q) m3 (us 8 ((.iface e8_t e8_v)::us 12 ((.l t21.a t21.n t21.c)::(.i t22)::(.i t23)::us 8 [])))
def AA:KP:=⟨[(8,[0,1,6,7]),(11,[0,1,6,7]),(14,[0,1,6,7,8,35]),(18,[0,1,6,7,8,50]),(22,[0,1,6,7,8,61])],[(2,[0,1,2,3,4,6,7,8,9,10,12])]⟩
def Ab1(m1:Nat):EW:=Iy PR AA jn (bE Tryz.f158 [1,1,1,0,0]) (A8 0 (rE Tryz.f158 Q) A6) (rE Tryz.f158 Q) m1
def Kc(m1:Nat):EW:=sE Tryz.f158 AA jn Q [1,1,1,0,0,1] (Ab1 jn Q m1) (A8 0 (rE Tryz.f158 Q) A6)
def Aq8(m1:Nat):Nat->EW:=A8 1 (Kc jn Q m1) (A8 0 (rE Tryz.f158 Q) A6)
def TZ(m1:Nat):Nat->EW:=A8 2 (Kc jn Q m1) (Aq8 jn Q m1)
def RE(m1:Nat):EW:=cE Tryz.f158 AA jn Q [1,1,1,0,0,1] (Ab1 jn Q m1) (A8 0 (rE Tryz.f158 Q) A6)
def Uc(m1:Nat)(x0:OA)(key1:BA)(free6 i7:Int):WP:=jn 8 (RE jn Q m1) ((.p x0)::(.s key1)::us 4 ((.i free6)::(.i i7)::us 71 []))
def RF(m1:Nat):EW:=cE Tryz.f158 AA jn Q [1,1,1,0,0,0,0,1,0,1,1,1,1,1] (Kc jn Q m1) (TZ jn Q m1)
def Ud(m1:Nat)(x0:OA)(key1:BA)(free6 i7:Int)(p8b p8o:Nat)(t61:Bool):WP:=jn 22 (RF jn Q m1) ((.p x0)::(.s key1)::us 4 ((.i free6)::(.i i7)::(pq p8b p8o)::us 52 ((.b t61)::us 17 [])))
def RD(m1:Nat):EW:=cE Tryz.f158 AA jn Q [1,1,1,0,0,0,0,1,0,1,1,1] (Kc jn Q m1) (TZ jn Q m1)
def Ub(m1:Nat)(x0:OA)(key1:BA)(free6 i7:Int)(p8b p8o:Nat)(t50:Bool):WP:=jn 18 (RD jn Q m1) ((.p x0)::(.s key1)::us 4 ((.i free6)::(.i i7)::(pq p8b p8o)::us 41 ((.b t50)::us 28 [])))
def RC(m1:Nat):EW:=cE Tryz.f158 AA jn Q [1,1,1,0,0,0,0,1,0,1] (Kc jn Q m1) (TZ jn Q m1)
def Ua(m1:Nat)(x0:OA)(key1:BA)(free6 i7:Int)(p8b p8o:Nat)(t35:Bool):WP:=jn 14 (RC jn Q m1) ((.p x0)::(.s key1)::us 4 ((.i free6)::(.i i7)::(pq p8b p8o)::us 26 ((.b t35)::us 43 [])))
def NJ(m1:Nat)(x0:OA)(key1:BA)(free6 i7:Int):WP:=CQ PR AA jn (bE Tryz.f158 [1,1,1,0,0]) (A8 0 (rE Tryz.f158 Q) A6) (rE Tryz.f158 Q) m1 ((.p x0)::(.s key1)::us 4 ((.i free6)::(.i i7)::us 71 []))
def Ara:KP:=⟨[],[(8,[0,1,2,3,4,5,6,7,9,10])]⟩
def Eb:KP:=⟨[(8,[0,1,2,7])],[(3,[0,1,2,3,4,5,7,8])]⟩
def RG:EW:=cE Tryz.f166 Eb jn Q [1,1] (rE Tryz.f166 Q) A6
def Ab2(x0:OA)(i1:Int)(key2:BA)(v7b v7o:Nat):WP:=jn 8 (RG jn Q) ((.p x0)::(.i i1)::(.s key2)::us 4 ((pq v7b v7o)::us 32 []))
def Dt:KP:=⟨[(9,[0,28,29,30])],[]⟩
def Kd(m1:Nat)(x0:OA)(t28:Sl)(t29 t30:Int):WP:=CQ PR Dt jn (bE Tryz.f167 [1,1,1,0,0]) (A8 0 (rE Tryz.f167 Q) A6) (rE Tryz.f167 Q) m1 ((.p x0)::us 27 ((.l t28.a t28.n t28.c)::(.i t29)::(.i t30)::us 21 []))
def Kf:KP:=⟨[(8,[0,3,4,13]),(10,[0,3,13])],[(1,[0,1,2,4,5,6,8,9]),(2,[0,1,2,3,4,5,6,7,8,9,10,11,12,13,14,15,17,18,19])]⟩
def Ke:EW:=sE Tryz.f168 Kf jn Q [1,1,1] (rE Tryz.f168 Q) A6
def Arb:EW:=sE Tryz.f168 Kf jn Q [1,1,0,0,1] (Ke jn Q) (A8 0 (Ke jn Q) A6)
def RI:EW:=cE Tryz.f168 Kf jn Q [1,1,0,0,1] (Ke jn Q) (A8 0 (Ke jn Q) A6)
def NL(f0:OA)(r3 t13:Bool):WP:=jn 10 (RI jn Q) ((.p f0)::us 2 ((.b r3)::us 9 ((.b t13)::us 32 [])))
def RH:EW:=cE Tryz.f168 Kf jn Q [1,1,0,0,0,1] (Arb jn Q) (A8 0 (Ke jn Q) A6)
def NK(f0:OA)(r3 w4 t13:Bool):WP:=jn 8 (RH jn Q) ((.p f0)::us 2 ((.b r3)::(.b w4)::us 8 ((.b t13)::us 32 [])))
def CH:KP:=⟨[(9,[2,3,6,7]),(14,[2,3])],[(4,[0,1,5])]⟩
def Arc:EW:=sE Tryz.f184 CH jn Q [1,1,1] (rE Tryz.f184 Q) A6
def Aeg:EW:=cE Tryz.f184 CH jn Q [1,1,1] (rE Tryz.f184 Q) A6
def Ard(m1:Nat)(t2b t2o r3b r3o:Nat)(t6 t7:Int):WP:=CQ PR CH jn (bE Tryz.f184 [1,1,0,1,0,0]) (A8 0 (Arc jn Q) A6) (rE Tryz.f184 Q) m1 (us 2 ((pq t2b t2o)::(pq r3b r3o)::us 2 ((.i t6)::(.i t7)::us 9 [])))
def Are:EW:=sE Tryz.f186 CH jn Q [1,1,1] (rE Tryz.f186 Q) A6
def Aeh:EW:=cE Tryz.f186 CH jn Q [1,1,1] (rE Tryz.f186 Q) A6
def Arf(m1:Nat)(t2b t2o r3b r3o:Nat)(t6 t7:Int):WP:=CQ PR CH jn (bE Tryz.f186 [1,1,0,1,0,0]) (A8 0 (Are jn Q) A6) (rE Tryz.f186 Q) m1 (us 2 ((pq t2b t2o)::(pq r3b r3o)::us 2 ((.i t6)::(.i t7)::us 9 [])))
def Arh:EW:=sE Tryz.f187 CH jn Q [1,1,1] (rE Tryz.f187 Q) A6
def Aei:EW:=cE Tryz.f187 CH jn Q [1,1,1] (rE Tryz.f187 Q) A6
def Ari(m1:Nat)(t2b t2o r3b r3o:Nat)(t6 t7:Int):WP:=CQ PR CH jn (bE Tryz.f187 [1,1,0,1,0,0]) (A8 0 (Arh jn Q) A6) (rE Tryz.f187 Q) m1 (us 2 ((pq t2b t2o)::(pq r3b r3o)::us 2 ((.i t6)::(.i t7)::us 9 [])))
def Gd:KP:=⟨[(7,[0,3]),(10,[3])],[]⟩
def Arj:EW:=sE Tryz.f188 Gd jn Q [1,1,1] (rE Tryz.f188 Q) A6
def RJ:EW:=cE Tryz.f188 Gd jn Q [1,1,1] (rE Tryz.f188 Q) A6
def Ark(n3:Int):WP:=jn 10 (RJ jn Q) (us 3 ((.i n3)::us 13 []))
def NM(m1:Nat)(room0 n3:Int):WP:=CQ PR Gd jn (bE Tryz.f188 [1,1,0,0,0]) (A8 0 (Arj jn Q) A6) (rE Tryz.f188 Q) m1 ((.i room0)::us 2 ((.i n3)::us 13 []))
end
variable{jn:Jn}{Q:VW}{key1 key2 val2 s1:BA}{m1 w1b w1o w3b w3o t6b t6o p8b p8o t0b t0o m2 m3 t2b t2o:Nat}{m0 s0 x0 t0 f0 l0 g0 c0:OA}{room0 kind1 kind0 room1 w0_0 w0_1 w0_2 w0_3 w0_4 free6 i7 seed0 n3 now2 now1 t14 reads0 writes1 n1 now3 life4 t12 t13 t7 t8 all2 draw1 best3 t5 h0 h5 t15 t6 a0 x3 sum3 h1 i1:Int}{gone5 l3 t11 l5 all3:Sl}{hit5 gone2 r3:Bool}{e8_t:TypeId}{e8_v:Value}
theorem ZM:XJ jn Q ((.i reads0)::(.i writes1)::us 26 [])=(A5 λS=>VD [
 (Af9 PR 182 (.i reads0) λB1=>Af9 PR 182 (.i writes1) λB2=>A1 [.chan (some B1),.i 0,.s Ae,.i 0,.b false,.chan (some B2),.i 0,.s Ae,.i 0,.b false,.i 0,.i 0] 188 λB3=>Q (.tuple #[pq B3 0,.i 0])),
 (Af9 PR 182 (.i writes1) λB4=>Af9 PR 182 (.i reads0) λB5=>A1 [.chan (some B5),.i 0,.s Ae,.i 0,.b false,.chan (some B4),.i 0,.s Ae,.i 0,.b false,.i 0,.i 0] 188 λB6=>Q (.tuple #[pq B6 0,.i 0]))]):=by kernel_rfl
theorem Auz:Av jn PR Am3 Tryz.f75 [.i reads0,.i writes1] Q=(Aj (decide (reads0<0)) (Q (.tuple #[.p none,.i 1])) (Aj (decide (reads0>256)) (Q (.tuple #[.p none,.i 1])) (Aj (decide (writes1<1)) (Q (.tuple #[.p none,.i 1])) (Aj (decide (writes1>256)) (Q (.tuple #[.p none,.i 1])) (Azg jn Q reads0 writes1))))):=by kernel_rfl
theorem Au0:Av jn PR Aw Tryz.f76 [.i kind0,.i room1] Q=(OU (.int .i64) PR 113 [.i kind0,.i room1] (λ(X1:Int)=>Aj (X1 != 0) (Q (.tuple #[.p none,.i X1])) (C9)) λ(t_2:TypeId)(v_3:Value)(X1:Int)=>Aj (X1 != 0) (Q (.tuple #[.p none,.i X1])) (
 EC PR t_2 v_3 "Room" fun f_4 r_5 =>Bw f_4 [r_5] fun X6=>A1 [.i kind0,.i X6,.iface t_2 v_3,.nilIface] 124 fun B7=>Q (.tuple #[pq B7 0,.i 0]))):=by kernel_rfl
theorem Au1:Av jn PR Aw Tryz.f77 [] Q=(JP 114 [.int .u64 0] λX1=>A1 [.p X1] 118 λB2=>Q (pq B2 0)):=by kernel_rfl
theorem Au2:Av jn PR Aw Tryz.f78 [.i kind0] Q=(Aj (decide (kind0>=0)) (Q (.b (decide (kind0<5)))) (Q (.b false))):=by kernel_rfl
theorem ZN:XK jn Q ((pq t0b t0o)::(pq w1b w1o)::us 9 [])=(Dx w1b w1o λX3=>Dx w1b (w1o+1) λX4=>Dx w1b ((w1o+1)+1) λX5=>Dx w1b (((w1o+1)+1)+1) λX6=>Dx w1b ((((w1o+1)+1)+1)+1) λX7=>λw=>Calls PR 115 #[.agg #[.int .u64 X3,.int .u64 X4,.int .u64 X5,.int .u64 X6,.int .u64 X7]] w λe w'=>∃X8:Int,∃X9:Int,∃X10:Int,∃X11:Int,∃X12:Int,e = .returned (.agg #[.int .u64 X8,.int .u64 X9,.int .u64 X10,.int .u64 X11,.int .u64 X12])/\(st t0b t0o (.int .u64 X8)<|st t0b (t0o+1) (.int .u64 X9)<|st t0b ((t0o+1)+1) (.int .u64 X10)<|
 st t0b (((t0o+1)+1)+1) (.int .u64 X11)<|st t0b ((((t0o+1)+1)+1)+1) (.int .u64 X12)<|Dx t0b t0o λX13=>Dx t0b (t0o+1) λX14=>Dx t0b ((t0o+1)+1) λX15=>Dx t0b (((t0o+1)+1)+1) λX16=>Dx t0b ((((t0o+1)+1)+1)+1) λX17=>Q (.agg #[.int .u64 X13,.int .u64 X14,.int .u64 X15,.int .u64 X16,.int .u64 X17])) w'):=by kernel_rfl
theorem Pr{t3:Int}:UL jn Q (m1+1) t0b t0o w1b w1o t3=(Aj (decide (t3<5)) (AY ((0:Int)<=t3/\t3<((5:Nat):Int))<|st w1b (w1o+t3.toNat*1) (.int .u64 858993459)<|UL jn Q m1 t0b t0o w1b w1o (IntKind.wrap .i64 (t3+1))) (Azi jn Q t0b t0o w1b w1o)):=by kernel_rfl
theorem Au3:Av jn PR UK Tryz.f79 [] Q=(A1 [.int .u64 0,.int .u64 0,.int .u64 0,.int .u64 0,.int .u64 0] 140 λB1=>A1 [.int .u64 0,.int .u64 0,.int .u64 0,.int .u64 0,.int .u64 0] 140 λB2=>DF λm=>UL jn Q m B1 0 B2 0 0):=by kernel_rfl
theorem Au4{s0:Sl}:Av jn PR Aw Tryz.f80 [.l s0.a s0.n s0.c] Q=(Aj (Option.isNone s0.a) (Q (.l none 0 0)) (A1 [] 145 λB1=>Bt 145 1 4 [.int .u32 0] ⟨(some ⟨B1,0,none⟩),0,0⟩ s0.n (λw=>HF w s0.a (s0.n*1)) λG2=>Q (.l G2.a G2.n G2.c))):=by kernel_rfl
theorem Au5{key0:BA}:Av jn PR Aw Tryz.f81 [.s key0,.i n1] Q=(YS 117 [.int .u64 31,.s key0] λX1=>Bw 72 [.i n1,.i 1,.i 8] λX2=>Bw 116 [.int .u64 X1,.i X2] λX3=>Q (.i X3)):=by kernel_rfl
theorem Au6:Av jn PR Aw Tryz.f82 [.p s0,.s key1,.i now2] Q=(Aj (Option.isNone s0) (Q (.i 1)) (Dw 118 [.s key1] λX1=>Aj (!X1) (Q (.i 2)) (Dw 97 [.i now2] λX2=>Aj (!X2) (Q (.i 1)) (Q (.i 0))))):=by kernel_rfl
theorem ZO:XL jn Q ((.p s0)::(.s key1)::us 36 [])=(A1 [.s key1] 9 λB10=>wz 95 [.p s0,.l (some ⟨B10,0,none⟩) 1 1]<|wz 92 [.p s0,.i 3,.s key1]<|A1 [.s key1] 9 λB11=>Q (.l (some ⟨B11,0,none⟩) 1 1)):=by kernel_rfl
theorem Au7:Av jn PR Am5 Tryz.f83 [.p s0,.s key1,.i now2] Q=(Ad s0 λB1 O2=>Bs B1 O2 λX3=>ED 85 [.p X3,.s key1,.i now2] λX4 X5=>Aj X5 (Q (.l none 0 0)) (Ad s0 λB6 O7=>Bs B6 O7 λX8=>Dw 90 [.p X8,.s key1] λX9=>Aj (!X9) (Q (.l none 0 0)) (Am4 jn Q s0 key1))):=by kernel_rfl
theorem Au8{n0:OA}:Av jn PR Aw Tryz.f84 [.p n0] Q=(Ad n0 λB1 O2=>Ay B1 O2 λX3=>Bw 119 [.i X3,.i 1099511627776] λX4=>Ad n0 λB5 O6=>st B5 O6 (.i X4)<|Q (.tuple #[])):=by kernel_rfl
theorem Au9:Av jn PR Aw Tryz.f85 [.p t0,.s key1,.i now2] Q=(Aj (Option.isNone t0) (Q (.tuple #[.s Ae,.b false])) (Ad t0 λB1 O2=>Bs B1 O2 λX3=>λw=>Calls PR 120 #[.p X3,.s key1] w λe w'=>∃X4:BA,∃X5:Int,∃X6:Bool,e = .returned (.tuple #[.agg #[.s X4,.i X5],.b X6])/\(A1 [.s Ae,.i 0] 120 λB7=>st B7 0 (.s X4)<|st B7 1 (.i X5)<|Aj (!X6) (Q (.tuple #[.s Ae,.b false])) (BQ B7 0 λX8=>Ay B7 1 λX9=>Dw 121 [.agg #[.s X8,.i X9],.i now2] λX10=>
 Aj X10 (Q (.tuple #[.s Ae,.b false])) (BQ B7 0 λX11=>Q (.tuple #[.s X11,.b true])))) w')):=by kernel_rfl
theorem Ava:Av jn PR Aw Tryz.f86 [.p f0,.s key1] Q=(Aj (Option.isNone f0) (Q (.b false)) (Ad f0 λB1 O2=>Dw 122 [.p f0,pq B1 O2,.i 1,.s key1] λX3=>Aj (!X3) (Ad f0 λB4 O5=>Ay B4 (O5+11) λX6=>Ad f0 λB7 O8=>st B7 (O8+11) (.i (IntKind.wrap .i64 (X6+1)))<|Q (.b X3)) (Q (.b X3)))):=by kernel_rfl
theorem Avb:Av jn PR Azj Tryz.f87 [.p s0,.s key1] Q=(Aj (Option.isNone s0) (Q (.b false)) (Ad s0 λB1 O2=>Ay B1 (O2+1) λX3=>Bw 119 [.i X3,.i 1099511627776] λX4=>Ad s0 λB5 O6=>st B5 (O6+1) (.i X4)<|A5 λS=>Ad s0 λB7 O8=>Er S B7 O8 λX9=>YS 117 [.int .u64 21,.s key1] λX10=>Aq true S<|Dw 123 [.int .u64 X10,.i X9] λX11=>Aj (!X11) (Q (.b false)) (Ad s0 λB12 O13=>Ay B12 (O13+2) λX14=>Bw 119 [.i X14,.i 1099511627776] λX15=>
 Ad s0 λB16 O17=>st B16 (O17+2) (.i X15)<|Q (.b true)))):=by kernel_rfl
theorem Pt:XN jn Q (us 5 ((.b hit5)::us 51 []))=(Q (.b hit5)):=by kernel_rfl
theorem Jw{t43:Sl}{t44 t45:Int}:ZR jn Q (m2+1) s0 hit5 t43 t44 t45=(Aj (decide (t45<t44)) (C7 t43.a t43.n t45 λB17 O18=>BQ B17 (O18+t45.toNat*1) λX19=>Ad s0 λB20 O21=>Bs B20 (O21+2) λX22=>ED 126 [.p X22,.s X19] λX23 X24=>ZR jn Q m2 s0 hit5 t43 t44 (IntKind.wrap .i64 (t45+1))) (Azl jn Q hit5)):=by kernel_rfl
theorem ZQ{went6:Sl}{back7:Bool}:XM jn Q ((.p s0)::us 4 ((.b hit5)::(.l went6.a went6.n went6.c)::(.b back7)::us 49 []))=(Ad s0 λB13 O14=>wz 125 [.p (some ⟨B13,(O14+3),none⟩),.b hit5,.b back7]<|Ad s0 λB15 O16=>wz 125 [.p (some ⟨B15,(O16+6),none⟩),.b hit5,.b back7]<|DF λm=>ZR jn Q m s0 hit5 went6 (went6.n:Int) 0):=by kernel_rfl
theorem Avc:Av jn PR Pu Tryz.f88 [.p s0,.s key1] Q=(Aj (Option.isNone s0) (Q (.b false)) (Ad s0 λB1 O2=>MW B1 (O2+1) (C9) λ(t_3:TypeId)(v_4:Value)=>
 EC PR t_3 v_4 "Access" fun f_5 r_6 =>A1d f_5 [r_6,.s key1] fun X7 X8=>Aj (!X7) (Ad s0 fun B9 O10=>Bs B9 (O10+2) fun X11=>Dw 124 [.p X11,.s key1] fun X12=>ZP jn Q s0 X7 X8 X12) (ZP jn Q s0 X7 X8 false))):=by kernel_rfl
theorem ZU{v12b v12o:Nat}:XP jn Q ((.p t0)::(.s key1)::us 10 ((pq v12b v12o)::us 41 []))=(A5 λS=>Ad t0 λB3 O4=>EK S B3 O4 λX5=>BQ v12b v12o λX6=>Ay v12b (v12o+1) λX7=>Aq true S<|Dw 127 [.p X5,.s key1,.agg #[.s X6,.i X7]] λX8=>Q (.tuple #[.b X8,.i 0])):=by kernel_rfl
theorem ZS:XO jn Q ((.p t0)::(.s key1)::(.s val2)::(.i now3)::(.i life4)::us 49 [])=(A1 [.s Ae,.i 0] 120 λB2=>st B2 0 (.s val2)<|st B2 1 (.i 0)<|Aj (decide (life4>0)) (st B2 1 (.i (IntKind.wrap .i64 (now3+life4)))<|ZT jn Q t0 key1 B2 0) (ZT jn Q t0 key1 B2 0)):=by kernel_rfl
theorem Avd:Av jn PR ZV Tryz.f89 [.p t0,.s key1,.s val2,.i now3,.i life4] Q=(Aj (Option.isNone t0) (Q (.tuple #[.b false,.i 1])) (Dw 118 [.s key1] λX1=>Aj (!X1) (Q (.tuple #[.b false,.i 2])) (Aj (decide ((val2.size:Int)>64)) (Q (.tuple #[.b false,.i 3])) (Aj (decide (now3<0)) (Q (.tuple #[.b false,.i 1])) (Aj (decide (now3>1125899906842624)) (Q (.tuple #[.b false,.i 1])) (Aj (decide (life4<0)) (Q (.tuple #[.b false,.i 1])) (Aj (decide (life4>1099511627776)) (Q (.tuple #[.b false,.i 1])) (
 Azm jn Q t0 key1 val2 now3 life4)))))))):=by kernel_rfl
theorem Ave:Av jn PR Aw Tryz.f90 [.p t0,.s key1] Q=(Aj (Option.isNone t0) (Q (.b false)) (Ad t0 λB1 O2=>Bs B1 O2 λX3=>λw=>Calls PR 120 #[.p X3,.s key1] w λe w'=>∃X4:BA,∃X5:Int,∃X6:Bool,e = .returned (.tuple #[.agg #[.s X4,.i X5],.b X6])/\(A1 [.s Ae,.i 0] 120 λB7=>st B7 0 (.s X4)<|st B7 1 (.i X5)<|Q (.b X6)) w')):=by kernel_rfl
theorem Avf:Av jn PR Aw Tryz.f91 [.p m0] Q=(Aj (Option.isNone m0) (Q (.i 0)) (Ad m0 λB1 O2=>Ay B1 (O2+1) λX3=>Q (.i X3))):=by kernel_rfl
theorem Avg:Av jn PR Aw Tryz.f92 [.p s0,.i kind1,.s key2] Q=(Ad s0 λB1 O2=>Bs B1 (O2+1) λX3=>Dw 128 [.p X3,.i kind1,.s key2] λX4=>Aj (!X4) (Bw 93 [.p s0] λX5=>Ad s0 λB6 O7=>Bs B6 (O7+1) λX8=>Dw 128 [.p X8,.i kind1,.s key2] λX9=>Q (.tuple #[])) (Q (.tuple #[]))):=by kernel_rfl
theorem ZW:XQ jn Q ((.p s0)::us 2 ((.l l3.a l3.n l3.c)::us 33 []))=(Ad s0 λB16 O17=>AZ B16 (O17+9) λX18=>Bt 159 2 24 [.i 0,.s Ae] ⟨X18.a,X18.n,X18.c⟩ l3.n (λw=>HF w l3.a (l3.n*2)) λG19=>Ad s0 λB20 O21=>st B20 (O21+9) (.l G19.a G19.n G19.c)<|Q (.i (l3.n:Int))):=by kernel_rfl
theorem Pv:UN jn Q (m1+1) s0 l3 t11 t12 t13=(Aj (decide (t13<t12)) (C7 t11.a t11.n t13 λB5 O6=>Ay B5 (O6+t13.toNat*2) λX7=>BQ B5 ((O6+t13.toNat*2)+1) λX8=>A1 [.i 0,.s Ae] 159 λB9=>st B9 0 (.i X7)<|st B9 1 (.s X8)<|A5 λS=>Ad s0 λB10 O11=>EK S B10 (O11+2) λX12=>Ay B9 0 λX13=>BQ B9 1 λX14=>Aq true S<|FI 130 [.p X12,.agg #[.i X13,.s X14]] λX15=>wz 95 [.p s0,.l X15.a X15.n X15.c]<|UN jn Q m1 s0 l3 t11 t12 (IntKind.wrap .i64 (t13+1))) (
 Azo jn Q s0 l3)):=by kernel_rfl
theorem Avh:Av jn PR UM Tryz.f93 [.p s0] Q=(Ad s0 λB1 O2=>Bs B1 (O2+1) λX3=>FI 129 [.p X3] λX4=>DF λm=>UN jn Q m s0 X4 X4 (X4.n:Int) 0):=by kernel_rfl
theorem ZY:XR jn Q m1 ((.p m0)::(.s key1)::us 3 ((.l gone5.a gone5.n gone5.c)::us 45 []))=(ED 135 [.p m0] λX8 X9=>A1 [.s X8] 9 λB10=>Bt 9 1 16 [.s Ae] ⟨gone5.a,gone5.n,gone5.c⟩ 1 (λw=>HF w (some ⟨B10,0,none⟩) (1*1)) λG11=>UO jn Q m1 m0 key1 G11):=by kernel_rfl
theorem Px:XS jn Q ((.p m0)::(.s key1)::us 3 ((.l gone5.a gone5.n gone5.c)::us 45 []))=(Ad m0 λB12 O13=>MW B12 (O13+2) (C9) λ(t_14:TypeId)(v_15:Value)=>
 EC PR t_14 v_15 "Access" fun f_16 r_17 =>A1d f_16 [r_17,.s key1] fun X18 X19=>Bt 9 1 16 [.s Ae] ⟨gone5.a,gone5.n,gone5.c⟩ X19.n (fun w=>HF w X19.a (X19.n*1)) fun G20=>Q (.l G20.a G20.n G20.c)):=by kernel_rfl
theorem Py:UO jn Q (m1+1) m0 key1 gone5=(A5 λS=>Ad m0 λB3 O4=>Er S B3 (O4+1) λX5=>Bw 133 [.p m0] λX6=>Aq true S<|Aj (decide (X6>=X5)) (Bw 134 [.p m0] λX7=>Aj (decide (X7>0)) (Am6 jn Q m1 m0 key1 gone5) (Pw jn Q m0 key1 gone5)) (Pw jn Q m0 key1 gone5)):=by kernel_rfl
theorem Avi:Av jn PR Lf Tryz.f94 [.p m0,.s key1] Q=(Aj (Option.isNone m0) (Q (.l none 0 0)) (Dw 131 [.p m0,.s key1] λX1=>Aj X1 (FI 132 [.p m0,.s key1] λX2=>Q (.l X2.a X2.n X2.c)) (DF λm=>UO jn Q m m0 key1 ⟨none,0,0⟩))):=by kernel_rfl
theorem P0{t6:Sl}:Pz jn Q (m1+1) s0 t6 t7 t8=(Aj (decide (t8<t7)) (C7 t6.a t6.n t8 λB1 O2=>BQ B1 (O2+t8.toNat*1) λX3=>Ad s0 λB4 O5=>Bs B4 O5 λX6=>Dw 96 [.p X6,.s X3] λX7=>Aj X7 (Ad s0 λB8 O9=>wz 84 [.p (some ⟨B8,((O9+3)+3),none⟩)]<|Pz jn Q m1 s0 t6 t7 (IntKind.wrap .i64 (t8+1))) (Pz jn Q m1 s0 t6 t7 (IntKind.wrap .i64 (t8+1)))) (Q (.tuple #[]))):=by kernel_rfl
theorem Avj{keys1:Sl}:Av jn PR Am7 Tryz.f95 [.p s0,.l keys1.a keys1.n keys1.c] Q=(DF λm=>Pz jn Q m s0 keys1 (keys1.n:Int) 0):=by kernel_rfl
theorem Avk:Av jn PR Aw Tryz.f96 [.p t0,.s key1] Q=(Aj (Option.isNone t0) (Q (.b false)) (Ad t0 λB1 O2=>Bs B1 O2 λX3=>λw=>Calls PR 136 #[.p X3,.s key1] w λe w'=>∃X4:BA,∃X5:Int,∃X6:Bool,e = .returned (.tuple #[.agg #[.s X4,.i X5],.b X6])/\(A1 [.s Ae,.i 0] 120 λB7=>st B7 0 (.s X4)<|st B7 1 (.i X5)<|Q (.b X6)) w')):=by kernel_rfl
theorem Avl{now0:Int}:Av jn PR Aw Tryz.f97 [.i now0] Q=(Aj (decide (now0>=0)) (Q (.b (decide (now0<=1125899906842624)))) (Q (.b false))):=by kernel_rfl
theorem ZZ:XT jn Q (us 5 ((.l l5.a l5.n l5.c)::us 29 []))=(Q (.l l5.a l5.n l5.c)):=by kernel_rfl
theorem P2:P1 jn Q (m1+1) t0 now1 l5 t11 t12 t13=(Aj (decide (t13<t12)) (C7 t11.a t11.n t13 λB2 O3=>BQ B2 (O3+t13.toNat*1) λX4=>Ad t0 λB5 O6=>Bs B5 O6 λX7=>λw=>Calls PR 120 #[.p X7,.s X4] w λe w'=>∃X8:BA,∃X9:Int,∃X10:Bool,e = .returned (.tuple #[.agg #[.s X8,.i X9],.b X10])/\(A1 [.s Ae,.i 0] 120 λB11=>st B11 0 (.s X8)<|st B11 1 (.i X9)<|BQ B11 0 λX12=>Ay B11 1 λX13=>Dw 121 [.agg #[.s X12,.i X13],.i now1] λX14=>
 Aj X14 (A1 [.s X4] 9 λB15=>Bt 9 1 16 [.s Ae] ⟨l5.a,l5.n,l5.c⟩ 1 (λw=>HF w (some ⟨B15,0,none⟩) (1*1)) λG16=>P1 jn Q m1 t0 now1 G16 t11 t12 (IntKind.wrap .i64 (t13+1))) (P1 jn Q m1 t0 now1 l5 t11 t12 (IntKind.wrap .i64 (t13+1)))) w') (Azr jn Q l5)):=by kernel_rfl
theorem Avm:Av jn PR UP Tryz.f98 [.p t0,.i now1] Q=(FI 41 [.p t0] λX1=>DF λm=>P1 jn Q m t0 now1 ⟨none,0,0⟩ X1 (X1.n:Int) 0):=by kernel_rfl
theorem Ac1:Av jn PR Aw Tryz.f99 [.p m0] Q=(Dw 42 [.p m0] λX1=>Aj (!X1) (Q (.tuple #[.s Ae,.b false])) (Ad m0 λB2 O3=>MW B2 (O3+3) (C9) λ(t_4:TypeId)(v_5:Value)=>
 EC PR t_4 v_5 "Keys" fun f_6 r_7 =>FI f_6 [r_7] fun X8=>Aj ((X8.n:Int) == 0) (Ad m0 fun B9 O10=>st B9 (O10+3) .nilIface <|Q (.tuple #[.s Ae,.b false])) (C7 X8.a X8.n 0 fun B11 O12=>BQ B11 (O12+((0:Int)).toNat * 1) fun X13=>wz 137 [.p m0,.s X13] <|C7 X8.a X8.n 0 fun B14 O15=>BQ B14 (O15+((0:Int)).toNat * 1) fun X16=>Q (.tuple #[.s X16,.b true])))):=by kernel_rfl
theorem VX:Rt jn Q (us 3 ((pq w3b w3o)::us 2 ((pq t6b t6o)::us 39 [])))=(Dx w3b w3o λX33=>Dx w3b (w3o+1) λX34=>Dx w3b ((w3o+1)+1) λX35=>Dx w3b (((w3o+1)+1)+1) λX36=>Dx w3b ((((w3o+1)+1)+1)+1) λX37=>λw=>Calls PR 115 #[.agg #[.int .u64 X33,.int .u64 X34,.int .u64 X35,.int .u64 X36,.int .u64 X37]] w λe w'=>∃X38:Int,∃X39:Int,∃X40:Int,∃X41:Int,∃X42:Int,e = .returned (.agg #[.int .u64 X38,.int .u64 X39,.int .u64 X40,.int .u64 X41,.int .u64 X42])/\(st t6b t6o (.int .u64 X38)<|st t6b (t6o+1) (.int .u64 X39)<|
 st t6b ((t6o+1)+1) (.int .u64 X40)<|st t6b (((t6o+1)+1)+1) (.int .u64 X41)<|st t6b ((((t6o+1)+1)+1)+1) (.int .u64 X42)<|Dx t6b t6o λX43=>Dx t6b (t6o+1) λX44=>Dx t6b ((t6o+1)+1) λX45=>Dx t6b (((t6o+1)+1)+1) λX46=>Dx t6b ((((t6o+1)+1)+1)+1) λX47=>Q (.agg #[.int .u64 X43,.int .u64 X44,.int .u64 X45,.int .u64 X46,.int .u64 X47])) w'):=by kernel_rfl
theorem LC{t32:Int}:Nz jn Q (m3+1) w3b w3o t6b t6o t8 t32=(Aj (decide (t32<5)) (AY ((0:Int)<=t32/\t32<((5:Nat):Int))<|Dx w3b (w3o+t32.toNat*1) λX31=>YS 143 [.int .u64 X31,.int .u64 4294967296,.int .u64 t8] λX32=>AY ((0:Int)<=t32/\t32<((5:Nat):Int))<|st w3b (w3o+t32.toNat*1) (.int .u64 (if X32>42949672 then X32 else 42949672))<|Nz jn Q m3 w3b w3o t6b t6o t8 (IntKind.wrap .i64 (t32+1))) (Aqc jn Q w3b w3o t6b t6o)):=by kernel_rfl
theorem VV:Rs jn Q (us 3 ((pq w3b w3o)::us 2 ((pq t6b t6o)::us 39 [])))=(Dx w3b w3o λX25=>Dx w3b (w3o+1) λX26=>Dx w3b ((w3o+1)+1) λX27=>Dx w3b (((w3o+1)+1)+1) λX28=>Dx w3b ((((w3o+1)+1)+1)+1) λX29=>YS 142 [.agg #[.int .u64 X25,.int .u64 X26,.int .u64 X27,.int .u64 X28,.int .u64 X29]] λX30=>DF λm=>Nz jn Q m w3b w3o t6b t6o X30 0):=by kernel_rfl
theorem LB{ghosts4b ghosts4o:Nat}:Ny jn Q (m1+1) all2 w3b w3o ghosts4b ghosts4o t6b t6o t14=(Aj (decide (t14<5)) (A5 λS=>AY ((0:Int)<=t14/\t14<((5:Nat):Int))<|YR S w3b (w3o+t14.toNat*1) λX20=>AY ((0:Int)<=t14/\t14<((5:Nat):Int))<|Ay ghosts4b (ghosts4o+t14.toNat*1) λX21=>Aq true S<|Bw 141 [.i X21,.i all2] λX22=>Aq true S<|YS 140 [.i X22] λX23=>Aq true S<|YS 139 [.int .u64 X20,.int .u64 X23] λX24=>AY ((0:Int)<=t14/\t14<((5:Nat):Int))<|
 st w3b (w3o+t14.toNat*1) (.int .u64 X24)<|Ny jn Q m1 all2 w3b w3o ghosts4b ghosts4o t6b t6o (IntKind.wrap .i64 (t14+1))) (Aqb jn Q w3b w3o t6b t6o)):=by kernel_rfl
theorem Ah8{ghosts1_0 ghosts1_1 ghosts1_2 ghosts1_3 ghosts1_4:Int}:Av jn PR H1 Tryz.f100 [.agg #[.int .u64 w0_0,.int .u64 w0_1,.int .u64 w0_2,.int .u64 w0_3,.int .u64 w0_4],.agg #[.i ghosts1_0,.i ghosts1_1,.i ghosts1_2,.i ghosts1_3,.i ghosts1_4],.i all2] Q=(A1 [.int .u64 w0_0,.int .u64 w0_1,.int .u64 w0_2,.int .u64 w0_3,.int .u64 w0_4] 140 λB1=>A1 [.i ghosts1_0,.i ghosts1_1,.i ghosts1_2,.i ghosts1_3,.i ghosts1_4] 100 λB2=>A1 [.int .u64 0,.int .u64 0,.int .u64 0,.int .u64 0,.int .u64 0] 140 λB3=>Dx B1 0 λX4=>Dx B1 1 λX5=>
 Dx B1 2 λX6=>Dx B1 3 λX7=>Dx B1 4 λX8=>Dw 138 [.agg #[.int .u64 X4,.int .u64 X5,.int .u64 X6,.int .u64 X7,.int .u64 X8]] λX9=>Aj (!X9) (λw=>Calls PR 79 #[] w λe w'=>∃X10:Int,∃X11:Int,∃X12:Int,∃X13:Int,∃X14:Int,e = .returned (.agg #[.int .u64 X10,.int .u64 X11,.int .u64 X12,.int .u64 X13,.int .u64 X14])/\(st B3 0 (.int .u64 X10)<|st B3 1 (.int .u64 X11)<|st B3 2 (.int .u64 X12)<|st B3 3 (.int .u64 X13)<|st B3 4 (.int .u64 X14)<|Dx B3 0 λX15=>Dx B3 1 λX16=>Dx B3 2 λX17=>Dx B3 3 λX18=>Dx B3 4 λX19=>
 Q (.agg #[.int .u64 X15,.int .u64 X16,.int .u64 X17,.int .u64 X18,.int .u64 X19])) w') (DF λm=>Ny jn Q m all2 B1 0 B2 0 B3 0 0)):=by kernel_rfl
theorem VY:Ru jn Q (us 22 [])=(Q (.i 4)):=by kernel_rfl
theorem LD{sum5 t8_0 t8_1 t8_2 t8_3 t8_4 t9:Int}:N1 jn Q (m1+1) draw1 sum5 t8_0 t8_1 t8_2 t8_3 t8_4 t9=(Aj (decide (t9<5)) (AY ((0:Int)<=t9/\t9<((5:Nat):Int))<|λw=>∃X7:Int,([.int .u64 t8_0,.int .u64 t8_1,.int .u64 t8_2,.int .u64 t8_3,.int .u64 t8_4]:List Value)[t9.toNat]? = some (.int .u64 X7)/\Ct (.int .u64 X7)=false/\(Aj (decide ((IntKind.wrap .u64 (sum5+X7))>(IntKind.wrap .u64 draw1))) (Q (.i t9)) (N1 jn Q m1 draw1 (IntKind.wrap .u64 (sum5+X7)) t8_0 t8_1 t8_2 t8_3 t8_4 (IntKind.wrap .i64 (t9+1)))) w) (Aqe jn Q)):=by kernel_rfl
theorem Ah9:Av jn PR N0 Tryz.f101 [.agg #[.int .u64 w0_0,.int .u64 w0_1,.int .u64 w0_2,.int .u64 w0_3,.int .u64 w0_4],.int .u32 draw1] Q=(A1 [.int .u64 w0_0,.int .u64 w0_1,.int .u64 w0_2,.int .u64 w0_3,.int .u64 w0_4] 140 λB1=>Dx B1 0 λX2=>Dx B1 1 λX3=>Dx B1 2 λX4=>Dx B1 3 λX5=>Dx B1 4 λX6=>DF λm=>N1 jn Q m draw1 0 X2 X3 X4 X5 X6 0):=by kernel_rfl
theorem Aia:Av jn PR Aqf Tryz.f102 [.p t0] Q=(Aj (Option.isNone t0) (Q (.int .u32 0)) (Ad t0 λB1 O2=>Ay B1 (O2+1) λX3=>Ad t0 λB4 O5=>st B4 (O5+1) (.i (IntKind.wrap .i64 (X3+1)))<|A5 λS=>Ad t0 λB6 O7=>Er S B6 (O7+1) λX8=>Ad t0 λB9 O10=>AZ B9 O10 λX11=>Aq true S<|Aj (decide (X8>(X11.n:Int))) (Q (.int .u32 0)) (A5 λS=>Ad t0 λB12 O13=>Fs S B12 O13 λX14=>Ad t0 λB15 O16=>Ay B15 (O16+1) λX17=>Aq true S<|C7 X14.a X14.n (IntKind.wrap .i64 (X17-1)) λB18 O19=>ld (.int .u32) B18 (O19+((IntKind.wrap .i64 (X17-(1:Int)))).toNat*1) λ(X20:Int)=>
 Q (.int .u32 X20)))):=by kernel_rfl
theorem Aib:Av jn PR Aw Tryz.f103 [.p s0] Q=(A1 [.i 0,.i 0,.i 0] 165 λB1=>Aj (Option.isNone s0) (st B1 0 (.i 0)<|st B1 1 (.i 0)<|st B1 2 (.i 0)<|Ay B1 0 λX2=>Ay B1 1 λX3=>Ay B1 2 λX4=>Q (.agg #[.i X2,.i X3,.i X4])) (Ad s0 λB5 O6=>Ay B5 (O6+3) λX7=>Ay B5 ((O6+3)+1) λX8=>Ay B5 (((O6+3)+1)+1) λX9=>A1 [.i 0,.i 0,.i 0] 165 λB10=>st B10 0 (.i X7)<|st B10 1 (.i X8)<|st B10 2 (.i X9)<|Ad s0 λB11 O12=>
 st B11 (O12+3) (.i 0)<|st B11 ((O12+3)+1) (.i 0)<|st B11 (((O12+3)+1)+1) (.i 0)<|Ay B10 0 λX13=>Ay B10 1 λX14=>Ay B10 2 λX15=>st B1 0 (.i X13)<|st B1 1 (.i X14)<|st B1 2 (.i X15)<|Ay B1 0 λX16=>Ay B1 1 λX17=>Ay B1 2 λX18=>Q (.agg #[.i X16,.i X17,.i X18]))):=by kernel_rfl
theorem Wa:Rw jn Q ((.p s0)::(.i kind1)::us 29 [])=(Bw 93 [.p s0] λX5=>Ad s0 λB6 O7=>Bs B6 (O7+2) λX8=>Bw 144 [.p X8,.i kind1] λX9=>Q (.i X9)):=by kernel_rfl
theorem VZ{t8:Bool}:Rv jn Q ((.p s0)::(.i kind1)::us 6 ((.b t8)::us 22 []))=(Aj t8 (Q (.i 4)) (Ad s0 λB1 O2=>Bs B1 (O2+2) λX3=>Bw 43 [.p X3] λX4=>Aj (kind1==X4) (Q (.i 8)) (Aqg jn Q s0 kind1))):=by kernel_rfl
theorem Aic:Av jn PR N2 Tryz.f104 [.p s0,.i kind1] Q=(Aj (Option.isNone s0) (Q (.i 1)) (Aj (decide (kind1<0)) (Abu jn Q s0 kind1 true) (Abu jn Q s0 kind1 (decide (kind1>=5))))):=by kernel_rfl
theorem Wb:Rx jn Q ((.p m0)::us 4 ((.l gone5.a gone5.n gone5.c)::us 48 []))=(A5 λS=>Ad m0 λB13 O14=>Er S B13 O14 λX15=>Ad m0 λB16 O17=>Er S B16 (O17+1) λX18=>Ad m0 λB19 O20=>MW B19 (O20+2) (Aq true S<|C9) λ(t_21:TypeId)(v_22:Value)=>Aq true S<|
 EC PR t_21 v_22 "Keys" fun f_23 r_24 =>FI f_23 [r_24] fun X25=>Aq true S <|OU (.int .i64) PR 146 [.i X15,.i X18,.l X25.a X25.n X25.c] (fun (X26:Int)=>Ad m0 fun B29 O30=>st B29 (O30+2) .nilIface <|Q (.l gone5.a gone5.n gone5.c)) fun (t_27:TypeId) (v_28:Value) (X26:Int)=>Ad m0 fun B31 O32=>st B31 (O32+2) (.iface t_27 v_28) <|Q (.l gone5.a gone5.n gone5.c)):=by kernel_rfl
theorem LF:N4 jn Q (m1+1) m0 gone5=(A5 λS=>Ad m0 λB5 O6=>Er S B5 (O6+1) λX7=>Bw 133 [.p m0] λX8=>Aq true S<|Aj (decide (X8>X7)) (ED 135 [.p m0] λX9 X10=>A1 [.s X9] 9 λB11=>Bt 9 1 16 [.s Ae] ⟨gone5.a,gone5.n,gone5.c⟩ 1 (λw=>HF w (some ⟨B11,0,none⟩) (1*1)) λG12=>N4 jn Q m1 m0 G12) (Abv jn Q m0 gone5)):=by kernel_rfl
theorem Aid:Av jn PR N3 Tryz.f105 [.p m0,.i room1] Q=(Aj (Option.isNone m0) (Q (.l none 0 0)) (Bw 72 [.i room1,.i 1,.i 1024] λX1=>Ad m0 λB2 O3=>st B2 (O3+1) (.i X1)<|Bw 145 [.p m0] λX4=>DF λm=>N4 jn Q m m0 ⟨none,0,0⟩)):=by kernel_rfl
theorem Aie{c1:Int}:Av jn PR Aqi Tryz.f106 [.p s0,.i c1] Q=(Aj (Option.isNone s0) (Q (.i 0)) (A5 λS=>Ad s0 λB1 O2=>Er S B1 O2 λX3=>Bw 72 [.i c1,.i 0,.i 1024] λX4=>Aq true S<|AY ((16777216:Int)≠0)<|Q (.i (if (IntKind.wrap .i64 (Int.tdiv (IntKind.wrap .i64 (X4*X3)) 16777216))>1 then (IntKind.wrap .i64 (Int.tdiv (IntKind.wrap .i64 (X4*X3)) 16777216)) else 1)))):=by kernel_rfl
theorem Aif:Av jn PR Aw Tryz.f107 [.i kind0,.i room1] Q=(OU (.int .i64) PR 113 [.i kind0,.i room1] (λ(X1:Int)=>Aj (X1 != 0) (Q (.tuple #[.p none,.i X1])) (JP 147 [.i room1] λX4=>A1 [.i kind0,.nilIface,.p X4,.i 0,.i 0,.i 0,.i 0,.i 0,.i 0] 203 λB5=>Q (.tuple #[pq B5 0,.i 0]))) λ(t_2:TypeId)(v_3:Value)(X1:Int)=>Aj (X1 != 0) (Q (.tuple #[.p none,.i X1])) (JP 147 [.i room1] λX6=>A1 [.i kind0,.iface t_2 v_3,.p X6,.i 0,.i 0,.i 0,.i 0,.i 0,.i 0] 203 λB7=>
 Q (.tuple #[pq B7 0,.i 0]))):=by kernel_rfl
theorem Aig:Av jn PR Aw Tryz.f113 [.i kind0,.i room1] Q=(Aj (kind0==0) (JP 151 [.i room1] λX1=>Q (.tuple #[.iface 223 (.p X1),.i 0])) (Aj (kind0==1) (JP 152 [.i room1] λX2=>Q (.tuple #[.iface 225 (.p X2),.i 0])) (Aj (kind0==2) (JP 153 [.i room1] λX3=>Q (.tuple #[.iface 227 (.p X3),.i 0])) (Aj (kind0==3) (JP 154 [.i room1] λX4=>Q (.tuple #[.iface 229 (.p X4),.i 0])) (Aj (kind0==4) (JP 155 [.i room1] λX5=>
 Q (.tuple #[.iface 231 (.p X5),.i 0])) (Q (.tuple #[.nilIface,.i 4]))))))):=by kernel_rfl
theorem Aih:Av jn PR Aw Tryz.f114 [.int .u64 seed0] Q=(Ha 178 48 [.i 0,.s Ae,.s Ae,.i 0] 8 8 λG1=>A1 [.int .u64 seed0,.l G1.a G1.n G1.c,.i 0,.i 0] 176 λB2=>Q (pq B2 0)):=by kernel_rfl
theorem Wc:Ry jn Q (us 1 ((pq w1b w1o)::(pq t2b t2o)::(.i best3)::us 22 []))=(A5 λS=>AY ((0:Int)<=best3/\best3<((5:Nat):Int))<|YR S w1b (w1o+best3.toNat*1) λX5=>Dx w1b w1o λX6=>Dx w1b (w1o+1) λX7=>Dx w1b ((w1o+1)+1) λX8=>Dx w1b (((w1o+1)+1)+1) λX9=>Dx w1b ((((w1o+1)+1)+1)+1) λX10=>Aq true S<|YS 142 [.agg #[.int .u64 X6,.int .u64 X7,.int .u64 X8,.int .u64 X9,.int .u64 X10]] λX11=>Aq true S<|AY ((0:Int)<=best3/\best3<((5:Nat):Int))<|
 st w1b (w1o+best3.toNat*1) (.int .u64 (IntKind.wrap .u64 (X5+(IntKind.wrap .u64 (4294967296-X11)))))<|Dx w1b w1o λX12=>Dx w1b (w1o+1) λX13=>Dx w1b ((w1o+1)+1) λX14=>Dx w1b (((w1o+1)+1)+1) λX15=>Dx w1b ((((w1o+1)+1)+1)+1) λX16=>st t2b t2o (.int .u64 X12)<|st t2b (t2o+1) (.int .u64 X13)<|st t2b ((t2o+1)+1) (.int .u64 X14)<|st t2b (((t2o+1)+1)+1) (.int .u64 X15)<|st t2b ((((t2o+1)+1)+1)+1) (.int .u64 X16)<|Dx t2b t2o λX17=>Dx t2b (t2o+1) λX18=>Dx t2b ((t2o+1)+1) λX19=>Dx t2b (((t2o+1)+1)+1) λX20=>Dx t2b ((((t2o+1)+1)+1)+1) λX21=>
 Q (.agg #[.int .u64 X17,.int .u64 X18,.int .u64 X19,.int .u64 X20,.int .u64 X21])):=by kernel_rfl
theorem LG:JY jn Q (m1+1) w1b w1o t2b t2o best3 t5=(Aj (decide (t5<5)) (A5 λS=>AY ((0:Int)<=t5/\t5<((5:Nat):Int))<|YR S w1b (w1o+t5.toNat*1) λX3=>AY ((0:Int)<=best3/\best3<((5:Nat):Int))<|Dx w1b (w1o+best3.toNat*1) λX4=>Aq true S<|Aj (decide (X3>X4)) (JY jn Q m1 w1b w1o t2b t2o t5 (IntKind.wrap .i64 (t5+1))) (JY jn Q m1 w1b w1o t2b t2o best3 (IntKind.wrap .i64 (t5+1)))) (Abw jn Q w1b w1o t2b t2o best3)):=by kernel_rfl
theorem Aii:Av jn PR N5 Tryz.f115 [.agg #[.int .u64 w0_0,.int .u64 w0_1,.int .u64 w0_2,.int .u64 w0_3,.int .u64 w0_4]] Q=(A1 [.int .u64 w0_0,.int .u64 w0_1,.int .u64 w0_2,.int .u64 w0_3,.int .u64 w0_4] 140 λB1=>A1 [.int .u64 0,.int .u64 0,.int .u64 0,.int .u64 0,.int .u64 0] 140 λB2=>DF λm=>JY jn Q m B1 0 B2 0 0 0):=by kernel_rfl
theorem Aij:Av jn PR Aw Tryz.f116 [.int .u64 h0,.i n1] Q=(Aj (decide (n1<1)) (Q (.i 0)) (AY ((IntKind.wrap .u64 n1)≠0)<|Q (.i (IntKind.wrap .i64 (Int.tmod h0 (IntKind.wrap .u64 n1)))))):=by kernel_rfl
theorem Wd:Rz jn Q (us 5 ((.int .u64 h5)::us 22 []))=(Q (.int .u64 h5)):=by kernel_rfl
theorem LH:N7 jn Q (m1+1) s1 h5 t14 t15=(Aj (decide (t15<t14)) (AY ((0:Int)<=t15/\t15<(s1.size:Int))<|YS 156 [.int .u64 (IntKind.wrap .u64 ((bits .xor .u64 h5 (IntKind.wrap .u64 (AV s1 t15.toNat)))+11400714819323198485))] λX2=>N7 jn Q m1 s1 X2 t14 (IntKind.wrap .i64 (t15+1))) (Aqm jn Q h5)):=by kernel_rfl
theorem Aik:Av jn PR N6 Tryz.f117 [.int .u64 seed0,.s s1] Q=(YS 156 [.int .u64 (bits .xor .u64 seed0 (IntKind.wrap .u64 (s1.size:Int)))] λX1=>DF λm=>N7 jn Q m s1 X1 (s1.size:Int) 0):=by kernel_rfl
theorem Wf:R1 jn Q (us 49 [])=(Q (.b true)):=by kernel_rfl
theorem LI{s0:BA}:Cs jn Q (m2+1) s0 t14 t15=(Aj (decide (t15<t14)) (AY ((0:Int)<=t15/\t15<(s0.size:Int))<|Aj (decide ((AV s0 t15.toNat)<97)) (Aj (decide ((AV s0 t15.toNat)<65)) (Aj (decide ((AV s0 t15.toNat)<48)) (Bw 157 [.s CW,.int .u8 (AV s0 t15.toNat)] λX1=>Aj (decide (X1<0)) (Q (.b false)) (Cs jn Q m2 s0 t14 (IntKind.wrap .i64 (t15+1)))) (Aj (decide ((AV s0 t15.toNat)>57)) (Bw 157 [.s CW,.int .u8 (AV s0 t15.toNat)] λX2=>Aj (decide (X2<0)) (Q (.b false)) (Cs jn Q m2 s0 t14 (IntKind.wrap .i64 (t15+1)))) (
 Cs jn Q m2 s0 t14 (IntKind.wrap .i64 (t15+1))))) (Aj (decide ((AV s0 t15.toNat)>90)) (Aj (decide ((AV s0 t15.toNat)<48)) (Bw 157 [.s CW,.int .u8 (AV s0 t15.toNat)] λX3=>Aj (decide (X3<0)) (Q (.b false)) (Cs jn Q m2 s0 t14 (IntKind.wrap .i64 (t15+1)))) (Aj (decide ((AV s0 t15.toNat)>57)) (Bw 157 [.s CW,.int .u8 (AV s0 t15.toNat)] λX4=>Aj (decide (X4<0)) (Q (.b false)) (Cs jn Q m2 s0 t14 (IntKind.wrap .i64 (t15+1)))) (Cs jn Q m2 s0 t14 (IntKind.wrap .i64 (t15+1))))) (Cs jn Q m2 s0 t14 (IntKind.wrap .i64 (t15+1))))) (Aj (decide ((AV s0 t15.toNat)>122)) (
 Aj (decide ((AV s0 t15.toNat)<65)) (Aj (decide ((AV s0 t15.toNat)<48)) (Bw 157 [.s CW,.int .u8 (AV s0 t15.toNat)] λX5=>Aj (decide (X5<0)) (Q (.b false)) (Cs jn Q m2 s0 t14 (IntKind.wrap .i64 (t15+1)))) (Aj (decide ((AV s0 t15.toNat)>57)) (Bw 157 [.s CW,.int .u8 (AV s0 t15.toNat)] λX6=>Aj (decide (X6<0)) (Q (.b false)) (Cs jn Q m2 s0 t14 (IntKind.wrap .i64 (t15+1)))) (Cs jn Q m2 s0 t14 (IntKind.wrap .i64 (t15+1))))) (Aj (decide ((AV s0 t15.toNat)>90)) (Aj (decide ((AV s0 t15.toNat)<48)) (Bw 157 [.s CW,.int .u8 (AV s0 t15.toNat)] λX7=>
 Aj (decide (X7<0)) (Q (.b false)) (Cs jn Q m2 s0 t14 (IntKind.wrap .i64 (t15+1)))) (Aj (decide ((AV s0 t15.toNat)>57)) (Bw 157 [.s CW,.int .u8 (AV s0 t15.toNat)] λX8=>Aj (decide (X8<0)) (Q (.b false)) (Cs jn Q m2 s0 t14 (IntKind.wrap .i64 (t15+1)))) (Cs jn Q m2 s0 t14 (IntKind.wrap .i64 (t15+1))))) (Cs jn Q m2 s0 t14 (IntKind.wrap .i64 (t15+1))))) (Cs jn Q m2 s0 t14 (IntKind.wrap .i64 (t15+1))))) (Aqp jn Q)):=by kernel_rfl
theorem We{s0:BA}:R0 jn Q ((.s s0)::us 48 [])=(DF λm=>Cs jn Q m s0 (s0.size:Int) 0):=by kernel_rfl
theorem Ail{s0:BA}:Av jn PR JZ Tryz.f118 [.s s0] Q=(Aj (decide ((s0.size:Int)<1)) (Q (.b false)) (Aj (decide ((s0.size:Int)>24)) (Q (.b false)) (Aqo jn Q s0))):=by kernel_rfl
theorem Aim{n0 most1:Int}:Av jn PR Aw Tryz.f119 [.i n0,.i most1] Q=(Aj (decide (n0>=most1)) (Q (.i n0)) (Q (.i (IntKind.wrap .i64 (n0+1))))):=by kernel_rfl
theorem Wg{t4b t4o:Nat}:R2 jn Q (us 4 ((pq t4b t4o)::us 22 []))=(A1 [.s Ae,.i 0] 120 λB13=>BQ B13 0 λX14=>Ay B13 1 λX15=>st t4b t4o (.s X14)<|st t4b (t4o+1) (.i X15)<|BQ t4b t4o λX16=>Ay t4b (t4o+1) λX17=>Q (.tuple #[.agg #[.s X16,.i X17],.b false])):=by kernel_rfl
theorem Ain:Av jn PR Ea Tryz.f120 [.p x0,.s key1] Q=(A1 [.s Ae,.i 0] 120 λB1=>Aj (!Option.isNone x0) (Fy 158 [.p x0,.s key1] λX2 X3=>Aj X3 (Ad x0 λB4 O5=>AZ B4 (O5+1) λX6=>C7 X6.a X6.n X2 λB7 O8=>BQ B7 ((O8+X2.toNat*4)+2) λX9=>Ay B7 (((O8+X2.toNat*4)+2)+1) λX10=>st B1 0 (.s X9)<|st B1 1 (.i X10)<|BQ B1 0 λX11=>Ay B1 1 λX12=>Q (.tuple #[.agg #[.s X11,.i X12],.b true])) (Abx jn Q B1 0)) (Abx jn Q B1 0)):=by kernel_rfl
theorem Aio{v0_0:BA}{v0_1:Int}:Av jn PR Aw Tryz.f121 [.agg #[.s v0_0,.i v0_1],.i now1] Q=(A1 [.s v0_0,.i v0_1] 120 λB1=>Ay B1 1 λX2=>Aj (X2 != 0) (Ay B1 1 λX3=>Q (.b (decide (X3<=now1)))) (Q (.b false))):=by kernel_rfl
theorem Aip{rate1:Int}:Av jn PR Aw Tryz.f123 [.int .u64 h0,.i rate1] Q=(AY ((16777216:Int)≠0)<|Q (.b (decide ((IntKind.wrap .i64 (Int.tmod h0 16777216))<rate1)))):=by kernel_rfl
theorem Aiq:Av jn PR Aw Tryz.f124 [.p g0,.s key1] Q=(Aj (Option.isNone g0) (Q (.b false)) (Ad g0 λB1 O2=>Bs B1 (O2+2) λX3=>Fy 159 [.p X3,.s key1] λX4 X5=>Aj X5 (Ad g0 λB6 O7=>Bs B6 (O7+1) λX8=>ED 160 [.p X8,.i X4] λX9 X10=>Q (.b X5)) (Q (.b X5)))):=by kernel_rfl
theorem Wh:R3 jn Q ((.p c0)::us 1 ((.b gone2)::us 29 []))=(Aj gone2 (Ad c0 λB13 O14=>Ay B13 (O14+2) λX15=>Bw 119 [.i X15,.i 1099511627776] λX16=>Ad c0 λB17 O18=>st B17 (O18+2) (.i X16)<|Q (.tuple #[])) (Q (.tuple #[]))):=by kernel_rfl
theorem Air{hit1:Bool}:Av jn PR Aby Tryz.f125 [.p c0,.b hit1,.b gone2] Q=(Ad c0 λB1 O2=>Ay B1 O2 λX3=>Bw 119 [.i X3,.i 1099511627776] λX4=>Ad c0 λB5 O6=>st B5 O6 (.i X4)<|Aj hit1 (Ad c0 λB7 O8=>Ay B7 (O8+1) λX9=>Bw 119 [.i X9,.i 1099511627776] λX10=>Ad c0 λB11 O12=>st B11 (O12+1) (.i X10)<|TV jn Q c0 gone2) (TV jn Q c0 gone2)):=by kernel_rfl
theorem Ais:Av jn PR Aqq Tryz.f126 [.p g0,.s key1] Q=(Aj (Option.isNone g0) (Q (.tuple #[.s Ae,.b false])) (Dw 124 [.p g0,.s key1] λX1=>A5 λS=>Ad g0 λB2 O3=>EK S B2 (O3+2) λX4=>Ad g0 λB5 O6=>Bs B5 (O6+1) λX7=>Aq true S<|Bw 162 [.p X7,.s key1] λX8=>Aq true S<|Dw 161 [.p X4,.s key1,.i X8] λX9=>A5 λS=>Ad g0 λB10 O11=>EK S B10 (O11+1) λX12=>Ad g0 λB13 O14=>Er S B13 O14 λX15=>Bw 163 [.p X12] λX16=>
 Aq true S<|Aj (decide (X16<=X15)) (Q (.tuple #[.s Ae,.b false])) (A5 λS=>Ad g0 λB17 O18=>EK S B17 (O18+1) λX19=>Ad g0 λB20 O21=>Bs B20 (O21+1) λX22=>Aq true S<|Bw 165 [.p X22] λX23=>Aq true S<|ED 164 [.p X19,.i X23] λX24 X25=>Dw 124 [.p g0,.s X24] λX26=>Q (.tuple #[.s X24,.b X25])))):=by kernel_rfl
theorem Ait{v2_0:BA}{v2_1:Int}:Av jn PR ID Tryz.f127 [.p x0,.s key1,.agg #[.s v2_0,.i v2_1]] Q=(A1 [.s v2_0,.i v2_1] 120 λB1=>Aj (Option.isNone x0) (Q (.b false)) (Fy 158 [.p x0,.s key1] λX2 X3=>Aj X3 (A5 λS=>Ad x0 λB4 O5=>Fs S B4 (O5+1) λX6=>BQ B1 0 λX7=>Ay B1 1 λX8=>Aq true S<|C7 X6.a X6.n X2 λB9 O10=>st B9 ((O10+X2.toNat*4)+2) (.s X7)<|st B9 (((O10+X2.toNat*4)+2)+1) (.i X8)<|Q (.b false)) (BQ B1 0 λX11=>Ay B1 1 λX12=>
 wz 166 [.p x0,.i X2,.s key1,.agg #[.s X11,.i X12]]<|A5 λS=>Ad x0 λB13 O14=>Er S B13 (O14+3) λX15=>Ad x0 λB16 O17=>AZ B16 (O17+1) λX18=>Aq true S<|Aj (decide ((IntKind.wrap .i64 (2*X15))>(X18.n:Int))) (wz 167 [.p x0]<|Q (.b true)) (Q (.b true))))):=by kernel_rfl
theorem Wi:R4 jn Q ((.p f0)::(.i kind1)::(.s key2)::us 21 [])=(Ad f0 λB1 O2=>Dw 122 [.p f0,.p (some ⟨B1,(O2+5),none⟩),.i kind1,.s key2] λX3=>Q (.b X3)):=by kernel_rfl
theorem Aiu:Av jn PR Abz Tryz.f128 [.p f0,.i kind1,.s key2] Q=(Aj (Option.isNone f0) (Q (.b false)) (Aj (kind1 != 2) (Aj (kind1 != 3) (Q (.b false)) (TW jn Q f0 kind1 key2)) (TW jn Q f0 kind1 key2))):=by kernel_rfl
theorem Wj:R5 jn Q (us 3 ((.l all3.a all3.n all3.c)::us 21 []))=(Q (.l all3.a all3.n all3.c)):=by kernel_rfl
theorem LJ{l4:OA}:Ka jn Q (m1+1) f0 all3 l4=(Aj (!Option.isNone l4) (Ad l4 λB2 O3=>Ay B2 (O3+1) λX4=>BQ B2 ((O3+1)+1) λX5=>A1 [.i X4,.s X5] 159 λB6=>Bt 159 2 24 [.i 0,.s Ae] ⟨all3.a,all3.n,all3.c⟩ 1 (λw=>HF w (some ⟨B6,0,none⟩) (1*2)) λG7=>Ad l4 λB8 O9=>st B8 (O9+4) (.b false)<|JP 168 [.p f0] λX10=>Ka jn Q m1 f0 G7 X10) (Aqs jn Q all3)):=by kernel_rfl
theorem Aiv:Av jn PR N8 Tryz.f129 [.p f0] Q=(Aj (Option.isNone f0) (Q (.l none 0 0)) (JP 168 [.p f0] λX1=>DF λm=>Ka jn Q m f0 ⟨none,0,0⟩ X1)):=by kernel_rfl
theorem Aix{e1_0:Int}{e1_1:BA}:Av jn PR Aqu Tryz.f130 [.p m0,.agg #[.i e1_0,.s e1_1]] Q=(A1 [.i e1_0,.s e1_1] 159 λB1=>Aj (Option.isNone m0) (Q (.l none 0 0)) (Ay B1 0 λX2=>Aj (X2==1) (BQ B1 1 λX3=>Dw 131 [.p m0,.s X3] λX4=>Aj X4 (BQ B1 1 λX5=>FI 132 [.p m0,.s X5] λX6=>Q (.l X6.a X6.n X6.c)) (Q (.l none 0 0))) (Aj (X2==2) (BQ B1 1 λX7=>FI 94 [.p m0,.s X7] λX8=>Q (.l X8.a X8.n X8.c)) (Aj (X2==3) (A5 λS=>Ad m0 λB9 O10=>
 An0 S B9 (O10+2) (BQ B1 1 λX13=>Aq true S<|C9) λ(t_11:TypeId)(v_12:Value)=>BQ B1 1 λX14=>Aq true S<|
 EC PR t_11 v_12 "Remove" fun f_15 r_16 =>Dw f_15 [r_16,.s X14] fun X17=>Dw 42 [.p m0] fun X18=>Aj X18 (A5 fun S=>Ad m0 fun B19 O20=>An0 S B19 (O20+3) (BQ B1 1 fun X23=>Aq true S <|C9) fun (t_21:TypeId) (v_22:Value)=>BQ B1 1 fun X24=>Aq true S <|
 EC PR t_21 v_22 "Remove" fun f_25 r_26 =>Dw f_25 [r_26,.s X24] fun X27=>Q (.l none 0 0)) (Q (.l none 0 0))) (Q (.l none 0 0)))))):=by kernel_rfl
theorem Aiy:Av jn PR Aw Tryz.f131 [.p m0,.s key1] Q=(Aj (!Option.isNone m0) (Ad m0 λB1 O2=>MW B1 (O2+2) (C9) λ(t_3:TypeId)(v_4:Value)=>
 EC PR t_3 v_4 "Has" fun f_5 r_6 =>Dw f_5 [r_6,.s key1] fun X7=>Aj X7 (Q (.b true)) (Dw 42 [.p m0] fun X8=>Aj X8 (Ad m0 fun B9 O10=>MW B9 (O10+3) (C9) fun (t_11:TypeId) (v_12:Value)=>
 EC PR t_11 v_12 "Has" fun f_13 r_14 =>Dw f_13 [r_14,.s key1] fun X15=>Q (.b X15)) (Q (.b false)))) (Q (.b false))):=by kernel_rfl
theorem LK:R6 jn Q ((.p m0)::(.s key1)::us 28 [])=(Ad m0 λB9 O10=>MW B9 (O10+2) (C9) λ(t_11:TypeId)(v_12:Value)=>
 EC PR t_11 v_12 "Access" fun f_13 r_14 =>A1d f_13 [r_14,.s key1] fun X15 X16=>Q (.l X16.a X16.n X16.c)):=by kernel_rfl
theorem Aiz:Av jn PR Ld Tryz.f132 [.p m0,.s key1] Q=(Dw 42 [.p m0] λX1=>Aj X1 (Ad m0 λB2 O3=>MW B2 (O3+3) (C9) λ(t_4:TypeId)(v_5:Value)=>
 EC PR t_4 v_5 "Has" fun f_6 r_7 =>Dw f_6 [r_7,.s key1] fun X8=>Aj X8 (wz 137 [.p m0,.s key1] <|N9 jn Q m0 key1) (N9 jn Q m0 key1)) (N9 jn Q m0 key1)):=by kernel_rfl
theorem Wl:Av jn PR Aqv Tryz.f133 [.p m0] Q=(Aj (Option.isNone m0) (Q (.i 0)) (A5 λS=>Ad m0 λB1 O2=>An0 S B1 (O2+2) (Bw 134 [.p m0] λX5=>Aq true S<|C9) λ(t_3:TypeId)(v_4:Value)=>Bw 134 [.p m0] λX6=>Aq true S<|
 EC PR t_3 v_4 "Len" fun f_7 r_8 =>Bw f_7 [r_8] fun X9=>Q (.i (IntKind.wrap .i64 (X6+X9))))):=by kernel_rfl
theorem Wm:Av jn PR Aw Tryz.f134 [.p m0] Q=(Dw 42 [.p m0] λX1=>Aj (!X1) (Q (.i 0)) (Ad m0 λB2 O3=>MW B2 (O3+3) (C9) λ(t_4:TypeId)(v_5:Value)=>
 EC PR t_4 v_5 "Len" fun f_6 r_7 =>Bw f_6 [r_7] fun X8=>Q (.i X8))):=by kernel_rfl
theorem Wn:Av jn PR Aw Tryz.f135 [.p m0] Q=(Aj (Option.isNone m0) (Q (.tuple #[.s Ae,.b false])) (Bw 134 [.p m0] λX1=>Aj (decide (X1>0)) (Ad m0 λB2 O3=>MW B2 (O3+3) (C9) λ(t_4:TypeId)(v_5:Value)=>
 EC PR t_4 v_5 "Evict" fun f_6 r_7 =>ED f_6 [r_7] fun X8 X9=>Q (.tuple #[.s X8,.b X9])) (Ad m0 fun B10 O11=>MW B10 (O11+2) (C9) fun (t_12:TypeId) (v_13:Value)=>
 EC PR t_12 v_13 "Evict" fun f_14 r_15 =>ED f_14 [r_15] fun X16 X17=>Q (.tuple #[.s X16,.b X17])))):=by kernel_rfl
theorem Ai0:Av jn PR Aw Tryz.f136 [.p x0,.s key1] Q=(A1 [.s Ae,.i 0] 120 λB1=>λw=>Calls PR 120 #[.p x0,.s key1] w λe w'=>∃X2:BA,∃X3:Int,∃X4:Bool,e = .returned (.tuple #[.agg #[.s X2,.i X3],.b X4])/\(A1 [.s Ae,.i 0] 120 λB5=>st B5 0 (.s X2)<|st B5 1 (.i X3)<|Aj X4 (Fy 158 [.p x0,.s key1] λX6 X7=>Ad x0 λB8 O9=>AZ B8 (O9+1) λX10=>C7 X10.a X10.n X6 λB11 O12=>st B11 (O12+X6.toNat*4) (.i 1)<|st B11 ((O12+X6.toNat*4)+1) (.s Ae)<|
 st B11 (((O12+X6.toNat*4)+1)+1) (.s Ae)<|st B11 ((((O12+X6.toNat*4)+1)+1)+1) (.i 0)<|Ad x0 λB13 O14=>Ay B13 (O14+2) λX15=>Ad x0 λB16 O17=>st B16 (O17+2) (.i (IntKind.wrap .i64 (X15-1)))<|BQ B5 0 λX18=>Ay B5 1 λX19=>st B1 0 (.s X18)<|st B1 1 (.i X19)<|BQ B1 0 λX20=>Ay B1 1 λX21=>Q (.tuple #[.agg #[.s X20,.i X21],.b X4])) (BQ B5 0 λX22=>Ay B5 1 λX23=>st B1 0 (.s X22)<|st B1 1 (.i X23)<|BQ B1 0 λX24=>Ay B1 1 λX25=>Q (.tuple #[.agg #[.s X24,.i X25],.b X4]))) w'):=by kernel_rfl
theorem Ai1:Av jn PR Aw Tryz.f137 [.p m0,.s key1] Q=(Ad m0 λB1 O2=>MW B1 (O2+3) (C9) λ(t_3:TypeId)(v_4:Value)=>
 EC PR t_3 v_4 "Remove" fun f_5 r_6 =>Dw f_5 [r_6,.s key1] fun X7=>Ad m0 fun B8 O9=>MW B8 (O9+2) (C9) fun (t_10:TypeId) (v_11:Value)=>
 EC PR t_10 v_11 "Load" fun f_12 r_13 =>Dw f_12 [r_13,.s key1] fun X14=>Q (.tuple #[])):=by kernel_rfl
theorem Wo:R7 jn Q (us 1 ((pq w1b w1o)::us 17 []))=(Dx w1b w1o λX8=>Dx w1b (w1o+1) λX9=>Dx w1b ((w1o+1)+1) λX10=>Dx w1b (((w1o+1)+1)+1) λX11=>Dx w1b ((((w1o+1)+1)+1)+1) λX12=>YS 142 [.agg #[.int .u64 X8,.int .u64 X9,.int .u64 X10,.int .u64 X11,.int .u64 X12]] λX13=>Q (.b (X13==4294967296))):=by kernel_rfl
theorem LL{t5_0 t5_1 t5_2 t5_3 t5_4:Int}:NB jn Q (m1+1) w1b w1o t5_0 t5_1 t5_2 t5_3 t5_4 t6=(Aj (decide (t6<5)) (AY ((0:Int)<=t6/\t6<((5:Nat):Int))<|λw=>∃X7:Int,([.int .u64 t5_0,.int .u64 t5_1,.int .u64 t5_2,.int .u64 t5_3,.int .u64 t5_4]:List Value)[t6.toNat]? = some (.int .u64 X7)/\Ct (.int .u64 X7)=false/\(Aj (decide (X7<42949672)) (Q (.b false)) (Aj (decide (X7>4294967296)) (Q (.b false)) (NB jn Q m1 w1b w1o t5_0 t5_1 t5_2 t5_3 t5_4 (IntKind.wrap .i64 (t6+1))))) w) (Aqx jn Q w1b w1o)):=by kernel_rfl
theorem Ai2:Av jn PR NA Tryz.f138 [.agg #[.int .u64 w0_0,.int .u64 w0_1,.int .u64 w0_2,.int .u64 w0_3,.int .u64 w0_4]] Q=(A1 [.int .u64 w0_0,.int .u64 w0_1,.int .u64 w0_2,.int .u64 w0_3,.int .u64 w0_4] 140 λB1=>Dx B1 0 λX2=>Dx B1 1 λX3=>Dx B1 2 λX4=>Dx B1 3 λX5=>Dx B1 4 λX6=>DF λm=>NB jn Q m B1 0 X2 X3 X4 X5 X6 0):=by kernel_rfl
theorem Ai3{b1:Int}:Av jn PR Aw Tryz.f139 [.int .u64 a0,.int .u64 b1] Q=(YS 143 [.int .u64 a0,.int .u64 b1,.int .u64 4294967296] λX1=>Q (.int .u64 X1)):=by kernel_rfl
theorem Wp:R8 jn Q (us 3 ((.int .u64 x3)::us 9 []))=(Q (.int .u64 x3)):=by kernel_rfl
theorem LN:ND jn Q (m1+1) x3 t5 t6=(Aj (decide (t6<t5)) (AY ((10:Int)≠0)<|ND jn Q m1 (IntKind.wrap .u64 (Int.tdiv (IntKind.wrap .u64 (x3*9)) 10)) t5 (IntKind.wrap .i64 (t6+1))) (Aq0 jn Q x3)):=by kernel_rfl
theorem Ai4{k0:Int}:Av jn PR NC Tryz.f140 [.i k0] Q=(Bw 72 [.i k0,.i 0,.i 15] λX1=>DF λm=>ND jn Q m 4294967296 X1 0):=by kernel_rfl
theorem Ai5{ghosts0 all1:Int}:Av jn PR Aw Tryz.f141 [.i ghosts0,.i all1] Q=(Bw 72 [.i ghosts0,.i 0,.i 1099511627776] λX1=>Bw 72 [.i all1,.i 0,.i 1099511627776] λX2=>Aj (X2==0) (Q (.i 0)) (AY (X2≠0)<|Q (.i (if 15<(IntKind.wrap .i64 (Int.tdiv (IntKind.wrap .i64 (16*X1)) X2)) then 15 else (IntKind.wrap .i64 (Int.tdiv (IntKind.wrap .i64 (16*X1)) X2)))))):=by kernel_rfl
theorem Wq:R9 jn Q (us 3 ((.int .u64 sum3)::us 11 []))=(Q (.int .u64 sum3)):=by kernel_rfl
theorem LO{t6_0 t6_1 t6_2 t6_3 t6_4:Int}:NG jn Q (m1+1) sum3 t6_0 t6_1 t6_2 t6_3 t6_4 t7=(Aj (decide (t7<5)) (AY ((0:Int)<=t7/\t7<((5:Nat):Int))<|λw=>∃X7:Int,([.int .u64 t6_0,.int .u64 t6_1,.int .u64 t6_2,.int .u64 t6_3,.int .u64 t6_4]:List Value)[t7.toNat]? = some (.int .u64 X7)/\Ct (.int .u64 X7)=false/\(NG jn Q m1 (IntKind.wrap .u64 (sum3+X7)) t6_0 t6_1 t6_2 t6_3 t6_4 (IntKind.wrap .i64 (t7+1))) w) (Aq2 jn Q sum3)):=by kernel_rfl
theorem Ai6:Av jn PR NF Tryz.f142 [.agg #[.int .u64 w0_0,.int .u64 w0_1,.int .u64 w0_2,.int .u64 w0_3,.int .u64 w0_4]] Q=(A1 [.int .u64 w0_0,.int .u64 w0_1,.int .u64 w0_2,.int .u64 w0_3,.int .u64 w0_4] 140 λB1=>Dx B1 0 λX2=>Dx B1 1 λX3=>Dx B1 2 λX4=>Dx B1 3 λX5=>Dx B1 4 λX6=>DF λm=>NG jn Q m 0 X2 X3 X4 X5 X6 0):=by kernel_rfl
theorem Ai7{num1 den2:Int}:Av jn PR Aw Tryz.f143 [.int .u64 a0,.int .u64 num1,.int .u64 den2] Q=(Gb (.int .u64) (.int .u64) PR 169 [.int .u64 a0,.int .u64 num1] λ(X1:Int)(X2:Int)=>Aj (decide (X1>=den2)) (Q (.int .u64 18446744073709551615)) (Gb (.int .u64) (.int .u64) PR 170 [.int .u64 X1,.int .u64 X2,.int .u64 den2] λ(X3:Int)(X4:Int)=>Q (.int .u64 X3))):=by kernel_rfl
theorem Ai8:Av jn PR Aw Tryz.f144 [.p m0,.i kind1] Q=(Aj (Option.isNone m0) (Q (.i 1)) (Ad m0 λB1 O2=>Ay B1 (O2+1) λX3=>OU (.int .i64) PR 113 [.i kind1,.i X3] (λ(X4:Int)=>Aj (X4 != 0) (Q (.i X4)) (Bw 145 [.p m0] λX7=>Ad m0 λB8 O9=>MW B8 (O9+2) (Ad m0 λB12 O13=>st B12 O13 (.i kind1)<|Ad m0 λB14 O15=>st B14 (O15+2) .nilIface<|Ad m0 λB16 O17=>st B16 (O17+3) .nilIface<|Q (.i 0)) λ(t_10:TypeId)(v_11:Value)=>Ad m0 λB18 O19=>st B18 O19 (.i kind1)<|Ad m0 λB20 O21=>
 st B20 (O21+2) .nilIface<|Ad m0 λB22 O23=>st B22 (O23+3) (.iface t_10 v_11)<|Q (.i 0))) λ(t_5:TypeId)(v_6:Value)(X4:Int)=>Aj (X4 != 0) (Q (.i X4)) (Bw 145 [.p m0] λX24=>Ad m0 λB25 O26=>MW B25 (O26+2) (Ad m0 λB29 O30=>st B29 O30 (.i kind1)<|Ad m0 λB31 O32=>st B31 (O32+2) (.iface t_5 v_6)<|Ad m0 λB33 O34=>st B33 (O34+3) .nilIface<|Q (.i 0)) λ(t_27:TypeId)(v_28:Value)=>Ad m0 λB35 O36=>st B35 O36 (.i kind1)<|Ad m0 λB37 O38=>st B37 (O38+2) (.iface t_5 v_6)<|Ad m0 λB39 O40=>st B39 (O40+3) (.iface t_27 v_28)<|Q (.i 0)))):=by kernel_rfl
theorem Wr:RA jn Q (us 3 ((.i n3)::us 13 []))=(Q (.i n3)):=by kernel_rfl
theorem Ih:IE jn Q (m1+1) m0 n3=(Dw 42 [.p m0] λX1=>Aj X1 (ED 99 [.p m0] λX2 X3=>Aj X3 (IE jn Q m1 m0 (IntKind.wrap .i64 (n3+1))) (IE jn Q m1 m0 n3)) (Aq4 jn Q n3)):=by kernel_rfl
theorem Ai9:Av jn PR NH Tryz.f145 [.p m0] Q=(DF λm=>IE jn Q m m0 0):=by kernel_rfl
theorem Ws:RB jn Q (us 8 ((.iface e8_t e8_v)::us 23 []))=(Q (.tuple #[.iface e8_t e8_v,.i 0])):=by kernel_rfl
theorem LP{t21:Sl}{t22 t23:Int}:NI jn Q (m3+1) e8_t e8_v t21 t22 t23=(Aj (decide (t23<t22)) (C7 t21.a t21.n t23 λB7 O8=>BQ B7 (O8+t23.toNat*1) λX9=>
 EC PR e8_t e8_v "Load" fun f_10 r_11 =>Dw f_10 [r_11,.s X9] fun X12=>NI jn Q m3 e8_t e8_v t21 t22 (IntKind.wrap .i64 (t23+1))) (Aq5 jn Q e8_t e8_v)):=by kernel_rfl
theorem Aja{keys2:Sl}:Av jn PR Kb Tryz.f146 [.i kind0,.i room1,.l keys2.a keys2.n keys2.c] Q=(OU (.int .i64) PR 113 [.i kind0,.i room1] (λ(X1:Int)=>Aj (X1 != 0) (Q (.tuple #[.nilIface,.i X1])) (DF λm=>Aq6 jn Q m keys2 (keys2.n:Int) 0)) λ(t_2:TypeId)(v_3:Value)(X1:Int)=>Aj (X1 != 0) (Q (.tuple #[.nilIface,.i X1])) (DF λm=>NI jn Q m t_2 v_3 keys2 (keys2.n:Int) 0)):=by kernel_rfl
theorem Ajb:Av jn PR Aw Tryz.f147 [.i room0] Q=(Bw 72 [.i room0,.i 1,.i 1024] λX1=>JP 171 [] λX2=>JP 172 [.int .u64 0] λX3=>A1 [.i X1,.p X2,.p X3] 238 λB4=>Q (pq B4 0)):=by kernel_rfl
theorem Ajc:Av jn PR Aw Tryz.f151 [.i room0] Q=(λw=>Calls PR 184 #[.i 4] w λe w'=>∃X1:Sl,∃X2:OA,e = .returned (.agg #[.l X1.a X1.n X1.c,.p X2])/\(A1 [.l X1.a X1.n X1.c,.p X2,.i (if (if 1024<room0 then 1024 else room0)>1 then (if 1024<room0 then 1024 else room0) else 1),.i 0] 266 λB3=>Q (pq B3 0)) w'):=by kernel_rfl
theorem Ajd:Av jn PR Aw Tryz.f152 [.i room0] Q=(AY ((10:Int)≠0)<|JP 171 [] λX1=>JP 171 [] λX2=>JP 185 [.int .u64 0] λX3=>A1 [.i (if (if 1024<room0 then 1024 else room0)>1 then (if 1024<room0 then 1024 else room0) else 1),.i (IntKind.wrap .i64 ((if (if 1024<room0 then 1024 else room0)>1 then (if 1024<room0 then 1024 else room0) else 1)-(if (IntKind.wrap .i64 (Int.tdiv (if (if 1024<room0 then 1024 else room0)>1 then (if 1024<room0 then 1024 else room0) else 1) 10))>1 then (IntKind.wrap .i64 (Int.tdiv (if (if 1024<room0 then 1024 else room0)>1 then (if 1024<room0 then 1024 else room0) else 1) 10)) else 1))),.p X1,.p X2,.p X3,.i 0,.i 0] 272 λB4=>
 Q (pq B4 0)):=by kernel_rfl
theorem Aje:Av jn PR Aw Tryz.f153 [.i room0] Q=(λw=>Calls PR 186 #[.i 3] w λe w'=>∃X1:Sl,∃X2:OA,e = .returned (.agg #[.l X1.a X1.n X1.c,.p X2])/\(AY ((4:Int)≠0)<|AY ((2:Int)≠0)<|A1 [.l X1.a X1.n X1.c,.p X2,.i (if (if 1024<room0 then 1024 else room0)>1 then (if 1024<room0 then 1024 else room0) else 1),.i (if (IntKind.wrap .i64 (Int.tdiv (if (if 1024<room0 then 1024 else room0)>1 then (if 1024<room0 then 1024 else room0) else 1) 4))>1 then (IntKind.wrap .i64 (Int.tdiv (if (if 1024<room0 then 1024 else room0)>1 then (if 1024<room0 then 1024 else room0) else 1) 4)) else 1),.i (if (IntKind.wrap .i64 (Int.tdiv (if (if 1024<room0 then 1024 else room0)>1 then (if 1024<room0 then 1024 else room0) else 1) 2))>1 then (IntKind.wrap .i64 (Int.tdiv (if (if 1024<room0 then 1024 else room0)>1 then (if 1024<room0 then 1024 else room0) else 1) 2)) else 1)] 278 λB3=>
 Q (pq B3 0)) w'):=by kernel_rfl
theorem Ajf:Av jn PR Aw Tryz.f154 [.i room0] Q=(AY ((8:Int)≠0)<|λw=>Calls PR 187 #[.i 3] w λe w'=>∃X1:Sl,∃X2:OA,e = .returned (.agg #[.l X1.a X1.n X1.c,.p X2])/\(AY ((5:Int)≠0)<|JP 188 [.i (if (if 1024<room0 then 1024 else room0)>1 then (if 1024<room0 then 1024 else room0) else 1)] λX3=>JP 189 [.i (if (if 1024<room0 then 1024 else room0)>1 then (if 1024<room0 then 1024 else room0) else 1)] λX4=>A1 [.l X1.a X1.n X1.c,.p X2,.i (if (if 1024<room0 then 1024 else room0)>1 then (if 1024<room0 then 1024 else room0) else 1),.i (if (IntKind.wrap .i64 (Int.tdiv (if (if 1024<room0 then 1024 else room0)>1 then (if 1024<room0 then 1024 else room0) else 1) 8))>1 then (IntKind.wrap .i64 (Int.tdiv (if (if 1024<room0 then 1024 else room0)>1 then (if 1024<room0 then 1024 else room0) else 1) 8)) else 1),.i (IntKind.wrap .i64 ((if (if 1024<room0 then 1024 else room0)>1 then (if 1024<room0 then 1024 else room0) else 1)-(if (IntKind.wrap .i64 (Int.tdiv (if (if 1024<room0 then 1024 else room0)>1 then (if 1024<room0 then 1024 else room0) else 1) 8))>1 then (IntKind.wrap .i64 (Int.tdiv (if (if 1024<room0 then 1024 else room0)>1 then (if 1024<room0 then 1024 else room0) else 1) 8)) else 1))),.i (IntKind.wrap .i64 (Int.tdiv (IntKind.wrap .i64 ((IntKind.wrap .i64 ((if (if 1024<room0 then 1024 else room0)>1 then (if 1024<room0 then 1024 else room0) else 1)-(if (IntKind.wrap .i64 (Int.tdiv (if (if 1024<room0 then 1024 else room0)>1 then (if 1024<room0 then 1024 else room0) else 1) 8))>1 then (IntKind.wrap .i64 (Int.tdiv (if (if 1024<room0 then 1024 else room0)>1 then (if 1024<room0 then 1024 else room0) else 1) 8)) else 1)))*4)) 5)),.p X3,.p X4] 288 λB5=>
 Q (pq B5 0)) w'):=by kernel_rfl
theorem Ajg:Av jn PR Aw Tryz.f155 [.i room0] Q=(AY ((10:Int)≠0)<|λw=>Calls PR 190 #[.i 3] w λe w'=>∃X1:Sl,∃X2:OA,e = .returned (.agg #[.l X1.a X1.n X1.c,.p X2])/\(JP 172 [.int .u64 0] λX3=>A1 [.l X1.a X1.n X1.c,.p X2,.i (if (if 1024<room0 then 1024 else room0)>1 then (if 1024<room0 then 1024 else room0) else 1),.i (if (IntKind.wrap .i64 (Int.tdiv (if (if 1024<room0 then 1024 else room0)>1 then (if 1024<room0 then 1024 else room0) else 1) 10))>1 then (IntKind.wrap .i64 (Int.tdiv (if (if 1024<room0 then 1024 else room0)>1 then (if 1024<room0 then 1024 else room0) else 1) 10)) else 1),.i (if (IntKind.wrap .i64 ((if (if 1024<room0 then 1024 else room0)>1 then (if 1024<room0 then 1024 else room0) else 1)-(if (IntKind.wrap .i64 (Int.tdiv (if (if 1024<room0 then 1024 else room0)>1 then (if 1024<room0 then 1024 else room0) else 1) 10))>1 then (IntKind.wrap .i64 (Int.tdiv (if (if 1024<room0 then 1024 else room0)>1 then (if 1024<room0 then 1024 else room0) else 1) 10)) else 1)))>1 then (IntKind.wrap .i64 ((if (if 1024<room0 then 1024 else room0)>1 then (if 1024<room0 then 1024 else room0) else 1)-(if (IntKind.wrap .i64 (Int.tdiv (if (if 1024<room0 then 1024 else room0)>1 then (if 1024<room0 then 1024 else room0) else 1) 10))>1 then (IntKind.wrap .i64 (Int.tdiv (if (if 1024<room0 then 1024 else room0)>1 then (if 1024<room0 then 1024 else room0) else 1) 10)) else 1))) else 1),.p X3] 294 λB4=>
 Q (pq B4 0)) w'):=by kernel_rfl
theorem Ajh{x0:Int}:Av jn PR Aw Tryz.f156 [.int .u64 x0] Q=(AY ((0:Int)<=(30:Int))<|AY ((0:Int)<=(27:Int))<|AY ((0:Int)<=(31:Int))<|Q (.int .u64 (bits .xor .u64 (IntKind.wrap .u64 ((bits .xor .u64 (IntKind.wrap .u64 ((bits .xor .u64 x0 (C8 .u64 x0 30))*13787848793156543929)) (C8 .u64 (IntKind.wrap .u64 ((bits .xor .u64 x0 (C8 .u64 x0 30))*13787848793156543929)) 27))*10723151780598845931)) (C8 .u64 (IntKind.wrap .u64 ((bits .xor .u64 (IntKind.wrap .u64 ((bits .xor .u64 x0 (C8 .u64 x0 30))*13787848793156543929)) (C8 .u64 (IntKind.wrap .u64 ((bits .xor .u64 x0 (C8 .u64 x0 30))*13787848793156543929)) 27))*10723151780598845931)) 31)))):=by kernel_rfl
theorem Ww:RE jn Q m1 ((.p x0)::(.s key1)::us 4 ((.i free6)::(.i i7)::us 71 []))=(Ad x0 λB23 O24=>AZ B23 (O24+1) λX25=>AY ((X25.n:Int)≠0)<|NJ jn Q m1 x0 key1 free6 (Int.tmod (IntKind.wrap .i64 (i7+1)) (X25.n:Int))):=by kernel_rfl
theorem Wx{t61:Bool}:RF jn Q m1 ((.p x0)::(.s key1)::us 4 ((.i free6)::(.i i7)::(pq p8b p8o)::us 52 ((.b t61)::us 17 [])))=(Aj t61 (Q (.tuple #[.i i7,.b false])) (Ad (some ⟨p8b,p8o,none⟩) λB29 O30=>Ay B29 O30 λX31=>Aj (X31==0) (Q (.tuple #[.i free6,.b false])) (Uc jn Q m1 x0 key1 free6 i7))):=by kernel_rfl
theorem Wv{t50:Bool}:RD jn Q m1 ((.p x0)::(.s key1)::us 4 ((.i free6)::(.i i7)::(pq p8b p8o)::us 41 ((.b t50)::us 28 [])))=(Aj t50 (Uc jn Q m1 x0 key1 i7 i7) (Ad (some ⟨p8b,p8o,none⟩) λB26 O27=>Ay B26 O27 λX28=>Aj (X28==0) (Ud jn Q m1 x0 key1 free6 i7 p8b p8o (decide (free6<0))) (Ud jn Q m1 x0 key1 free6 i7 p8b p8o false))):=by kernel_rfl
theorem Wu{t35:Bool}:RC jn Q m1 ((.p x0)::(.s key1)::us 4 ((.i free6)::(.i i7)::(pq p8b p8o)::us 26 ((.b t35)::us 43 [])))=(Aj t35 (Q (.tuple #[.i i7,.b true])) (Ad (some ⟨p8b,p8o,none⟩) λB20 O21=>Ay B20 O21 λX22=>Aj (X22==1) (Ub jn Q m1 x0 key1 free6 i7 p8b p8o (decide (free6<0))) (Ub jn Q m1 x0 key1 free6 i7 p8b p8o false))):=by kernel_rfl
theorem Wy:NJ jn Q (m1+1) x0 key1 free6 i7=(Ad x0 λB9 O10=>AZ B9 (O10+1) λX11=>C7 X11.a X11.n i7 λB12 O13=>Ad (some ⟨B12,(O13+i7.toNat*4),none⟩) λB14 O15=>Ay B14 O15 λX16=>Aj (X16==2) (Ad (some ⟨B12,(O13+i7.toNat*4),none⟩) λB17 O18=>BQ B17 (O18+1) λX19=>Ua jn Q m1 x0 key1 free6 i7 B12 (O13+i7.toNat*4) (sEq X19 key1)) (Ua jn Q m1 x0 key1 free6 i7 B12 (O13+i7.toNat*4) false)):=by kernel_rfl
theorem Aji:Av jn PR AA Tryz.f158 [.p x0,.s key1] Q=(A5 λS=>Ad x0 λB1 O2=>YR S B1 O2 λX3=>Ad x0 λB4 O5=>Fs S B4 (O5+1) λX6=>YS 117 [.int .u64 X3,.s key1] λX7=>Aq true S<|Bw 116 [.int .u64 X7,.i (X6.n:Int)] λX8=>DF λm=>NJ jn Q m x0 key1 (-1) X8):=by kernel_rfl
theorem Ajj:Av jn PR Aw Tryz.f159 [.p x0,.s key1] Q=(Fy 192 [.p x0,.s key1] λX1 X2=>Aj X2 (Fy 193 [.p x0,.s key1] λX3 X4=>Ad x0 λB5 O6=>AZ B5 (O6+1) λX7=>C7 X7.a X7.n X3 λB8 O9=>st B8 (O9+X3.toNat*3) (.i 1)<|st B8 ((O9+X3.toNat*3)+1) (.s Ae)<|st B8 (((O9+X3.toNat*3)+1)+1) (.i 0)<|Ad x0 λB10 O11=>Ay B10 (O11+2) λX12=>Ad x0 λB13 O14=>st B13 (O14+2) (.i (IntKind.wrap .i64 (X12-1)))<|Q (.tuple #[.i X1,.b X2])) (
 Q (.tuple #[.i X1,.b X2]))):=by kernel_rfl
theorem Ajk:Av jn PR Aw Tryz.f160 [.p l0,.i h1] Q=(ED 164 [.p l0,.i h1] λX1 X2=>Aj X2 (wz 194 [.p l0,.i h1]<|Ad l0 λB3 O4=>AZ B3 O4 λX5=>C7 X5.a X5.n h1 λB6 O7=>st B6 (O7+h1.toNat*4) (.s Ae)<|st B6 ((O7+h1.toNat*4)+1) (.i 0)<|st B6 (((O7+h1.toNat*4)+1)+1) (.i 0)<|st B6 ((((O7+h1.toNat*4)+1)+1)+1) (.b false)<|Ad l0 λB8 O9=>AZ B8 (O9+1) λX10=>A1 [.i h1] 3 λB11=>Bt 3 1 8 [.i 0] ⟨X10.a,X10.n,X10.c⟩ 1 (λw=>HF w (some ⟨B11,0,none⟩) (1*1)) λG12=>
 Ad l0 λB13 O14=>st B13 (O14+1) (.l G12.a G12.n G12.c)<|Ad l0 λB15 O16=>Ay B15 (O16+2) λX17=>Ad l0 λB18 O19=>st B18 (O19+2) (.i (IntKind.wrap .i64 (X17-1)))<|Q (.tuple #[.s X1,.b X2])) (Q (.tuple #[.s X1,.b X2]))):=by kernel_rfl
theorem Ajl{v2:Int}:Av jn PR Ara Tryz.f161 [.p x0,.s key1,.i v2] Q=(Aj (Option.isNone x0) (Q (.b false)) (Fy 193 [.p x0,.s key1] λX1 X2=>Aj X2 (Ad x0 λB3 O4=>AZ B3 (O4+1) λX5=>C7 X5.a X5.n X1 λB6 O7=>st B6 ((O7+X1.toNat*3)+2) (.i v2)<|Q (.b false)) (wz 195 [.p x0,.i X1,.s key1,.i v2]<|A5 λS=>Ad x0 λB8 O9=>Er S B8 (O9+3) λX10=>Ad x0 λB11 O12=>AZ B11 (O12+1) λX13=>Aq true S<|Aj (decide ((IntKind.wrap .i64 (2*X10))>(X13.n:Int))) (
 wz 196 [.p x0]<|Q (.b true)) (Q (.b true))))):=by kernel_rfl
theorem Ajm{v1:BA}:Av jn PR Aw Tryz.f162 [.p l0,.s v1] Q=(Aj (Option.isNone l0) (Q (.i 0)) (Bw 197 [.p l0,.s v1] λX1=>Ad l0 λB2 O3=>AZ B2 O3 λX4=>C7 X4.a X4.n 0 λB5 O6=>Ay B5 ((O6+((0:Int)).toNat*4)+1) λX7=>wz 198 [.p l0,.i X1,.i X7,.i 0]<|Q (.i X1))):=by kernel_rfl
theorem Ajn:Av jn PR Aw Tryz.f163 [.p l0] Q=(Aj (Option.isNone l0) (Q (.i 0)) (Ad l0 λB1 O2=>Ay B1 (O2+2) λX3=>Q (.i X3))):=by kernel_rfl
theorem Ajo:Av jn PR Aw Tryz.f164 [.p l0,.i h1] Q=(Dw 199 [.p l0,.i h1] λX1=>Aj (!X1) (Q (.tuple #[.s Ae,.b false])) (Ad l0 λB2 O3=>AZ B2 O3 λX4=>C7 X4.a X4.n h1 λB5 O6=>BQ B5 (O6+h1.toNat*4) λX7=>Q (.tuple #[.s X7,.b true]))):=by kernel_rfl
theorem Ajp:Av jn PR Aw Tryz.f165 [.p l0] Q=(Aj (Option.isNone l0) (Q (.i 0)) (Ad l0 λB1 O2=>AZ B1 O2 λX3=>C7 X3.a X3.n 0 λB4 O5=>Ay B4 ((O5+((0:Int)).toNat*4)+2) λX6=>Q (.i X6))):=by kernel_rfl
theorem LQ{v7b v7o:Nat}:RG jn Q ((.p x0)::(.i i1)::(.s key2)::us 4 ((pq v7b v7o)::us 32 []))=(A5 λS=>Ad x0 λB13 O14=>Fs S B13 (O14+1) λX15=>BQ v7b v7o λX16=>Ay v7b (v7o+1) λX17=>Aq true S<|C7 X15.a X15.n i1 λB18 O19=>st B18 (O19+i1.toNat*4) (.i 2)<|st B18 ((O19+i1.toNat*4)+1) (.s key2)<|st B18 (((O19+i1.toNat*4)+1)+1) (.s X16)<|st B18 ((((O19+i1.toNat*4)+1)+1)+1) (.i X17)<|Ad x0 λB20 O21=>Ay B20 (O21+2) λX22=>Ad x0 λB23 O24=>st B23 (O24+2) (.i (IntKind.wrap .i64 (X22+1)))<|
 Q (.tuple #[])):=by kernel_rfl
theorem Ajq{v3_0:BA}{v3_1:Int}:Av jn PR Eb Tryz.f166 [.p x0,.i i1,.s key2,.agg #[.s v3_0,.i v3_1]] Q=(A1 [.s v3_0,.i v3_1] 120 λB1=>Ad x0 λB2 O3=>AZ B2 (O3+1) λX4=>C7 X4.a X4.n i1 λB5 O6=>Ay B5 (O6+i1.toNat*4) λX7=>Aj (X7==0) (Ad x0 λB8 O9=>Ay B8 (O9+3) λX10=>Ad x0 λB11 O12=>st B11 (O12+3) (.i (IntKind.wrap .i64 (X10+1)))<|Ab2 jn Q x0 i1 key2 B1 0) (Ab2 jn Q x0 i1 key2 B1 0)):=by kernel_rfl
theorem LR{t28:Sl}{t29 t30:Int}:Kd jn Q (m1+1) x0 t28 t29 t30=(Aj (decide (t30<t29)) (C7 t28.a t28.n t30 λB14 O15=>Ay B14 (O15+t30.toNat*4) λX16=>BQ B14 ((O15+t30.toNat*4)+1) λX17=>BQ B14 (((O15+t30.toNat*4)+1)+1) λX18=>Ay B14 ((((O15+t30.toNat*4)+1)+1)+1) λX19=>A1 [.i 0,.s Ae,.s Ae,.i 0] 178 λB20=>st B20 0 (.i X16)<|st B20 1 (.s X17)<|st B20 2 (.s X18)<|st B20 3 (.i X19)<|Ay B20 0 λX21=>Aj (X21==2) (BQ B20 1 λX22=>Fy 158 [.p x0,.s X22] λX23 X24=>
 BQ B20 1 λX25=>BQ B20 2 λX26=>Ay B20 3 λX27=>wz 166 [.p x0,.i X23,.s X25,.agg #[.s X26,.i X27]]<|Kd jn Q m1 x0 t28 t29 (IntKind.wrap .i64 (t30+1))) (Kd jn Q m1 x0 t28 t29 (IntKind.wrap .i64 (t30+1)))) (Q (.tuple #[]))):=by kernel_rfl
theorem Ajr:Av jn PR Dt Tryz.f167 [.p x0] Q=(Ad x0 λB1 O2=>AZ B1 (O2+1) λX3=>Ad x0 λB4 O5=>Ay B4 (O5+2) λX6=>Ha 178 48 [.i 0,.s Ae,.s Ae,.i 0] (if (IntKind.wrap .i64 (4*(IntKind.wrap .i64 (X6+1))))>8 then (IntKind.wrap .i64 (4*(IntKind.wrap .i64 (X6+1)))) else 8) (if (IntKind.wrap .i64 (4*(IntKind.wrap .i64 (X6+1))))>8 then (IntKind.wrap .i64 (4*(IntKind.wrap .i64 (X6+1)))) else 8) λG7=>Ad x0 λB8 O9=>st B8 (O9+1) (.l G7.a G7.n G7.c)<|Ad x0 λB10 O11=>st B10 (O11+2) (.i 0)<|Ad x0 λB12 O13=>st B12 (O13+3) (.i 0)<|DF λm=>Kd jn Q m x0 X3 (X3.n:Int) 0):=by kernel_rfl
theorem W3{t13:Bool}:RI jn Q ((.p f0)::us 2 ((.b r3)::us 9 ((.b t13)::us 32 [])))=(Aj t13 (Ad f0 λB13 O14=>Q (.p (some ⟨B13,(O14+5),none⟩))) (Aj r3 (Ad f0 λB15 O16=>Q (pq B15 O16)) (Q (.p none)))):=by kernel_rfl
theorem W2{w4 t13:Bool}:RH jn Q ((.p f0)::us 2 ((.b r3)::(.b w4)::us 8 ((.b t13)::us 32 [])))=(Aj t13 (NL jn Q f0 r3 t13) (Aj w4 (NL jn Q f0 r3 (!r3)) (NL jn Q f0 r3 false))):=by kernel_rfl
theorem Ajs:Av jn PR Kf Tryz.f168 [.p f0] Q=(A5 λS=>Ad f0 λB1 O2=>Ad f0 λB3 O4=>Dw 200 [pq B1 O2] λX5=>Dw 200 [.p (some ⟨B3,(O4+5),none⟩)] λX6=>A5 λS=>Aj X5 (Aj X6 (Ad f0 λB7 O8=>Er S B7 (((O8+5)+1)+2) λX9=>Ad f0 λB10 O11=>Ay B10 ((O11+1)+2) λX12=>Aq true S<|NK jn Q f0 X5 X6 (decide (X9<X12))) (Aq true S<|NK jn Q f0 X5 X6 false)) (Aq true S<|NK jn Q f0 X5 X6 false)):=by kernel_rfl
theorem Ajt{x0 y1:Int}:Av jn PR Aw Tryz.f169 [.int .u64 x0,.int .u64 y1] Q=(AY ((0:Int)<=(32:Int))<|AY ((0:Int)<=(32:Int))<|AY ((0:Int)<=(32:Int))<|AY ((0:Int)<=(32:Int))<|AY ((0:Int)<=(32:Int))<|Q (.tuple #[.int .u64 (IntKind.wrap .u64 ((IntKind.wrap .u64 ((IntKind.wrap .u64 ((C8 .u64 x0 32)*(C8 .u64 y1 32)))+(C8 .u64 (IntKind.wrap .u64 ((IntKind.wrap .u64 ((C8 .u64 x0 32)*(bits .and .u64 y1 4294967295)))+(C8 .u64 (IntKind.wrap .u64 ((bits .and .u64 x0 4294967295)*(bits .and .u64 y1 4294967295))) 32))) 32)))+(C8 .u64 (IntKind.wrap .u64 ((bits .and .u64 (IntKind.wrap .u64 ((IntKind.wrap .u64 ((C8 .u64 x0 32)*(bits .and .u64 y1 4294967295)))+(C8 .u64 (IntKind.wrap .u64 ((bits .and .u64 x0 4294967295)*(bits .and .u64 y1 4294967295))) 32))) 4294967295)+(IntKind.wrap .u64 ((bits .and .u64 x0 4294967295)*(C8 .u64 y1 32))))) 32))),.int .u64 (IntKind.wrap .u64 (x0*y1))])):=by kernel_rfl
theorem Aju:Av jn PR Aw Tryz.f171 [] Q=(Ha 302 40 [.s Ae,.i 0,.i 0,.b false] 1 1 λG1=>A1 [.l G1.a G1.n G1.c,.l none 0 0,.i 0] 305 λB2=>Q (pq B2 0)):=by kernel_rfl
theorem Ajv:Av jn PR Aw Tryz.f172 [.int .u64 seed0] Q=(Ha 297 32 [.i 0,.s Ae,.i 0] 8 8 λG1=>A1 [.int .u64 seed0,.l G1.a G1.n G1.c,.i 0,.i 0] 300 λB2=>Q (pq B2 0)):=by kernel_rfl
theorem Ajw:Av jn PR Aw Tryz.f185 [.int .u64 seed0] Q=(Ha 387 48 [.i 0,.s Ae,.i 0,.i 0,.i 0] 8 8 λG1=>A1 [.int .u64 seed0,.l G1.a G1.n G1.c,.i 0,.i 0] 320 λB2=>Q (pq B2 0)):=by kernel_rfl
theorem LS:RJ jn Q (us 3 ((.i n3)::us 13 []))=(AY ((2:Int)≠0)<|Ha 5 1 [.int .u8 0] (IntKind.wrap .i64 (Int.tdiv (IntKind.wrap .i64 (4*n3)) 2)) (IntKind.wrap .i64 (Int.tdiv (IntKind.wrap .i64 (4*n3)) 2)) λG2=>A1 [.i n3,.l G2.a G2.n G2.c,.i 0] 329 λB3=>Q (pq B3 0)):=by kernel_rfl
theorem LU:NM jn Q (m1+1) room0 n3=(Bw 72 [.i room0,.i 1,.i 1024] λX1=>Aj (decide (n3<X1)) (NM jn Q m1 room0 (IntKind.wrap .i64 (n3*2))) (Ark jn Q n3)):=by kernel_rfl
theorem Ajx:Av jn PR Gd Tryz.f188 [.i room0] Q=(DF λm=>NM jn Q m room0 8):=by kernel_rfl
end Go.Proofs.YtjipofkjmmpjdaaGreat
namespace Go.Proofs.YtjipofkjmmpjdaaGreat
open Go.Hb
section
variable(jn:Jn)(Q:VW)
def Arl:EW:=sE Tryz.f189 Gd jn Q [1,1,1] (rE Tryz.f189 Q) A6
def RK:EW:=cE Tryz.f189 Gd jn Q [1,1,1] (rE Tryz.f189 Q) A6
def Ab3(n3:Int):WP:=jn 10 (RK jn Q) (us 3 ((.i n3)::us 13 []))
def NN(m1:Nat)(room0 n3:Int):WP:=CQ PR Gd jn (bE Tryz.f189 [1,1,0,0,0]) (A8 0 (Arl jn Q) A6) (rE Tryz.f189 Q) m1 ((.i room0)::us 2 ((.i n3)::us 13 []))
def Arm:EW:=sE Tryz.f190 CH jn Q [1,1,1] (rE Tryz.f190 Q) A6
def Aej:EW:=cE Tryz.f190 CH jn Q [1,1,1] (rE Tryz.f190 Q) A6
def Arn(m1:Nat)(t2b t2o r3b r3o:Nat)(t6 t7:Int):WP:=CQ PR CH jn (bE Tryz.f190 [1,1,0,1,0,0]) (A8 0 (Arm jn Q) A6) (rE Tryz.f190 Q) m1 (us 2 ((pq t2b t2o)::(pq r3b r3o)::us 2 ((.i t6)::(.i t7)::us 9 [])))
def Ab4(m1:Nat):EW:=Iy PR AA jn (bE Tryz.f193 [1,1,1,0,0]) (A8 0 (rE Tryz.f193 Q) A6) (rE Tryz.f193 Q) m1
def Kg(m1:Nat):EW:=sE Tryz.f193 AA jn Q [1,1,1,0,0,1] (Ab4 jn Q m1) (A8 0 (rE Tryz.f193 Q) A6)
def Aro(m1:Nat):Nat->EW:=A8 1 (Kg jn Q m1) (A8 0 (rE Tryz.f193 Q) A6)
def Uf(m1:Nat):Nat->EW:=A8 2 (Kg jn Q m1) (Aro jn Q m1)
def RN(m1:Nat):EW:=cE Tryz.f193 AA jn Q [1,1,1,0,0,1] (Ab4 jn Q m1) (A8 0 (rE Tryz.f193 Q) A6)
def Ui(m1:Nat)(x0:OA)(key1:BA)(free6 i7:Int):WP:=jn 8 (RN jn Q m1) ((.p x0)::(.s key1)::us 4 ((.i free6)::(.i i7)::us 71 []))
def RO(m1:Nat):EW:=cE Tryz.f193 AA jn Q [1,1,1,0,0,0,0,1,0,1,1,1,1,1] (Kg jn Q m1) (Uf jn Q m1)
def Uj(m1:Nat)(x0:OA)(key1:BA)(free6 i7:Int)(p8b p8o:Nat)(t61:Bool):WP:=jn 22 (RO jn Q m1) ((.p x0)::(.s key1)::us 4 ((.i free6)::(.i i7)::(pq p8b p8o)::us 52 ((.b t61)::us 17 [])))
def RM(m1:Nat):EW:=cE Tryz.f193 AA jn Q [1,1,1,0,0,0,0,1,0,1,1,1] (Kg jn Q m1) (Uf jn Q m1)
def Uh(m1:Nat)(x0:OA)(key1:BA)(free6 i7:Int)(p8b p8o:Nat)(t50:Bool):WP:=jn 18 (RM jn Q m1) ((.p x0)::(.s key1)::us 4 ((.i free6)::(.i i7)::(pq p8b p8o)::us 41 ((.b t50)::us 28 [])))
def RL(m1:Nat):EW:=cE Tryz.f193 AA jn Q [1,1,1,0,0,0,0,1,0,1] (Kg jn Q m1) (Uf jn Q m1)
def Ug(m1:Nat)(x0:OA)(key1:BA)(free6 i7:Int)(p8b p8o:Nat)(t35:Bool):WP:=jn 14 (RL jn Q m1) ((.p x0)::(.s key1)::us 4 ((.i free6)::(.i i7)::(pq p8b p8o)::us 26 ((.b t35)::us 43 [])))
def NO(m1:Nat)(x0:OA)(key1:BA)(free6 i7:Int):WP:=CQ PR AA jn (bE Tryz.f193 [1,1,1,0,0]) (A8 0 (rE Tryz.f193 Q) A6) (rE Tryz.f193 Q) m1 ((.p x0)::(.s key1)::us 4 ((.i free6)::(.i i7)::us 71 []))
def Arp:KP:=⟨[],[(0,[0,1,2,3,4,5,6,7,8,9,10,12,13,14,16,17]),(1,[0,1,2,3,4,5,6,7,9,10,11,12,13,15,16])]⟩
def Ab6:KP:=⟨[(6,[0,1,2,3])],[]⟩
def RP:EW:=cE Tryz.f195 Ab6 jn Q [1] (rE Tryz.f195 Q) A6
def Ab5(x0:OA)(i1:Int)(key2:BA)(v3:Int):WP:=jn 6 (RP jn Q) ((.p x0)::(.i i1)::(.s key2)::(.i v3)::us 36 [])
def Kh(m1:Nat)(x0:OA)(t28:Sl)(t29 t30:Int):WP:=CQ PR Dt jn (bE Tryz.f196 [1,1,1,0,0]) (A8 0 (rE Tryz.f196 Q) A6) (rE Tryz.f196 Q) m1 ((.p x0)::us 27 ((.l t28.a t28.n t28.c)::(.i t29)::(.i t30)::us 21 []))
def Ab8:KP:=⟨[(16,[0,1,5])],[]⟩
def RQ:EW:=cE Tryz.f197 Ab8 jn Q [1,1,1] (rE Tryz.f197 Q) A6
def Ab7(l0:OA)(v1:BA)(h5:Int):WP:=jn 16 (RQ jn Q) ((.p l0)::(.s v1)::us 3 ((.i h5)::us 57 []))
def Arq:KP:=⟨[],[(0,[0,1,2,3,4,5,6,7,9,10,11,12,13,15,16]),(1,[0,1,2,3,4,5,6,7,9,10,11,12,13,15,16])]⟩
def NP:KP:=⟨[(9,[0,3,4]),(14,[3])],[]⟩
def Ars:EW:=sE Tryz.f244 NP jn Q [1,1,1] (rE Tryz.f244 Q) A6
def RR:EW:=cE Tryz.f244 NP jn Q [1,1,1] (rE Tryz.f244 Q) A6
def Art(all3:Sl):WP:=jn 14 (RR jn Q) (us 3 ((.l all3.a all3.n all3.c)::us 20 []))
def NQ(m1:Nat)(l0:OA)(all3:Sl)(h4:Int):WP:=CQ PR NP jn (bE Tryz.f244 [1,1,0,1,0,0]) (A8 0 (Ars jn Q) A6) (rE Tryz.f244 Q) m1 ((.p l0)::us 2 ((.l all3.a all3.n all3.c)::(.i h4)::us 19 []))
def NR:KP:=⟨[(24,[0,1,16,26]),(40,[0,1,6])],[(14,[0,1,2,3,4,5,6,7,8,9,10,11,12,15,16,17,18,21,22,23,24,25,26]),(17,[0,1,2,3,4,5,6,7,8,11,12,13,14,17,18,19,20,21,22])]⟩
def Ab9:EW:=sE Tryz.f246 NR jn Q [1,1,1,1,1] (rE Tryz.f246 Q) A6
def RT:EW:=cE Tryz.f246 NR jn Q [1,1,1,1,1] (rE Tryz.f246 Q) A6
def EZ(e0:OA)(key1:BA)(gone6:Sl):WP:=jn 40 (RT jn Q) ((.p e0)::(.s key1)::us 4 ((.l gone6.a gone6.n gone6.c)::us 93 []))
def RS:EW:=cE Tryz.f246 NR jn Q [1,1,1,1,0,1,0,1] (Ab9 jn Q) (A8 0 (Ab9 jn Q) A6)
def Uk(e0:OA)(key1:BA)(t16:Int)(t26:Bool):WP:=jn 24 (RS jn Q) ((.p e0)::(.s key1)::us 14 ((.i t16)::us 9 ((.b t26)::us 73 [])))
def Gf:KP:=⟨[(8,[0,1]),(11,[0]),(14,[0]),(15,[0]),(18,[])],[(1,[0,1,2,3,4,6,7,8,10,11,12,13,14,15]),(4,[0,1,2,3,6,7,8,9,10]),(5,[0,1,2,3,4,5,6]),(6,[0,1,2,3,6,7,8,9,10,11]),(7,[0,1,2,3,4,5,6])]⟩
def Aru:EW:=sE Tryz.f252 Gf jn Q [1,1,1,1] (rE Tryz.f252 Q) A6
def Ake:EW:=sE Tryz.f252 Gf jn Q [1,1,1,1,1] (rE Tryz.f252 Q) A6
def RX:EW:=cE Tryz.f252 Gf jn Q [1,1,1,1,1] (rE Tryz.f252 Q) A6
def Arx:WP:=jn 18 (RX jn Q) (us 70 [])
def NT(m4:Nat)(e0:OA):WP:=CQ PR Gf jn (bE Tryz.f252 [1,1,1,1,0,0,0]) (A8 2 (Ake jn Q) A6) (rE Tryz.f252 Q) m4 ((.p e0)::us 69 [])
def RW:EW:=cE Tryz.f252 Gf jn Q [1,1,1,1] (rE Tryz.f252 Q) A6
def Arw(e0:OA):WP:=jn 14 (RW jn Q) ((.p e0)::us 69 [])
def NS(m2:Nat)(e0:OA):WP:=CQ PR Gf jn (bE Tryz.f252 [1,1,1,0,0,0]) (A8 0 (Aru jn Q) A6) (rE Tryz.f252 Q) m2 ((.p e0)::us 69 [])
def RU:EW:=cE Tryz.f252 Gf jn Q [1,1] (rE Tryz.f252 Q) A6
def Arv(e0:OA)(key1:BA):WP:=jn 8 (RU jn Q) ((.p e0)::(.s key1)::us 68 [])
def NU:KP:=⟨[],[(2,[0,1,2,3,4,6,7,9,11])]⟩
def Bl:KP:=⟨[(9,[2,5,8,9,10]),(16,[5])],[]⟩
def Ary:EW:=sE Tryz.f258 Bl jn Q [1,1,1] (rE Tryz.f258 Q) A6
def Aek:EW:=cE Tryz.f258 Bl jn Q [1,1,1] (rE Tryz.f258 Q) A6
def Arz(m1:Nat)(r2b r2o:Nat)(n5:Int)(t8:Sl)(t9 t10:Int):WP:=CQ PR Bl jn (bE Tryz.f258 [1,1,0,1,0,0]) (A8 0 (Ary jn Q) A6) (rE Tryz.f258 Q) m1 (us 2 ((pq r2b r2o)::us 2 ((.i n5)::us 2 ((.l t8.a t8.n t8.c)::(.i t9)::(.i t10)::us 13 []))))
def Ar0:KP:=⟨[],[(1,[0,1,2,3,6,7,8,9,10])]⟩
def Um:KP:=⟨[(6,[0,4])],[(1,[0,1,2,3,6,7,8,9,10,11,12,13,14,15,18,19,20,21,22,23,24]),(2,[0,1,2,3,4,5,6]),(3,[0,1,2,3,6,7,8,9,10,11]),(7,[0,1,2,3,6,7,8,9,10,11]),(9,[0,1,2,3,6,7,8,9,10,11,12]),(10,[0,1,2,3,4,5,6])]⟩
def Aca:EW:=sE Tryz.f260 Um jn Q [1,1] (rE Tryz.f260 Q) A6
def RY:EW:=cE Tryz.f260 Um jn Q [1,0,0,1] (Aca jn Q) (A8 0 (Aca jn Q) A6)
def Ul(e0:OA)(t4:Bool):WP:=jn 6 (RY jn Q) ((.p e0)::us 3 ((.b t4)::us 96 []))
def Acb:KP:=⟨[(10,[0,5,6])],[]⟩
def RZ:EW:=cE Tryz.f261 Acb jn Q [1,1,1] (rE Tryz.f261 Q) A6
def Un(e0:OA)(from5 to6:Int):WP:=jn 10 (RZ jn Q) ((.p e0)::us 4 ((.i from5)::(.i to6)::us 17 []))
def Ar1:EW:=sE Tryz.f262 Bl jn Q [1,1,1] (rE Tryz.f262 Q) A6
def Ael:EW:=cE Tryz.f262 Bl jn Q [1,1,1] (rE Tryz.f262 Q) A6
def Ar2(m1:Nat)(r2b r2o:Nat)(l5 t8:Sl)(t9 t10:Int):WP:=CQ PR Bl jn (bE Tryz.f262 [1,1,0,1,0,0]) (A8 0 (Ar1 jn Q) A6) (rE Tryz.f262 Q) m1 (us 2 ((pq r2b r2o)::us 2 ((.l l5.a l5.n l5.c)::us 2 ((.l t8.a t8.n t8.c)::(.i t9)::(.i t10)::us 13 []))))
def NV:KP:=⟨[],[(3,[0,1,2,3,4,5,6])]⟩
def NW:KP:=⟨[],[(1,[0,1,2,3,4,5,7,8,12,13,14,15,16])]⟩
def Aem:EW:=cE Tryz.f265 Ea jn Q [1,1] (rE Tryz.f265 Q) A6
def Acd(m1:Nat):EW:=Iy PR AA jn (bE Tryz.f268 [1,1,1,0,0]) (A8 0 (rE Tryz.f268 Q) A6) (rE Tryz.f268 Q) m1
def Ki(m1:Nat):EW:=sE Tryz.f268 AA jn Q [1,1,1,0,0,1] (Acd jn Q m1) (A8 0 (rE Tryz.f268 Q) A6)
def Ar3(m1:Nat):Nat->EW:=A8 1 (Ki jn Q m1) (A8 0 (rE Tryz.f268 Q) A6)
def Uo(m1:Nat):Nat->EW:=A8 2 (Ki jn Q m1) (Ar3 jn Q m1)
def Aep(m1:Nat):EW:=cE Tryz.f268 AA jn Q [1,1,1,0,0,1] (Acd jn Q m1) (A8 0 (rE Tryz.f268 Q) A6)
def Aeq(m1:Nat):EW:=cE Tryz.f268 AA jn Q [1,1,1,0,0,0,0,1,0,1,1,1,1,1] (Ki jn Q m1) (Uo jn Q m1)
def Aeo(m1:Nat):EW:=cE Tryz.f268 AA jn Q [1,1,1,0,0,0,0,1,0,1,1,1] (Ki jn Q m1) (Uo jn Q m1)
def Aen(m1:Nat):EW:=cE Tryz.f268 AA jn Q [1,1,1,0,0,0,0,1,0,1] (Ki jn Q m1) (Uo jn Q m1)
def Ar4(m1:Nat)(x0:OA)(key1:BA)(free6 i7:Int):WP:=CQ PR AA jn (bE Tryz.f268 [1,1,1,0,0]) (A8 0 (rE Tryz.f268 Q) A6) (rE Tryz.f268 Q) m1 ((.p x0)::(.s key1)::us 4 ((.i free6)::(.i i7)::us 71 []))
def Aer:EW:=cE Tryz.f269 Eb jn Q [1,1] (rE Tryz.f269 Q) A6
def Ar5(m1:Nat)(x0:OA)(t28:Sl)(t29 t30:Int):WP:=CQ PR Dt jn (bE Tryz.f270 [1,1,1,0,0]) (A8 0 (rE Tryz.f270 Q) A6) (rE Tryz.f270 Q) m1 ((.p x0)::us 27 ((.l t28.a t28.n t28.c)::(.i t29)::(.i t30)::us 21 []))
def H2:KP:=⟨[(14,[0,1,6,22]),(28,[0,1,6]),(38,[0,1,6,8]),(40,[0,1,6,8,88])],[(14,[0,2,3,4,5,6]),(18,[0,1,2,3,4,5,6,8,9,10,12,13])]⟩
def Ace:EW:=sE Tryz.f271 H2 jn Q [1,1,1,1] (rE Tryz.f271 Q) A6
def Akl:EW:=sE Tryz.f271 H2 jn Q [1,1,1,1,1,1,1] (rE Tryz.f271 Q) A6
def Sd:EW:=cE Tryz.f271 H2 jn Q [1,1,1,1,1,1,0,1] (Akl jn Q) A6
def Uq(e0:OA)(key1:BA)(n6b n6o:Nat)(gone8:Sl)(t88:Bool):WP:=jn 40 (Sd jn Q) ((.p e0)::(.s key1)::us 4 ((pq n6b n6o)::us 1 ((.l gone8.a gone8.n gone8.c)::us 79 ((.b t88)::us 13 []))))
def Sc:EW:=cE Tryz.f271 H2 jn Q [1,1,1,1,1,1] (rE Tryz.f271 Q) A6
def Up(e0:OA)(key1:BA)(n6b n6o:Nat)(gone8:Sl):WP:=jn 38 (Sc jn Q) ((.p e0)::(.s key1)::us 4 ((pq n6b n6o)::us 1 ((.l gone8.a gone8.n gone8.c)::us 93 [])))
def Sb:EW:=cE Tryz.f271 H2 jn Q [1,1,1,1] (rE Tryz.f271 Q) A6
def Ar6(e0:OA)(key1:BA)(n6b n6o:Nat):WP:=jn 28 (Sb jn Q) ((.p e0)::(.s key1)::us 4 ((pq n6b n6o)::us 95 []))
def Sa:EW:=cE Tryz.f271 H2 jn Q [1,1,1,0,0,1] (Ace jn Q) (A8 0 (Ace jn Q) A6)
def NX(e0:OA)(key1:BA)(n6b n6o:Nat)(t22:Bool):WP:=jn 14 (Sa jn Q) ((.p e0)::(.s key1)::us 4 ((pq n6b n6o)::us 15 ((.b t22)::us 79 [])))
def Us:KP:=⟨[(12,[0]),(24,[0,4,6])],[(5,[0,1,2,3,4,5,6,10,11,12,13,14])]⟩
def Sf:EW:=cE Tryz.f272 Us jn Q [1,1,1,1,1,1,1,1] (rE Tryz.f272 Q) A6
def Acf(e0:OA)(key4:BA)(n6b n6o:Nat):WP:=jn 24 (Sf jn Q) ((.p e0)::us 3 ((.s key4)::us 1 ((pq n6b n6o)::us 50 [])))
def Se:EW:=cE Tryz.f272 Us jn Q [1,1,1] (rE Tryz.f272 Q) A6
def Ur(e0:OA):WP:=jn 12 (Se jn Q) ((.p e0)::us 56 [])
def Ar7:KP:=⟨[],[(3,[0,1,2,3,5,6,7,8,9,10])]⟩
def Acg:KP:=⟨[(8,[0,1])],[(1,[0,1,2,3,4,6,7,8,10,11,12,13,14,15]),(4,[0,1,2,3,4,5,6,8])]⟩
def Sg:EW:=cE Tryz.f277 Acg jn Q [1,1] (rE Tryz.f277 Q) A6
def Ar8(e0:OA)(key1:BA):WP:=jn 8 (Sg jn Q) ((.p e0)::(.s key1)::us 49 [])
def Ar9:KP:=⟨[],[(4,[0,1,2,3,4])]⟩
def Ach:KP:=⟨[],[(1,[0,1,2,3,4])]⟩
def Si:EW:=cE Tryz.f282 Ea jn Q [1,1] (rE Tryz.f282 Q) A6
def Aci(t4b t4o:Nat):WP:=jn 12 (Si jn Q) (us 4 ((pq t4b t4o)::us 22 []))
def Asb:KP:=⟨[],[(5,[0,1,2,3,4,5,6,8])]⟩
def Acj:KP:=⟨[(3,[0])],[(1,[0,1,2,3,4,5,6,10,11,12,13,14])]⟩
def NY(m1:Nat)(e0:OA):WP:=CQ PR Acj jn (bE Tryz.f284 [0,0]) (A8 0 (rE Tryz.f284 Q) A6) (rE Tryz.f284 Q) m1 ((.p e0)::us 40 [])
def Ack:KP:=⟨[(3,[0])],[(0,[0,1,2,3,4,5,6,8])]⟩
def NZ(m1:Nat)(e0:OA):WP:=CQ PR Ack jn (bE Tryz.f286 [0,0]) (A8 0 (rE Tryz.f286 Q) A6) (rE Tryz.f286 Q) m1 ((.p e0)::us 21 [])
def Uu:KP:=⟨[],[(0,[0,1,2,3,4,5,6])]⟩
def Asc:KP:=⟨[],[(6,[0,1,2,3,4])]⟩
def Oa:KP:=⟨[(9,[0,1,5,14,15,16]),(20,[5])],[]⟩
def Asd:EW:=sE Tryz.f289 Oa jn Q [1,1,1] (rE Tryz.f289 Q) A6
def Sj:EW:=cE Tryz.f289 Oa jn Q [1,1,1] (rE Tryz.f289 Q) A6
def Ase(l5:Sl):WP:=jn 20 (Sj jn Q) (us 5 ((.l l5.a l5.n l5.c)::us 33 []))
def Kj(m1:Nat)(e0:OA)(is1:Int)(l5 t14:Sl)(t15 t16:Int):WP:=CQ PR Oa jn (bE Tryz.f289 [1,1,0,1,0,0]) (A8 0 (Asd jn Q) A6) (rE Tryz.f289 Q) m1 ((.p e0)::(.i is1)::us 3 ((.l l5.a l5.n l5.c)::us 8 ((.l t14.a t14.n t14.c)::(.i t15)::(.i t16)::us 22 [])))
def Ob:KP:=⟨[(7,[0,1,5,6]),(18,[5])],[(7,[0,2])]⟩
def Asg:EW:=sE Tryz.f290 Ob jn Q [1,1] (rE Tryz.f290 Q) A6
def Sk:EW:=cE Tryz.f290 Ob jn Q [1,1] (rE Tryz.f290 Q) A6
def Ash(t5b t5o:Nat):WP:=jn 18 (Sk jn Q) (us 5 ((pq t5b t5o)::us 43 []))
def Oc(m1:Nat)(e0:OA)(is1:Int)(t5b t5o:Nat)(h6:Int):WP:=CQ PR Ob jn (bE Tryz.f290 [1,0,1,0,0]) (A8 0 (Asg jn Q) A6) (rE Tryz.f290 Q) m1 ((.p e0)::(.i is1)::us 3 ((pq t5b t5o)::(.i h6)::us 42 []))
def Acl(m1:Nat):EW:=Iy PR AA jn (bE Tryz.f292 [1,1,1,0,0]) (A8 0 (rE Tryz.f292 Q) A6) (rE Tryz.f292 Q) m1
def Kk(m1:Nat):EW:=sE Tryz.f292 AA jn Q [1,1,1,0,0,1] (Acl jn Q m1) (A8 0 (rE Tryz.f292 Q) A6)
def Asi(m1:Nat):Nat->EW:=A8 1 (Kk jn Q m1) (A8 0 (rE Tryz.f292 Q) A6)
def Uv(m1:Nat):Nat->EW:=A8 2 (Kk jn Q m1) (Asi jn Q m1)
def So(m1:Nat):EW:=cE Tryz.f292 AA jn Q [1,1,1,0,0,1] (Acl jn Q m1) (A8 0 (rE Tryz.f292 Q) A6)
def Uy(m1:Nat)(x0:OA)(key1:BA)(free6 i7:Int):WP:=jn 8 (So jn Q m1) ((.p x0)::(.s key1)::us 4 ((.i free6)::(.i i7)::us 71 []))
def Sp(m1:Nat):EW:=cE Tryz.f292 AA jn Q [1,1,1,0,0,0,0,1,0,1,1,1,1,1] (Kk jn Q m1) (Uv jn Q m1)
def Uz(m1:Nat)(x0:OA)(key1:BA)(free6 i7:Int)(p8b p8o:Nat)(t61:Bool):WP:=jn 22 (Sp jn Q m1) ((.p x0)::(.s key1)::us 4 ((.i free6)::(.i i7)::(pq p8b p8o)::us 52 ((.b t61)::us 17 [])))
def Sn(m1:Nat):EW:=cE Tryz.f292 AA jn Q [1,1,1,0,0,0,0,1,0,1,1,1] (Kk jn Q m1) (Uv jn Q m1)
def Ux(m1:Nat)(x0:OA)(key1:BA)(free6 i7:Int)(p8b p8o:Nat)(t50:Bool):WP:=jn 18 (Sn jn Q m1) ((.p x0)::(.s key1)::us 4 ((.i free6)::(.i i7)::(pq p8b p8o)::us 41 ((.b t50)::us 28 [])))
def Sm(m1:Nat):EW:=cE Tryz.f292 AA jn Q [1,1,1,0,0,0,0,1,0,1] (Kk jn Q m1) (Uv jn Q m1)
def Uw(m1:Nat)(x0:OA)(key1:BA)(free6 i7:Int)(p8b p8o:Nat)(t35:Bool):WP:=jn 14 (Sm jn Q m1) ((.p x0)::(.s key1)::us 4 ((.i free6)::(.i i7)::(pq p8b p8o)::us 26 ((.b t35)::us 43 [])))
def Od(m1:Nat)(x0:OA)(key1:BA)(free6 i7:Int):WP:=CQ PR AA jn (bE Tryz.f292 [1,1,1,0,0]) (A8 0 (rE Tryz.f292 Q) A6) (rE Tryz.f292 Q) m1 ((.p x0)::(.s key1)::us 4 ((.i free6)::(.i i7)::us 71 []))
def Sq:EW:=cE Tryz.f298 Eb jn Q [1,1] (rE Tryz.f298 Q) A6
def Acm(x0:OA)(i1:Int)(key2:BA)(v7b v7o:Nat):WP:=jn 8 (Sq jn Q) ((.p x0)::(.i i1)::(.s key2)::us 4 ((pq v7b v7o)::us 32 []))
def Kl(m1:Nat)(x0:OA)(t28:Sl)(t29 t30:Int):WP:=CQ PR Dt jn (bE Tryz.f299 [1,1,1,0,0]) (A8 0 (rE Tryz.f299 Q) A6) (rE Tryz.f299 Q) m1 ((.p x0)::us 27 ((.l t28.a t28.n t28.c)::(.i t29)::(.i t30)::us 21 []))
def H3:KP:=⟨[(10,[0,28]),(16,[0]),(21,[0,5]),(24,[5])],[(3,[0,1,2,3,6,7,8,9,10,11,12,13,14,15,18,19]),(9,[0,1,2,3,6,7,8,9,10]),(10,[0,1,2,3,4,5,6])]⟩
def Asl:EW:=sE Tryz.f301 H3 jn Q [1,1,1] (rE Tryz.f301 Q) A6
def Alf:EW:=sE Tryz.f301 H3 jn Q [1,1,1,1,1,1] (rE Tryz.f301 Q) A6
def St:EW:=cE Tryz.f301 H3 jn Q [1,1,1,1,1,1] (rE Tryz.f301 Q) A6
def Asn(key5:BA):WP:=jn 24 (St jn Q) (us 5 ((.s key5)::us 68 []))
def Oe(m3:Nat)(e0:OA)(key5:BA):WP:=CQ PR H3 jn (bE Tryz.f301 [1,1,1,1,1,0,0,0]) (A8 0 (Alf jn Q) A6) (rE Tryz.f301 Q) m3 ((.p e0)::us 4 ((.s key5)::us 68 []))
def Ss:EW:=cE Tryz.f301 H3 jn Q [1,1,1] (rE Tryz.f301 Q) A6
def Asm(e0:OA):WP:=jn 16 (Ss jn Q) ((.p e0)::us 73 [])
def Sr:EW:=cE Tryz.f301 H3 jn Q [1,1,0,1] (Asl jn Q) A6
def U0(e0:OA)(t28:Bool):WP:=jn 10 (Sr jn Q) ((.p e0)::us 27 ((.b t28)::us 45 []))
def Acn:KP:=⟨[(8,[0,1])],[(1,[0,1,2,3,4,6,7,8,10,11,12,13,14,15])]⟩
def Su:EW:=cE Tryz.f306 Acn jn Q [1,1] (rE Tryz.f306 Q) A6
def Aso(e0:OA)(key1:BA):WP:=jn 8 (Su jn Q) ((.p e0)::(.s key1)::us 25 [])
def Asq:KP:=⟨[],[(1,[0,2,3,4,5,6])]⟩
def Asr:EW:=sE Tryz.f314 Bl jn Q [1,1,1] (rE Tryz.f314 Q) A6
def Aes:EW:=cE Tryz.f314 Bl jn Q [1,1,1] (rE Tryz.f314 Q) A6
def Ass(m1:Nat)(r2b r2o:Nat)(n5:Int)(t8:Sl)(t9 t10:Int):WP:=CQ PR Bl jn (bE Tryz.f314 [1,1,0,1,0,0]) (A8 0 (Asr jn Q) A6) (rE Tryz.f314 Q) m1 (us 2 ((pq r2b r2o)::us 2 ((.i n5)::us 2 ((.l t8.a t8.n t8.c)::(.i t9)::(.i t10)::us 13 []))))
def Ast:EW:=sE Tryz.f316 Bl jn Q [1,1,1] (rE Tryz.f316 Q) A6
def Aet:EW:=cE Tryz.f316 Bl jn Q [1,1,1] (rE Tryz.f316 Q) A6
def Asu(m1:Nat)(r2b r2o:Nat)(l5 t8:Sl)(t9 t10:Int):WP:=CQ PR Bl jn (bE Tryz.f316 [1,1,0,1,0,0]) (A8 0 (Ast jn Q) A6) (rE Tryz.f316 Q) m1 (us 2 ((pq r2b r2o)::us 2 ((.l l5.a l5.n l5.c)::us 2 ((.l t8.a t8.n t8.c)::(.i t9)::(.i t10)::us 13 []))))
def Aeu:EW:=cE Tryz.f317 Ea jn Q [1,1] (rE Tryz.f317 Q) A6
def Aco(m1:Nat):EW:=Iy PR AA jn (bE Tryz.f320 [1,1,1,0,0]) (A8 0 (rE Tryz.f320 Q) A6) (rE Tryz.f320 Q) m1
def Km(m1:Nat):EW:=sE Tryz.f320 AA jn Q [1,1,1,0,0,1] (Aco jn Q m1) (A8 0 (rE Tryz.f320 Q) A6)
def Asw(m1:Nat):Nat->EW:=A8 1 (Km jn Q m1) (A8 0 (rE Tryz.f320 Q) A6)
def U2(m1:Nat):Nat->EW:=A8 2 (Km jn Q m1) (Asw jn Q m1)
def Aex(m1:Nat):EW:=cE Tryz.f320 AA jn Q [1,1,1,0,0,1] (Aco jn Q m1) (A8 0 (rE Tryz.f320 Q) A6)
def Aey(m1:Nat):EW:=cE Tryz.f320 AA jn Q [1,1,1,0,0,0,0,1,0,1,1,1,1,1] (Km jn Q m1) (U2 jn Q m1)
def Aew(m1:Nat):EW:=cE Tryz.f320 AA jn Q [1,1,1,0,0,0,0,1,0,1,1,1] (Km jn Q m1) (U2 jn Q m1)
def Aev(m1:Nat):EW:=cE Tryz.f320 AA jn Q [1,1,1,0,0,0,0,1,0,1] (Km jn Q m1) (U2 jn Q m1)
def Asx(m1:Nat)(x0:OA)(key1:BA)(free6 i7:Int):WP:=CQ PR AA jn (bE Tryz.f320 [1,1,1,0,0]) (A8 0 (rE Tryz.f320 Q) A6) (rE Tryz.f320 Q) m1 ((.p x0)::(.s key1)::us 4 ((.i free6)::(.i i7)::us 71 []))
def Aez:EW:=cE Tryz.f321 Eb jn Q [1,1] (rE Tryz.f321 Q) A6
def Asy(m1:Nat)(x0:OA)(t28:Sl)(t29 t30:Int):WP:=CQ PR Dt jn (bE Tryz.f322 [1,1,1,0,0]) (A8 0 (rE Tryz.f322 Q) A6) (rE Tryz.f322 Q) m1 ((.p x0)::us 27 ((.l t28.a t28.n t28.c)::(.i t29)::(.i t30)::us 21 []))
def Fa:KP:=⟨[(24,[0,1,28]),(27,[0]),(30,[]),(32,[0,1]),(37,[0,7]),(40,[7])],[(12,[0,1,2,3,6,7,8,9,10]),(13,[0,1,2,3,4,5,6]),(17,[0,1,2,3,6,7,8,9,10])]⟩
def H4:EW:=sE Tryz.f323 Fa jn Q [1,1,1,1] (rE Tryz.f323 Q) A6
def Alo:EW:=sE Tryz.f323 Fa jn Q [1,1,1,0,1,1,0,1,1,1,0,1,1] (H4 jn Q) (A8 0 (H4 jn Q) A6)
def Alp:Nat->EW:=A8 1 (Alo jn Q) (A8 0 (H4 jn Q) A6)
def Alq:EW:=sE Tryz.f323 Fa jn Q [1,1,1,1,1,1,1] (rE Tryz.f323 Q) A6
def Sw:EW:=cE Tryz.f323 Fa jn Q [1,1,1,0,1,1,0,1,1,1,0,1,1] (H4 jn Q) (A8 0 (H4 jn Q) A6)
def Asz:WP:=jn 30 (Sw jn Q) (us 80 [])
def Of(m2:Nat)(e0:OA):WP:=CQ PR Fa jn (bE Tryz.f323 [1,1,1,0,1,1,0,1,1,1,0,1,0,0,0]) (Alp jn Q) (rE Tryz.f323 Q) m2 ((.p e0)::us 79 [])
def Sy:EW:=cE Tryz.f323 Fa jn Q [1,1,1,1,1,1,1] (rE Tryz.f323 Q) A6
def As1(gone7:Sl):WP:=jn 40 (Sy jn Q) (us 7 ((.l gone7.a gone7.n gone7.c)::us 72 []))
def Og(m5:Nat)(e0:OA)(gone7:Sl):WP:=CQ PR Fa jn (bE Tryz.f323 [1,1,1,1,1,1,0,0,0]) (A8 3 (Alq jn Q) A6) (rE Tryz.f323 Q) m5 ((.p e0)::us 6 ((.l gone7.a gone7.n gone7.c)::us 72 []))
def Sx:EW:=cE Tryz.f323 Fa jn Q [1,1,1,1] (rE Tryz.f323 Q) A6
def As0(e0:OA)(key1:BA):WP:=jn 32 (Sx jn Q) ((.p e0)::(.s key1)::us 78 [])
def Sv:EW:=cE Tryz.f323 Fa jn Q [1,1,1,0,1,1,0,1,1,1] (H4 jn Q) (A8 0 (H4 jn Q) A6)
def U3(e0:OA)(key1:BA)(t28:Bool):WP:=jn 24 (Sv jn Q) ((.p e0)::(.s key1)::us 26 ((.b t28)::us 51 []))
def Acp:KP:=⟨[(8,[0,1])],[(1,[0,1,2,3,4,6,7,8,10,11,12,13,14,15]),(3,[0,1,2,3,6,7,8,9,10])]⟩
def Sz:EW:=cE Tryz.f329 Acp jn Q [1,1] (rE Tryz.f329 Q) A6
def As2(e0:OA)(key1:BA):WP:=jn 8 (Sz jn Q) ((.p e0)::(.s key1)::us 42 [])
def As4:EW:=sE Tryz.f336 Bl jn Q [1,1,1] (rE Tryz.f336 Q) A6
def Ae0:EW:=cE Tryz.f336 Bl jn Q [1,1,1] (rE Tryz.f336 Q) A6
def As5(m1:Nat)(r2b r2o:Nat)(n5:Int)(t8:Sl)(t9 t10:Int):WP:=CQ PR Bl jn (bE Tryz.f336 [1,1,0,1,0,0]) (A8 0 (As4 jn Q) A6) (rE Tryz.f336 Q) m1 (us 2 ((pq r2b r2o)::us 2 ((.i n5)::us 2 ((.l t8.a t8.n t8.c)::(.i t9)::(.i t10)::us 13 []))))
def Oi:KP:=⟨[(16,[0,3,4,35]),(20,[0,3,4])],[(3,[0,1,2,3,6,7,8,9,10,11]),(6,[0,1,2,3,4,6,7,8,9,10,11,14,15,16])]⟩
def Acq:EW:=sE Tryz.f338 Oi jn Q [1,1,1,1] (rE Tryz.f338 Q) A6
def S3:EW:=cE Tryz.f338 Oi jn Q [1,1,1,1] (rE Tryz.f338 Q) A6
def As6(e0:OA)(key3:BA)(row4:Int):WP:=jn 20 (S3 jn Q) ((.p e0)::us 2 ((.s key3)::(.i row4)::us 75 []))
def S1:EW:=cE Tryz.f338 Oi jn Q [1,1,1,0,0,1,1,1] (Acq jn Q) (A8 0 (Acq jn Q) A6)
def Oh(e0:OA)(key3:BA)(row4:Int)(t35:Bool):WP:=jn 16 (S1 jn Q) ((.p e0)::us 2 ((.s key3)::(.i row4)::us 30 ((.b t35)::us 44 [])))
def Oj:KP:=⟨[(7,[0,6,7,8]),(16,[])],[]⟩
def As7:EW:=sE Tryz.f339 Oj jn Q [1,1] (rE Tryz.f339 Q) A6
def S4:EW:=cE Tryz.f339 Oj jn Q [1,1] (rE Tryz.f339 Q) A6
def As8:WP:=jn 16 (S4 jn Q) (us 22 [])
def U4(m1:Nat)(e0:OA)(t6:Sl)(t7 t8:Int):WP:=CQ PR Oj jn (bE Tryz.f339 [1,0,1,0,0]) (A8 0 (As7 jn Q) A6) (rE Tryz.f339 Q) m1 ((.p e0)::us 5 ((.l t6.a t6.n t6.c)::(.i t7)::(.i t8)::us 13 []))
def Ata:EW:=sE Tryz.f341 Bl jn Q [1,1,1] (rE Tryz.f341 Q) A6
def Ae1:EW:=cE Tryz.f341 Bl jn Q [1,1,1] (rE Tryz.f341 Q) A6
def Atb(m1:Nat)(r2b r2o:Nat)(l5 t8:Sl)(t9 t10:Int):WP:=CQ PR Bl jn (bE Tryz.f341 [1,1,0,1,0,0]) (A8 0 (Ata jn Q) A6) (rE Tryz.f341 Q) m1 (us 2 ((pq r2b r2o)::us 2 ((.l l5.a l5.n l5.c)::us 2 ((.l t8.a t8.n t8.c)::(.i t9)::(.i t10)::us 13 []))))
def Ol:KP:=⟨[(13,[0,1,5,14]),(22,[5])],[]⟩
def Atc:EW:=sE Tryz.f342 Ol jn Q [1,1,1,1] (rE Tryz.f342 Q) A6
def S5:EW:=cE Tryz.f342 Ol jn Q [1,1,1,1] (rE Tryz.f342 Q) A6
def Atd(was5:Bool):WP:=jn 22 (S5 jn Q) (us 5 ((.b was5)::us 30 []))
def Om(m1:Nat)(d0:OA)(key1:BA)(was5:Bool)(t14:Int):WP:=CQ PR Ol jn (bE Tryz.f342 [1,1,1,0,1,0,0]) (A8 0 (Atc jn Q) A6) (rE Tryz.f342 Q) m1 ((.p d0)::(.s key1)::us 3 ((.b was5)::us 8 ((.i t14)::us 21 [])))
def On:KP:=⟨[(11,[0,4,17,18]),(22,[0])],[(11,[0,1,2,3,4,5,6,8,9])]⟩
def Ate:EW:=sE Tryz.f344 On jn Q [1,1,1,1] (rE Tryz.f344 Q) A6
def S6:EW:=cE Tryz.f344 On jn Q [1,1,1,1] (rE Tryz.f344 Q) A6
def Atf(s0:OA):WP:=jn 22 (S6 jn Q) ((.p s0)::us 51 [])
def Kn(m1:Nat)(s0:OA)(low4 t17_0 t17_1 t17_2 t17_3 t18:Int):WP:=CQ PR On jn (bE Tryz.f344 [1,1,1,0,1,0,0]) (A8 0 (Ate jn Q) A6) (rE Tryz.f344 Q) m1 ((.p s0)::us 3 ((.i low4)::us 12 ((.agg #[.i t17_0,.i t17_1,.i t17_2,.i t17_3])::(.i t18)::us 33 [])))
def Ae2:EW:=cE Tryz.f346 Ea jn Q [1,1] (rE Tryz.f346 Q) A6
end
variable{jn:Jn}{Q:VW}{e0 x0 l0 s0 n1 d0:OA}{key1 key2 v1 key5 key3:BA}{m1 p8b p8o n6b n6o m2 t5b t5o:Nat}{free6 i7 is1 h1 i1 n1_0 n1_1 n1_2 n3 room0 v3 t29 t30 t16 row4:Int}{t35 t61 t50 was5:Bool}{t28 all3 gone8 l5 gone7:Sl}
theorem W4:RK jn Q (us 3 ((.i n3)::us 13 []))=(AY ((64:Int)≠0)<|Ha 138 8 [.int .u64 0] (if (IntKind.wrap .i64 (Int.tdiv (IntKind.wrap .i64 (8*n3)) 64))>1 then (IntKind.wrap .i64 (Int.tdiv (IntKind.wrap .i64 (8*n3)) 64)) else 1) (if (IntKind.wrap .i64 (Int.tdiv (IntKind.wrap .i64 (8*n3)) 64))>1 then (IntKind.wrap .i64 (Int.tdiv (IntKind.wrap .i64 (8*n3)) 64)) else 1) λG2=>A1 [.l G2.a G2.n G2.c] 332 λB3=>Q (pq B3 0)):=by kernel_rfl
theorem LV:NN jn Q (m1+1) room0 n3=(Bw 72 [.i room0,.i 1,.i 1024] λX1=>Aj (decide (n3<X1)) (NN jn Q m1 room0 (IntKind.wrap .i64 (n3*2))) (Ab3 jn Q n3)):=by kernel_rfl
theorem Ajy:Av jn PR Gd Tryz.f189 [.i room0] Q=(DF λm=>NN jn Q m room0 1):=by kernel_rfl
theorem Ajz:Av jn PR Aw Tryz.f192 [.p x0,.s key1] Q=(Aj (!Option.isNone x0) (Fy 193 [.p x0,.s key1] λX1 X2=>Aj X2 (Ad x0 λB3 O4=>AZ B3 (O4+1) λX5=>C7 X5.a X5.n X1 λB6 O7=>Ay B6 ((O7+X1.toNat*3)+2) λX8=>Q (.tuple #[.i X8,.b true])) (Q (.tuple #[.i 0,.b false]))) (Q (.tuple #[.i 0,.b false]))):=by kernel_rfl
theorem W7:RN jn Q m1 ((.p x0)::(.s key1)::us 4 ((.i free6)::(.i i7)::us 71 []))=(Ad x0 λB23 O24=>AZ B23 (O24+1) λX25=>AY ((X25.n:Int)≠0)<|NO jn Q m1 x0 key1 free6 (Int.tmod (IntKind.wrap .i64 (i7+1)) (X25.n:Int))):=by kernel_rfl
theorem W8:RO jn Q m1 ((.p x0)::(.s key1)::us 4 ((.i free6)::(.i i7)::(pq p8b p8o)::us 52 ((.b t61)::us 17 [])))=(Aj t61 (Q (.tuple #[.i i7,.b false])) (Ad (some ⟨p8b,p8o,none⟩) λB29 O30=>Ay B29 O30 λX31=>Aj (X31==0) (Q (.tuple #[.i free6,.b false])) (Ui jn Q m1 x0 key1 free6 i7))):=by kernel_rfl
theorem W6:RM jn Q m1 ((.p x0)::(.s key1)::us 4 ((.i free6)::(.i i7)::(pq p8b p8o)::us 41 ((.b t50)::us 28 [])))=(Aj t50 (Ui jn Q m1 x0 key1 i7 i7) (Ad (some ⟨p8b,p8o,none⟩) λB26 O27=>Ay B26 O27 λX28=>Aj (X28==0) (Uj jn Q m1 x0 key1 free6 i7 p8b p8o (decide (free6<0))) (Uj jn Q m1 x0 key1 free6 i7 p8b p8o false))):=by kernel_rfl
theorem W5:RL jn Q m1 ((.p x0)::(.s key1)::us 4 ((.i free6)::(.i i7)::(pq p8b p8o)::us 26 ((.b t35)::us 43 [])))=(Aj t35 (Q (.tuple #[.i i7,.b true])) (Ad (some ⟨p8b,p8o,none⟩) λB20 O21=>Ay B20 O21 λX22=>Aj (X22==1) (Uh jn Q m1 x0 key1 free6 i7 p8b p8o (decide (free6<0))) (Uh jn Q m1 x0 key1 free6 i7 p8b p8o false))):=by kernel_rfl
theorem W9:NO jn Q (m1+1) x0 key1 free6 i7=(Ad x0 λB9 O10=>AZ B9 (O10+1) λX11=>C7 X11.a X11.n i7 λB12 O13=>Ad (some ⟨B12,(O13+i7.toNat*3),none⟩) λB14 O15=>Ay B14 O15 λX16=>Aj (X16==2) (Ad (some ⟨B12,(O13+i7.toNat*3),none⟩) λB17 O18=>BQ B17 (O18+1) λX19=>Ug jn Q m1 x0 key1 free6 i7 B12 (O13+i7.toNat*3) (sEq X19 key1)) (Ug jn Q m1 x0 key1 free6 i7 B12 (O13+i7.toNat*3) false)):=by kernel_rfl
theorem Aj0:Av jn PR AA Tryz.f193 [.p x0,.s key1] Q=(A5 λS=>Ad x0 λB1 O2=>YR S B1 O2 λX3=>Ad x0 λB4 O5=>Fs S B4 (O5+1) λX6=>YS 117 [.int .u64 X3,.s key1] λX7=>Aq true S<|Bw 116 [.int .u64 X7,.i (X6.n:Int)] λX8=>DF λm=>NO jn Q m x0 key1 (-1) X8):=by kernel_rfl
theorem Aj1:Av jn PR Arp Tryz.f194 [.p l0,.i h1] Q=(A5 λS=>Ad l0 λB1 O2=>Fs S B1 O2 λX3=>C7 X3.a X3.n h1 λB4 O5=>Er S B4 ((O5+h1.toNat*4)+1) λX6=>Ad l0 λB7 O8=>AZ B7 O8 λX9=>Aq true S<|C7 X9.a X9.n h1 λB10 O11=>Ay B10 ((O11+h1.toNat*4)+2) λX12=>Aq true S<|A5 λS=>Ad l0 λB13 O14=>Fs S B13 O14 λX15=>Ad l0 λB16 O17=>AZ B16 O17 λX18=>Aq true S<|C7 X15.a X15.n X6 λB19 O20=>st B19 ((O20+X6.toNat*4)+2) (.i X12)<|C7 X18.a X18.n X12 λB21 O22=>st B21 ((O22+X12.toNat*4)+1) (.i X6)<|
 Q (.tuple #[])):=by kernel_rfl
theorem LY:RP jn Q ((.p x0)::(.i i1)::(.s key2)::(.i v3)::us 36 [])=(Ad x0 λB12 O13=>AZ B12 (O13+1) λX14=>C7 X14.a X14.n i1 λB15 O16=>st B15 (O16+i1.toNat*3) (.i 2)<|st B15 ((O16+i1.toNat*3)+1) (.s key2)<|st B15 (((O16+i1.toNat*3)+1)+1) (.i v3)<|Ad x0 λB17 O18=>Ay B17 (O18+2) λX19=>Ad x0 λB20 O21=>st B20 (O21+2) (.i (IntKind.wrap .i64 (X19+1)))<|Q (.tuple #[])):=by kernel_rfl
theorem Aj2:Av jn PR Ab6 Tryz.f195 [.p x0,.i i1,.s key2,.i v3] Q=(Ad x0 λB1 O2=>AZ B1 (O2+1) λX3=>C7 X3.a X3.n i1 λB4 O5=>Ay B4 (O5+i1.toNat*3) λX6=>Aj (X6==0) (Ad x0 λB7 O8=>Ay B7 (O8+3) λX9=>Ad x0 λB10 O11=>st B10 (O11+3) (.i (IntKind.wrap .i64 (X9+1)))<|Ab5 jn Q x0 i1 key2 v3) (Ab5 jn Q x0 i1 key2 v3)):=by kernel_rfl
theorem LZ:Kh jn Q (m1+1) x0 t28 t29 t30=(Aj (decide (t30<t29)) (C7 t28.a t28.n t30 λB14 O15=>Ay B14 (O15+t30.toNat*3) λX16=>BQ B14 ((O15+t30.toNat*3)+1) λX17=>Ay B14 (((O15+t30.toNat*3)+1)+1) λX18=>A1 [.i 0,.s Ae,.i 0] 297 λB19=>st B19 0 (.i X16)<|st B19 1 (.s X17)<|st B19 2 (.i X18)<|Ay B19 0 λX20=>Aj (X20==2) (BQ B19 1 λX21=>Fy 193 [.p x0,.s X21] λX22 X23=>BQ B19 1 λX24=>Ay B19 2 λX25=>
 wz 195 [.p x0,.i X22,.s X24,.i X25]<|Kh jn Q m1 x0 t28 t29 (IntKind.wrap .i64 (t30+1))) (Kh jn Q m1 x0 t28 t29 (IntKind.wrap .i64 (t30+1)))) (Q (.tuple #[]))):=by kernel_rfl
theorem Aj3:Av jn PR Dt Tryz.f196 [.p x0] Q=(Ad x0 λB1 O2=>AZ B1 (O2+1) λX3=>Ad x0 λB4 O5=>Ay B4 (O5+2) λX6=>Ha 297 32 [.i 0,.s Ae,.i 0] (if (IntKind.wrap .i64 (4*(IntKind.wrap .i64 (X6+1))))>8 then (IntKind.wrap .i64 (4*(IntKind.wrap .i64 (X6+1)))) else 8) (if (IntKind.wrap .i64 (4*(IntKind.wrap .i64 (X6+1))))>8 then (IntKind.wrap .i64 (4*(IntKind.wrap .i64 (X6+1)))) else 8) λG7=>Ad x0 λB8 O9=>st B8 (O9+1) (.l G7.a G7.n G7.c)<|Ad x0 λB10 O11=>st B10 (O11+2) (.i 0)<|Ad x0 λB12 O13=>st B12 (O13+3) (.i 0)<|DF λm=>Kh jn Q m x0 X3 (X3.n:Int) 0):=by kernel_rfl
theorem Ma{h5:Int}:RQ jn Q ((.p l0)::(.s v1)::us 3 ((.i h5)::us 57 []))=(Ad l0 λB18 O19=>AZ B18 O19 λX20=>C7 X20.a X20.n h5 λB21 O22=>st B21 (O22+h5.toNat*4) (.s v1)<|st B21 ((O22+h5.toNat*4)+1) (.i 0)<|st B21 (((O22+h5.toNat*4)+1)+1) (.i 0)<|st B21 ((((O22+h5.toNat*4)+1)+1)+1) (.b true)<|Ad l0 λB23 O24=>Ay B23 (O24+2) λX25=>Ad l0 λB26 O27=>st B26 (O27+2) (.i (IntKind.wrap .i64 (X25+1)))<|Q (.i h5)):=by kernel_rfl
theorem Aj4:Av jn PR Ab8 Tryz.f197 [.p l0,.s v1] Q=(Ad l0 λB1 O2=>AZ B1 O2 λX3=>Ad l0 λB4 O5=>AZ B4 (O5+1) λX6=>Aj (decide ((X6.n:Int)>0)) (Ad l0 λB7 O8=>AZ B7 (O8+1) λX9=>C7 X9.a X9.n (IntKind.wrap .i64 ((X6.n:Int)-1)) λB10 O11=>Ay B10 (O11+((IntKind.wrap .i64 ((X6.n:Int)-(1:Int)))).toNat*1) λX12=>Ad l0 λB13 O14=>AZ B13 (O14+1) λX15=>AY ((0:Int)<=(IntKind.wrap .i64 ((X6.n:Int)-(1:Int)))/\(IntKind.wrap .i64 ((X6.n:Int)-(1:Int)))<=(X15.c:Int))<|Ad l0 λB16 O17=>st B16 (O17+1) (.l (Hk X15.a 0 X15.c 1) (((IntKind.wrap .i64 ((X6.n:Int)-(1:Int)))).toNat-0) (X15.c-0))<|
 Ab7 jn Q l0 v1 X12) (Ad l0 λB28 O29=>AZ B28 O29 λX30=>A1 [.s Ae,.i 0,.i 0,.b false] 302 λB31=>Bt 302 4 40 [.s Ae,.i 0,.i 0,.b false] ⟨X30.a,X30.n,X30.c⟩ 1 (λw=>HF w (some ⟨B31,0,none⟩) (1*4)) λG32=>Ad l0 λB33 O34=>st B33 O34 (.l G32.a G32.n G32.c)<|Ab7 jn Q l0 v1 (X3.n:Int))):=by kernel_rfl
theorem Aj5{prev2 next3:Int}:Av jn PR Arq Tryz.f198 [.p l0,.i h1,.i prev2,.i next3] Q=(A5 λS=>Ad l0 λB1 O2=>Fs S B1 O2 λX3=>Ad l0 λB4 O5=>AZ B4 O5 λX6=>Aq true S<|C7 X3.a X3.n h1 λB7 O8=>st B7 ((O8+h1.toNat*4)+1) (.i prev2)<|C7 X6.a X6.n h1 λB9 O10=>st B9 ((O10+h1.toNat*4)+2) (.i next3)<|A5 λS=>Ad l0 λB11 O12=>Fs S B11 O12 λX13=>Ad l0 λB14 O15=>AZ B14 O15 λX16=>Aq true S<|C7 X13.a X13.n prev2 λB17 O18=>st B17 ((O18+prev2.toNat*4)+2) (.i h1)<|C7 X16.a X16.n next3 λB19 O20=>st B19 ((O20+next3.toNat*4)+1) (.i h1)<|
 Q (.tuple #[])):=by kernel_rfl
theorem Aj6:Av jn PR Aw Tryz.f199 [.p l0,.i h1] Q=(Aj (!Option.isNone l0) (Aj (decide (h1>0)) (Ad l0 λB1 O2=>AZ B1 O2 λX3=>Aj (decide (h1<(X3.n:Int))) (Ad l0 λB4 O5=>AZ B4 O5 λX6=>C7 X6.a X6.n h1 λB7 O8=>HT B7 ((O8+h1.toNat*4)+3) λX9=>Q (.b X9)) (Q (.b false))) (Q (.b false))) (Q (.b false))):=by kernel_rfl
theorem WB:RR jn Q (us 3 ((.l all3.a all3.n all3.c)::us 20 []))=(Q (.l all3.a all3.n all3.c)):=by kernel_rfl
theorem Mb{h4:Int}:NQ jn Q (m1+1) l0 all3 h4=(Aj (h4 != 0) (Ad l0 λB2 O3=>AZ B2 O3 λX4=>C7 X4.a X4.n h4 λB5 O6=>BQ B5 (O6+h4.toNat*4) λX7=>A1 [.s X7] 9 λB8=>Bt 9 1 16 [.s Ae] ⟨all3.a,all3.n,all3.c⟩ 1 (λw=>HF w (some ⟨B8,0,none⟩) (1*1)) λG9=>Bw 245 [.p l0,.i h4] λX10=>NQ jn Q m1 l0 G9 X10) (Art jn Q all3)):=by kernel_rfl
theorem Aj7:Av jn PR NP Tryz.f244 [.p l0] Q=(Bw 165 [.p l0] λX1=>DF λm=>NQ jn Q m l0 ⟨none,0,0⟩ X1):=by kernel_rfl
theorem Aj8:Av jn PR Aw Tryz.f245 [.p l0,.i h1] Q=(Dw 199 [.p l0,.i h1] λX1=>Aj (!X1) (Q (.i 0)) (Ad l0 λB2 O3=>AZ B2 O3 λX4=>C7 X4.a X4.n h1 λB5 O6=>Ay B5 ((O6+h1.toNat*4)+2) λX7=>Q (.i X7))):=by kernel_rfl
theorem WC{gone6:Sl}:RT jn Q ((.p e0)::(.s key1)::us 4 ((.l gone6.a gone6.n gone6.c)::us 93 []))=(Ad e0 λB31 O32=>AZ B31 O32 λX33=>Bs B31 (O32+1) λX34=>wz 257 [.agg #[.l X33.a X33.n X33.c,.p X34],.i 1,.s key1]<|Q (.tuple #[.b false,.l gone6.a gone6.n gone6.c])):=by kernel_rfl
theorem Ge{t26:Bool}:RS jn Q ((.p e0)::(.s key1)::us 14 ((.i t16)::us 9 ((.b t26)::us 73 [])))=(Aj t26 (Ad e0 λB6 O7=>AZ B6 O7 λX8=>Bs B6 (O7+1) λX9=>wz 257 [.agg #[.l X8.a X8.n X8.c,.p X9],.i 1,.s key1]<|Q (.tuple #[.b true,.l none 0 0])) (Aj (t16==2) (A5 λS=>Ad e0 λB10 O11=>Er S B10 (O11+2) λX12=>Ad e0 λB13 O14=>Er S B13 (O14+3) λX15=>Ad e0 λB16 O17=>Fs S B16 O17 λX18=>EK S B16 (O17+1) λX19=>Ad e0 λB20 O21=>Fs S B20 O21 λX22=>
 EK S B20 (O21+1) λX23=>VD [
 (A1 [.i 3] 3 λB24=>Aq true S<|VD [
 (Bw 258 [.agg #[.l X18.a X18.n X18.c,.p X19],.l (some ⟨B24,0,none⟩) 1 1] λX25=>Aq true S<|A1 [.i 2] 3 λB26=>Aq true S<|Bw 258 [.agg #[.l X22.a X22.n X22.c,.p X23],.l (some ⟨B26,0,none⟩) 1 1] λX27=>Aq true S<|AY (X27≠0)<|Ad e0 λB28 O29=>st B28 (O29+3) (.i (if (IntKind.wrap .i64 (X15+(if (IntKind.wrap .i64 (Int.tdiv X25 X27))>1 then (IntKind.wrap .i64 (Int.tdiv X25 X27)) else 1)))<X12 then (IntKind.wrap .i64 (X15+(if (IntKind.wrap .i64 (Int.tdiv X25 X27))>1 then (IntKind.wrap .i64 (Int.tdiv X25 X27)) else 1))) else X12))<|FI 259 [.p e0,.b false] λX30=>
 EZ jn Q e0 key1 X30),
 (A1 [.i 2] 3 λB35=>Aq true S<|Bw 258 [.agg #[.l X18.a X18.n X18.c,.p X19],.l (some ⟨B24,0,none⟩) 1 1] λX36=>Aq true S<|Bw 258 [.agg #[.l X22.a X22.n X22.c,.p X23],.l (some ⟨B35,0,none⟩) 1 1] λX37=>Aq true S<|AY (X37≠0)<|Ad e0 λB38 O39=>st B38 (O39+3) (.i (if (IntKind.wrap .i64 (X15+(if (IntKind.wrap .i64 (Int.tdiv X36 X37))>1 then (IntKind.wrap .i64 (Int.tdiv X36 X37)) else 1)))<X12 then (IntKind.wrap .i64 (X15+(if (IntKind.wrap .i64 (Int.tdiv X36 X37))>1 then (IntKind.wrap .i64 (Int.tdiv X36 X37)) else 1))) else X12))<|FI 259 [.p e0,.b false] λX40=>
 EZ jn Q e0 key1 X40)]),
 (A1 [.i 2] 3 λB41=>Aq true S<|A1 [.i 3] 3 λB42=>Aq true S<|Bw 258 [.agg #[.l X18.a X18.n X18.c,.p X19],.l (some ⟨B42,0,none⟩) 1 1] λX43=>Aq true S<|Bw 258 [.agg #[.l X22.a X22.n X22.c,.p X23],.l (some ⟨B41,0,none⟩) 1 1] λX44=>Aq true S<|AY (X44≠0)<|Ad e0 λB45 O46=>st B45 (O46+3) (.i (if (IntKind.wrap .i64 (X15+(if (IntKind.wrap .i64 (Int.tdiv X43 X44))>1 then (IntKind.wrap .i64 (Int.tdiv X43 X44)) else 1)))<X12 then (IntKind.wrap .i64 (X15+(if (IntKind.wrap .i64 (Int.tdiv X43 X44))>1 then (IntKind.wrap .i64 (Int.tdiv X43 X44)) else 1))) else X12))<|
 FI 259 [.p e0,.b false] λX47=>EZ jn Q e0 key1 X47)]) (Aj (t16==3) (A5 λS=>Ad e0 λB48 O49=>Er S B48 (O49+3) λX50=>Ad e0 λB51 O52=>Fs S B51 O52 λX53=>EK S B51 (O52+1) λX54=>Ad e0 λB55 O56=>Fs S B55 O56 λX57=>EK S B55 (O56+1) λX58=>VD [
 (A1 [.i 2] 3 λB59=>Aq true S<|VD [
 (Bw 258 [.agg #[.l X53.a X53.n X53.c,.p X54],.l (some ⟨B59,0,none⟩) 1 1] λX60=>Aq true S<|A1 [.i 3] 3 λB61=>Aq true S<|Bw 258 [.agg #[.l X57.a X57.n X57.c,.p X58],.l (some ⟨B61,0,none⟩) 1 1] λX62=>Aq true S<|AY (X62≠0)<|Ad e0 λB63 O64=>st B63 (O64+3) (.i (if (IntKind.wrap .i64 (X50-(if (IntKind.wrap .i64 (Int.tdiv X60 X62))>1 then (IntKind.wrap .i64 (Int.tdiv X60 X62)) else 1)))>0 then (IntKind.wrap .i64 (X50-(if (IntKind.wrap .i64 (Int.tdiv X60 X62))>1 then (IntKind.wrap .i64 (Int.tdiv X60 X62)) else 1))) else 0))<|FI 259 [.p e0,.b true] λX65=>
 EZ jn Q e0 key1 X65),
 (A1 [.i 3] 3 λB66=>Aq true S<|Bw 258 [.agg #[.l X53.a X53.n X53.c,.p X54],.l (some ⟨B59,0,none⟩) 1 1] λX67=>Aq true S<|Bw 258 [.agg #[.l X57.a X57.n X57.c,.p X58],.l (some ⟨B66,0,none⟩) 1 1] λX68=>Aq true S<|AY (X68≠0)<|Ad e0 λB69 O70=>st B69 (O70+3) (.i (if (IntKind.wrap .i64 (X50-(if (IntKind.wrap .i64 (Int.tdiv X67 X68))>1 then (IntKind.wrap .i64 (Int.tdiv X67 X68)) else 1)))>0 then (IntKind.wrap .i64 (X50-(if (IntKind.wrap .i64 (Int.tdiv X67 X68))>1 then (IntKind.wrap .i64 (Int.tdiv X67 X68)) else 1))) else 0))<|FI 259 [.p e0,.b true] λX71=>
 EZ jn Q e0 key1 X71)]),
 (A1 [.i 3] 3 λB72=>Aq true S<|A1 [.i 2] 3 λB73=>Aq true S<|Bw 258 [.agg #[.l X53.a X53.n X53.c,.p X54],.l (some ⟨B73,0,none⟩) 1 1] λX74=>Aq true S<|Bw 258 [.agg #[.l X57.a X57.n X57.c,.p X58],.l (some ⟨B72,0,none⟩) 1 1] λX75=>Aq true S<|AY (X75≠0)<|Ad e0 λB76 O77=>st B76 (O77+3) (.i (if (IntKind.wrap .i64 (X50-(if (IntKind.wrap .i64 (Int.tdiv X74 X75))>1 then (IntKind.wrap .i64 (Int.tdiv X74 X75)) else 1)))>0 then (IntKind.wrap .i64 (X50-(if (IntKind.wrap .i64 (Int.tdiv X74 X75))>1 then (IntKind.wrap .i64 (Int.tdiv X74 X75)) else 1))) else 0))<|
 FI 259 [.p e0,.b true] λX78=>EZ jn Q e0 key1 X78)]) (FI 260 [.p e0] λX79=>Ad e0 λB80 O81=>AZ B80 O81 λX82=>Bs B80 (O81+1) λX83=>wz 257 [.agg #[.l X82.a X82.n X82.c,.p X83],.i 0,.s key1]<|Q (.tuple #[.b false,.l X79.a X79.n X79.c]))))):=by kernel_rfl
theorem Aj9:Av jn PR NR Tryz.f246 [.p e0,.s key1] Q=(Aj (Option.isNone e0) (Q (.tuple #[.b false,.l none 0 0])) (Ad e0 λB1 O2=>AZ B1 O2 λX3=>Bs B1 (O2+1) λX4=>Bw 256 [.agg #[.l X3.a X3.n X3.c,.p X4],.s key1] λX5=>Aj (X5==0) (Uk jn Q e0 key1 X5 (X5==0)) (Uk jn Q e0 key1 X5 (X5==1)))):=by kernel_rfl
theorem Aka:Av jn PR Aw Tryz.f247 [.p e0] Q=(Bw 251 [.p e0] λX1=>Aj (X1==0) (Q (.tuple #[.s Ae,.b false])) (Ad e0 λB2 O3=>AZ B2 O3 λX4=>Bs B2 (O3+1) λX5=>A1 [.i 0] 3 λB6=>Bw 258 [.agg #[.l X4.a X4.n X4.c,.p X5],.l (some ⟨B6,0,none⟩) 1 1] λX7=>Aj (decide (X7>0)) (Ad e0 λB8 O9=>Ay B8 (O9+3) λX10=>Aj (decide (X7>X10)) (FI 261 [.p e0,.b true] λX11=>C7 X11.a X11.n 0 λB12 O13=>BQ B12 (O13+((0:Int)).toNat*1) λX14=>
 Q (.tuple #[.s X14,.b true])) (Ad e0 λB15 O16=>AZ B15 O16 λX17=>Bs B15 (O16+1) λX18=>A1 [.i 1] 3 λB19=>Bw 258 [.agg #[.l X17.a X17.n X17.c,.p X18],.l (some ⟨B19,0,none⟩) 1 1] λX20=>FI 261 [.p e0,.b (X20==0)] λX21=>C7 X21.a X21.n 0 λB22 O23=>BQ B22 (O23+((0:Int)).toNat*1) λX24=>Q (.tuple #[.s X24,.b true]))) (FI 261 [.p e0,.b false] λX25=>C7 X25.a X25.n 0 λB26 O27=>BQ B26 (O27+((0:Int)).toNat*1) λX28=>Q (.tuple #[.s X28,.b true])))):=by kernel_rfl
theorem Akb:Av jn PR Aw Tryz.f249 [.p e0,.s key1] Q=(Aj (Option.isNone e0) (Q (.b false)) (Ad e0 λB1 O2=>AZ B1 O2 λX3=>Bs B1 (O2+1) λX4=>Bw 256 [.agg #[.l X3.a X3.n X3.c,.p X4],.s key1] λX5=>Aj (X5==0) (Q (.b true)) (Q (.b (X5==1))))):=by kernel_rfl
theorem Akc:Av jn PR Aw Tryz.f250 [.p e0] Q=(Aj (Option.isNone e0) (Q (.l none 0 0)) (Ad e0 λB1 O2=>AZ B1 O2 λX3=>Bs B1 (O2+1) λX4=>A1 [.i 0,.i 1] 3 λB5=>FI 262 [.agg #[.l X3.a X3.n X3.c,.p X4],.l (some ⟨B5,0,none⟩) 2 2] λX6=>Q (.l X6.a X6.n X6.c))):=by kernel_rfl
theorem Akd:Av jn PR Aw Tryz.f251 [.p e0] Q=(Aj (Option.isNone e0) (Q (.i 0)) (Ad e0 λB1 O2=>AZ B1 O2 λX3=>Bs B1 (O2+1) λX4=>A1 [.i 0,.i 1] 3 λB5=>Bw 258 [.agg #[.l X3.a X3.n X3.c,.p X4],.l (some ⟨B5,0,none⟩) 2 2] λX6=>Q (.i X6))):=by kernel_rfl
theorem WF:RX jn Q (us 70 [])=(Q (.b true)):=by kernel_rfl
theorem Md{m4:Nat}:NT jn Q (m4+1) e0=(A5 λS=>Ad e0 λB28 O29=>Fs S B28 O29 λX30=>EK S B28 (O29+1) λX31=>Ad e0 λB32 O33=>Er S B32 (O33+2) λX34=>A1 [.i 0,.i 1,.i 2,.i 3] 3 λB35=>Aq true S<|Bw 258 [.agg #[.l X30.a X30.n X30.c,.p X31],.l (some ⟨B35,0,none⟩) 4 4] λX36=>Aq true S<|Aj (decide (X36>(IntKind.wrap .i64 (2*X34)))) (A5 λS=>Ad e0 λB37 O38=>Fs S B37 O38 λX39=>EK S B37 (O38+1) λX40=>Ad e0 λB41 O42=>AZ B41 O42 λX43=>Bs B41 (O42+1) λX44=>
 Aq true S<|TA 264 [.agg #[.l X43.a X43.n X43.c,.p X44],.i 3] λX45=>Aq true S<|wz 263 [.agg #[.l X39.a X39.n X39.c,.p X40],.s X45]<|NT jn Q m4 e0) (Arx jn Q)):=by kernel_rfl
theorem WE:RW jn Q ((.p e0)::us 69 [])=(DF λm=>NT jn Q m e0):=by kernel_rfl
theorem Mc:NS jn Q (m2+1) e0=(A5 λS=>Ad e0 λB10 O11=>Fs S B10 O11 λX12=>EK S B10 (O11+1) λX13=>Ad e0 λB14 O15=>Er S B14 (O15+2) λX16=>A1 [.i 0,.i 2] 3 λB17=>Aq true S<|Bw 258 [.agg #[.l X12.a X12.n X12.c,.p X13],.l (some ⟨B17,0,none⟩) 2 2] λX18=>Aq true S<|Aj (decide (X18>X16)) (A5 λS=>Ad e0 λB19 O20=>Fs S B19 O20 λX21=>EK S B19 (O20+1) λX22=>Ad e0 λB23 O24=>AZ B23 O24 λX25=>Bs B23 (O24+1) λX26=>Aq true S<|TA 264 [.agg #[.l X25.a X25.n X25.c,.p X26],.i 2] λX27=>
 Aq true S<|wz 263 [.agg #[.l X21.a X21.n X21.c,.p X22],.s X27]<|NS jn Q m2 e0) (Arw jn Q e0)):=by kernel_rfl
theorem WD:RU jn Q ((.p e0)::(.s key1)::us 68 [])=(Ad e0 λB6 O7=>AZ B6 O7 λX8=>Bs B6 (O7+1) λX9=>wz 257 [.agg #[.l X8.a X8.n X8.c,.p X9],.i 0,.s key1]<|DF λm=>NS jn Q m e0):=by kernel_rfl
theorem Akf:Av jn PR Gf Tryz.f252 [.p e0,.s key1] Q=(A5 λS=>Aj (Option.isNone e0) (Aq true S<|Aq true S<|Q (.b false)) (Dw 249 [.p e0,.s key1] λX1=>Aq true S<|Aj X1 (Aq true S<|Q (.b false)) (Ad e0 λB2 O3=>Er S B2 (O3+2) λX4=>Bw 251 [.p e0] λX5=>Aq true S<|Aj (X5==X4) (Q (.b false)) (Arv jn Q e0 key1)))):=by kernel_rfl
theorem Akg:Av jn PR Aw Tryz.f253 [.p e0,.s key1] Q=(Dw 249 [.p e0,.s key1] λX1=>Aj (!X1) (Q (.b false)) (Ad e0 λB2 O3=>AZ B2 O3 λX4=>Bs B2 (O3+1) λX5=>wz 263 [.agg #[.l X4.a X4.n X4.c,.p X5],.s key1]<|Q (.b true))):=by kernel_rfl
theorem Akh:Av jn PR Aw Tryz.f254 [.p e0] Q=(Aj (Option.isNone e0) (Q (.i 0)) (Ad e0 λB1 O2=>Ay B1 (O2+2) λX3=>Q (.i X3))):=by kernel_rfl
theorem Aki{again1:Bool}:Av jn PR Ar0 Tryz.f259 [.p e0,.b again1] Q=(A5 λS=>Ad e0 λB1 O2=>Fs S B1 O2 λX3=>EK S B1 (O2+1) λX4=>Ad e0 λB5 O6=>Er S B5 (O6+2) λX7=>A1 [.i 0,.i 1] 3 λB8=>Aq true S<|Bw 258 [.agg #[.l X3.a X3.n X3.c,.p X4],.l (some ⟨B8,0,none⟩) 2 2] λX9=>Aq true S<|Aj (decide (X9<X7)) (Q (.l none 0 0)) (Ad e0 λB10 O11=>AZ B10 O11 λX12=>Bs B10 (O11+1) λX13=>A1 [.i 0] 3 λB14=>Bw 258 [.agg #[.l X12.a X12.n X12.c,.p X13],.l (some ⟨B14,0,none⟩) 1 1] λX15=>
 Aj (decide (X15>0)) (Ad e0 λB16 O17=>Ay B16 (O17+3) λX18=>Aj (decide (X15>X18)) (FI 261 [.p e0,.b true] λX19=>Q (.l X19.a X19.n X19.c)) (Ad e0 λB20 O21=>Ay B20 (O21+3) λX22=>Aj (X15==X22) (Aj again1 (FI 261 [.p e0,.b true] λX23=>Q (.l X23.a X23.n X23.c)) (Ad e0 λB24 O25=>AZ B24 O25 λX26=>Bs B24 (O25+1) λX27=>A1 [.i 1] 3 λB28=>Bw 258 [.agg #[.l X26.a X26.n X26.c,.p X27],.l (some ⟨B28,0,none⟩) 1 1] λX29=>FI 261 [.p e0,.b (X29==0)] λX30=>
 Q (.l X30.a X30.n X30.c))) (Ad e0 λB31 O32=>AZ B31 O32 λX33=>Bs B31 (O32+1) λX34=>A1 [.i 1] 3 λB35=>Bw 258 [.agg #[.l X33.a X33.n X33.c,.p X34],.l (some ⟨B35,0,none⟩) 1 1] λX36=>FI 261 [.p e0,.b (X36==0)] λX37=>Q (.l X37.a X37.n X37.c)))) (FI 261 [.p e0,.b false] λX38=>Q (.l X38.a X38.n X38.c)))):=by kernel_rfl
theorem WG{t4:Bool}:RY jn Q ((.p e0)::us 3 ((.b t4)::us 96 []))=(Aj t4 (A5 λS=>Ad e0 λB19 O20=>Fs S B19 O20 λX21=>EK S B19 (O20+1) λX22=>Ad e0 λB23 O24=>AZ B23 O24 λX25=>Bs B23 (O24+1) λX26=>Aq true S<|TA 264 [.agg #[.l X25.a X25.n X25.c,.p X26],.i 2] λX27=>Aq true S<|wz 263 [.agg #[.l X21.a X21.n X21.c,.p X22],.s X27]<|FI 259 [.p e0,.b false] λX28=>Q (.l X28.a X28.n X28.c)) (A5 λS=>Ad e0 λB29 O30=>Fs S B29 O30 λX31=>EK S B29 (O30+1) λX32=>
 Ad e0 λB33 O34=>Er S B33 (O34+2) λX35=>A1 [.i 0,.i 2] 3 λB36=>Aq true S<|Bw 258 [.agg #[.l X31.a X31.n X31.c,.p X32],.l (some ⟨B36,0,none⟩) 2 2] λX37=>Aq true S<|Aj (decide (X37>=X35)) (Ad e0 λB38 O39=>AZ B38 O39 λX40=>Bs B38 (O39+1) λX41=>TA 264 [.agg #[.l X40.a X40.n X40.c,.p X41],.i 0] λX42=>Ad e0 λB43 O44=>AZ B43 O44 λX45=>Bs B43 (O44+1) λX46=>wz 263 [.agg #[.l X45.a X45.n X45.c,.p X46],.s X42]<|A1 [.s X42] 9 λB47=>Q (.l (some ⟨B47,0,none⟩) 1 1)) (
 A5 λS=>Ad e0 λB48 O49=>Fs S B48 O49 λX50=>EK S B48 (O49+1) λX51=>Ad e0 λB52 O53=>Er S B52 (O53+2) λX54=>A1 [.i 0,.i 1,.i 2,.i 3] 3 λB55=>Aq true S<|Bw 258 [.agg #[.l X50.a X50.n X50.c,.p X51],.l (some ⟨B55,0,none⟩) 4 4] λX56=>Aq true S<|Aj (decide (X56<X54)) (Q (.l none 0 0)) (A5 λS=>Ad e0 λB57 O58=>Fs S B57 O58 λX59=>EK S B57 (O58+1) λX60=>Ad e0 λB61 O62=>Er S B61 (O62+2) λX63=>A1 [.i 0,.i 1,.i 2,.i 3] 3 λB64=>Aq true S<|Bw 258 [.agg #[.l X59.a X59.n X59.c,.p X60],.l (some ⟨B64,0,none⟩) 4 4] λX65=>
 Aq true S<|Aj (decide (X65>=(IntKind.wrap .i64 (2*X63)))) (A5 λS=>Ad e0 λB66 O67=>Fs S B66 O67 λX68=>EK S B66 (O67+1) λX69=>Ad e0 λB70 O71=>AZ B70 O71 λX72=>Bs B70 (O71+1) λX73=>Aq true S<|TA 264 [.agg #[.l X72.a X72.n X72.c,.p X73],.i 3] λX74=>Aq true S<|wz 263 [.agg #[.l X68.a X68.n X68.c,.p X69],.s X74]<|FI 259 [.p e0,.b false] λX75=>Q (.l X75.a X75.n X75.c)) (FI 259 [.p e0,.b false] λX76=>Q (.l X76.a X76.n X76.c)))))):=by kernel_rfl
theorem Akj:Av jn PR Um Tryz.f260 [.p e0] Q=(A5 λS=>Ad e0 λB1 O2=>Fs S B1 O2 λX3=>EK S B1 (O2+1) λX4=>Ad e0 λB5 O6=>Er S B5 (O6+2) λX7=>A1 [.i 0,.i 2] 3 λB8=>Aq true S<|Bw 258 [.agg #[.l X3.a X3.n X3.c,.p X4],.l (some ⟨B8,0,none⟩) 2 2] λX9=>Aq true S<|Aj (decide (X9>=X7)) (Ad e0 λB10 O11=>Fs S B10 O11 λX12=>EK S B10 (O11+1) λX13=>Ad e0 λB14 O15=>Er S B14 (O15+2) λX16=>A1 [.i 0] 3 λB17=>Aq true S<|Bw 258 [.agg #[.l X12.a X12.n X12.c,.p X13],.l (some ⟨B17,0,none⟩) 1 1] λX18=>
 Aq true S<|Ul jn Q e0 (decide (X18<X16))) (Aq true S<|Aq true S<|Ul jn Q e0 false)):=by kernel_rfl
theorem WH{from5 to6:Int}:RZ jn Q ((.p e0)::us 4 ((.i from5)::(.i to6)::us 17 []))=(Ad e0 λB1 O2=>AZ B1 O2 λX3=>Bs B1 (O2+1) λX4=>TA 264 [.agg #[.l X3.a X3.n X3.c,.p X4],.i from5] λX5=>Ad e0 λB6 O7=>AZ B6 O7 λX8=>Bs B6 (O7+1) λX9=>wz 257 [.agg #[.l X8.a X8.n X8.c,.p X9],.i to6,.s X5]<|A1 [.s X5] 9 λB10=>Q (.l (some ⟨B10,0,none⟩) 1 1)):=by kernel_rfl
theorem Akk{recent1:Bool}:Av jn PR Acb Tryz.f261 [.p e0,.b recent1] Q=(Aj recent1 (Un jn Q e0 0 2) (Un jn Q e0 1 3)):=by kernel_rfl
theorem WL{t88:Bool}:Sd jn Q ((.p e0)::(.s key1)::us 4 ((pq n6b n6o)::us 1 ((.l gone8.a gone8.n gone8.c)::us 79 ((.b t88)::us 13 []))))=(Aj t88 (Ay n6b n6o λX38=>Ay n6b (n6o+1) λX39=>Ay n6b ((n6o+1)+1) λX40=>wz 283 [.p e0,.agg #[.i X38,.i X39,.i X40],.s key1]<|wz 286 [.p e0]<|wz 284 [.p e0]<|Q (.tuple #[.b false,.l gone8.a gone8.n gone8.c])) (Ay n6b n6o λX41=>Ay n6b (n6o+1) λX42=>Ay n6b ((n6o+1)+1) λX43=>
 wz 285 [.p e0,.agg #[.i X41,.i X42,.i X43],.s key1]<|wz 286 [.p e0]<|wz 284 [.p e0]<|Q (.tuple #[.b false,.l gone8.a gone8.n gone8.c]))):=by kernel_rfl
theorem WK:Sc jn Q ((.p e0)::(.s key1)::us 4 ((pq n6b n6o)::us 1 ((.l gone8.a gone8.n gone8.c)::us 93 [])))=(A5 λS=>Ad e0 λB32 O33=>Er S B32 (O33+5) λX34=>Ad e0 λB35 O36=>Ay B35 (O36+1) λX37=>Aq true S<|Aj (decide (X34<X37)) (Uq jn Q e0 key1 n6b n6o gone8 true) (Ay n6b n6o λX44=>Uq jn Q e0 key1 n6b n6o gone8 (X44==3))):=by kernel_rfl
theorem WJ:Sb jn Q ((.p e0)::(.s key1)::us 4 ((pq n6b n6o)::us 95 []))=(A5 λS=>Ad e0 λB17 O18=>Er S B17 O18 λX19=>Bw 276 [.p e0] λX20=>Aq true S<|Aj (decide (X20>=X19)) (ED 272 [.p e0] λX21 X22=>A1 [.s X21] 9 λB23=>Bt 9 1 16 [.s Ae] ⟨none,0,0⟩ 1 (λw=>HF w (some ⟨B23,0,none⟩) (1*1)) λG24=>Ad e0 λB25 O26=>Bs B25 (O26+4) λX27=>λw=>Calls PR 282 #[.p X27,.s key1] w λe w'=>∃X28:Int,∃X29:Int,∃X30:Int,∃X31:Bool,e = .returned (.tuple #[.agg #[.i X28,.i X29,.i X30],.b X31])/\(
 st n6b n6o (.i X28)<|st n6b (n6o+1) (.i X29)<|st n6b ((n6o+1)+1) (.i X30)<|Up jn Q e0 key1 n6b n6o G24) w') (Up jn Q e0 key1 n6b n6o ⟨none,0,0⟩)):=by kernel_rfl
theorem WI{t22:Bool}:Sa jn Q ((.p e0)::(.s key1)::us 4 ((pq n6b n6o)::us 15 ((.b t22)::us 79 [])))=(Aj t22 (Ay n6b n6o λX10=>Ay n6b (n6o+1) λX11=>Ay n6b ((n6o+1)+1) λX12=>wz 283 [.p e0,.agg #[.i X10,.i X11,.i X12],.s key1]<|wz 284 [.p e0]<|Q (.tuple #[.b true,.l none 0 0])) (Ay n6b n6o λX13=>Aj (X13==2) (Ay n6b n6o λX14=>Ay n6b (n6o+1) λX15=>Ay n6b ((n6o+1)+1) λX16=>wz 285 [.p e0,.agg #[.i X14,.i X15,.i X16],.s key1]<|
 wz 284 [.p e0]<|Q (.tuple #[.b true,.l none 0 0])) (Ar6 jn Q e0 key1 n6b n6o))):=by kernel_rfl
theorem Akm:Av jn PR H2 Tryz.f271 [.p e0,.s key1] Q=(Aj (Option.isNone e0) (Q (.tuple #[.b false,.l none 0 0])) (Ad e0 λB1 O2=>Bs B1 (O2+4) λX3=>λw=>Calls PR 282 #[.p X3,.s key1] w λe w'=>∃X4:Int,∃X5:Int,∃X6:Int,∃X7:Bool,e = .returned (.tuple #[.agg #[.i X4,.i X5,.i X6],.b X7])/\(A1 [.i 0,.i 0,.i 0] 270 λB8=>st B8 0 (.i X4)<|st B8 1 (.i X5)<|st B8 2 (.i X6)<|Ay B8 0 λX9=>Aj (X9==1) (NX jn Q e0 key1 B8 0 (X9==1)) (Ay B8 0 λX45=>Aj (X45==2) (Ay B8 1 λX46=>
 NX jn Q e0 key1 B8 0 (X46 != 0)) (NX jn Q e0 key1 B8 0 false))) w')):=by kernel_rfl
theorem Me{key4:BA}:Sf jn Q ((.p e0)::us 3 ((.s key4)::us 1 ((pq n6b n6o)::us 50 [])))=(Ay n6b n6o λX24=>Ay n6b (n6o+1) λX25=>Ay n6b ((n6o+1)+1) λX26=>wz 288 [.p e0,.s key4,.agg #[.i X24,.i X25,.i X26]]<|wz 286 [.p e0]<|wz 284 [.p e0]<|Q (.tuple #[.s key4,.b true])):=by kernel_rfl
theorem WM:Se jn Q ((.p e0)::us 56 [])=(A5 λS=>Ad e0 λB6 O7=>EK S B6 (O7+3) λX8=>Ad e0 λB9 O10=>Bs B9 (O10+3) λX11=>Aq true S<|Bw 165 [.p X11] λX12=>Aq true S<|ED 164 [.p X8,.i X12] λX13 X14=>Ad e0 λB15 O16=>Bs B15 (O16+4) λX17=>λw=>Calls PR 282 #[.p X17,.s X13] w λe w'=>∃X18:Int,∃X19:Int,∃X20:Int,∃X21:Bool,e = .returned (.tuple #[.agg #[.i X18,.i X19,.i X20],.b X21])/\(A1 [.i 0,.i 0,.i 0] 270 λB22=>st B22 0 (.i X18)<|
 st B22 1 (.i X19)<|st B22 2 (.i X20)<|wz 287 [.p e0,pq B22 0]<|st B22 0 (.i 3)<|Ay B22 1 λX23=>Aj (X23==0) (st B22 0 (.i 0)<|Acf jn Q e0 X13 B22 0) (Acf jn Q e0 X13 B22 0)) w'):=by kernel_rfl
theorem Akn:Av jn PR Us Tryz.f272 [.p e0] Q=(Bw 276 [.p e0] λX1=>Aj (X1==0) (Q (.tuple #[.s Ae,.b false])) (Ad e0 λB2 O3=>Bs B2 (O3+3) λX4=>Bw 163 [.p X4] λX5=>Aj (X5==0) (wz 281 [.p e0]<|Ur jn Q e0) (Ur jn Q e0))):=by kernel_rfl
theorem Ako:Av jn PR Aw Tryz.f274 [.p e0,.s key1] Q=(Aj (Option.isNone e0) (Q (.b false)) (Ad e0 λB1 O2=>Bs B1 (O2+4) λX3=>λw=>Calls PR 282 #[.p X3,.s key1] w λe w'=>∃X4:Int,∃X5:Int,∃X6:Int,∃X7:Bool,e = .returned (.tuple #[.agg #[.i X4,.i X5,.i X6],.b X7])/\(A1 [.i 0,.i 0,.i 0] 270 λB8=>st B8 0 (.i X4)<|st B8 1 (.i X5)<|st B8 2 (.i X6)<|Ay B8 0 λX9=>Aj (X9==1) (Q (.b true)) (Ay B8 0 λX10=>Q (.b (X10==2)))) w')):=by kernel_rfl
theorem Akp:Av jn PR Aw Tryz.f275 [.p e0] Q=(Aj (Option.isNone e0) (Q (.l none 0 0)) (Ad e0 λB1 O2=>Bs B1 (O2+3) λX3=>FI 244 [.p X3] λX4=>FI 289 [.p e0,.i 1] λX5=>Bt 9 1 16 [.s Ae] ⟨X4.a,X4.n,X4.c⟩ X5.n (λw=>HF w X5.a (X5.n*1)) λG6=>Q (.l G6.a G6.n G6.c))):=by kernel_rfl
theorem Akq:Av jn PR Ar7 Tryz.f276 [.p e0] Q=(Aj (Option.isNone e0) (Q (.i 0)) (A5 λS=>Ad e0 λB1 O2=>EK S B1 (O2+3) λX3=>Ad e0 λB4 O5=>Er S B4 (O5+5) λX6=>Bw 163 [.p X3] λX7=>Aq true S<|Q (.i (IntKind.wrap .i64 (X7+X6))))):=by kernel_rfl
theorem WN:Sg jn Q ((.p e0)::(.s key1)::us 49 [])=(Ad e0 λB6 O7=>Bs B6 (O7+4) λX8=>λw=>Calls PR 282 #[.p X8,.s key1] w λe w'=>∃X9:Int,∃X10:Int,∃X11:Int,∃X12:Bool,e = .returned (.tuple #[.agg #[.i X9,.i X10,.i X11],.b X12])/\(A1 [.i 0,.i 0,.i 0] 270 λB13=>st B13 0 (.i X9)<|st B13 1 (.i X10)<|st B13 2 (.i X11)<|A5 λS=>Ad e0 λB14 O15=>Er S B14 (O15+5) λX16=>Ad e0 λB17 O18=>Ay B17 (O18+1) λX19=>Aq true S<|Aj (decide (X16<X19)) (Ay B13 0 λX20=>
 Ay B13 1 λX21=>Ay B13 2 λX22=>wz 283 [.p e0,.agg #[.i X20,.i X21,.i X22],.s key1]<|wz 284 [.p e0]<|Q (.b true)) (Ay B13 0 λX23=>Ay B13 1 λX24=>Ay B13 2 λX25=>wz 285 [.p e0,.agg #[.i X23,.i X24,.i X25],.s key1]<|wz 284 [.p e0]<|Q (.b true))) w'):=by kernel_rfl
theorem Akr:Av jn PR Acg Tryz.f277 [.p e0,.s key1] Q=(A5 λS=>Aj (Option.isNone e0) (Aq true S<|Aq true S<|Q (.b false)) (Dw 274 [.p e0,.s key1] λX1=>Aq true S<|Aj X1 (Aq true S<|Q (.b false)) (Ad e0 λB2 O3=>Er S B2 O3 λX4=>Bw 276 [.p e0] λX5=>Aq true S<|Aj (X5==X4) (Q (.b false)) (Ar8 jn Q e0 key1)))):=by kernel_rfl
theorem Aks:Av jn PR Ar9 Tryz.f278 [.p e0,.s key1] Q=(Dw 274 [.p e0,.s key1] λX1=>Aj (!X1) (Q (.b false)) (Ad e0 λB2 O3=>Bs B2 (O3+4) λX4=>λw=>Calls PR 282 #[.p X4,.s key1] w λe w'=>∃X5:Int,∃X6:Int,∃X7:Int,∃X8:Bool,e = .returned (.tuple #[.agg #[.i X5,.i X6,.i X7],.b X8])/\(A1 [.i 0,.i 0,.i 0] 270 λB9=>st B9 0 (.i X5)<|st B9 1 (.i X6)<|st B9 2 (.i X7)<|A5 λS=>Ad e0 λB10 O11=>EK S B10 (O11+2) λX12=>Ay B9 1 λX13=>Aq true S<|
 ED 160 [.p X12,.i X13] λX14 X15=>wz 287 [.p e0,pq B9 0]<|wz 288 [.p e0,.s key1,.agg #[.i 0,.i 0,.i 0]]<|wz 284 [.p e0]<|Q (.b true)) w')):=by kernel_rfl
theorem Akt:Av jn PR Aw Tryz.f279 [.p e0] Q=(Aj (Option.isNone e0) (Q (.i 0)) (Ad e0 λB1 O2=>Ay B1 O2 λX3=>Q (.i X3))):=by kernel_rfl
theorem Akv:Av jn PR Ach Tryz.f281 [.p e0] Q=(λw=>Calls PR 290 #[.p e0,.i 1] w λe w'=>∃X1:BA,∃X2:Int,∃X3:Int,∃X4:Int,e = .returned (.tuple #[.s X1,.agg #[.i X2,.i X3,.i X4]])/\(A1 [.i 0,.i 0,.i 0] 270 λB5=>st B5 0 (.i X2)<|st B5 1 (.i X3)<|st B5 2 (.i X4)<|A5 λS=>Ad e0 λB6 O7=>EK S B6 (O7+2) λX8=>Ay B5 1 λX9=>Aq true S<|ED 160 [.p X8,.i X9] λX10 X11=>st B5 0 (.i 2)<|st B5 1 (.i 0)<|wz 291 [.p e0,pq B5 0,.s X1]<|
 Ay B5 0 λX12=>Ay B5 1 λX13=>Ay B5 2 λX14=>wz 288 [.p e0,.s X1,.agg #[.i X12,.i X13,.i X14]]<|wz 284 [.p e0]<|Q (.tuple #[])) w'):=by kernel_rfl
theorem WS{t4b t4o:Nat}:Si jn Q (us 4 ((pq t4b t4o)::us 22 []))=(A1 [.i 0,.i 0,.i 0] 270 λB15=>Ay B15 0 λX16=>Ay B15 1 λX17=>Ay B15 2 λX18=>st t4b t4o (.i X16)<|st t4b (t4o+1) (.i X17)<|st t4b ((t4o+1)+1) (.i X18)<|Ay t4b t4o λX19=>Ay t4b (t4o+1) λX20=>Ay t4b ((t4o+1)+1) λX21=>Q (.tuple #[.agg #[.i X19,.i X20,.i X21],.b false])):=by kernel_rfl
theorem Akw:Av jn PR Ea Tryz.f282 [.p x0,.s key1] Q=(A1 [.i 0,.i 0,.i 0] 270 λB1=>Aj (!Option.isNone x0) (Fy 292 [.p x0,.s key1] λX2 X3=>Aj X3 (Ad x0 λB4 O5=>AZ B4 (O5+1) λX6=>C7 X6.a X6.n X2 λB7 O8=>Ay B7 ((O8+X2.toNat*5)+2) λX9=>Ay B7 (((O8+X2.toNat*5)+2)+1) λX10=>Ay B7 ((((O8+X2.toNat*5)+2)+1)+1) λX11=>st B1 0 (.i X9)<|st B1 1 (.i X10)<|st B1 2 (.i X11)<|Ay B1 0 λX12=>Ay B1 1 λX13=>Ay B1 2 λX14=>
 Q (.tuple #[.agg #[.i X12,.i X13,.i X14],.b true])) (Aci jn Q B1 0)) (Aci jn Q B1 0)):=by kernel_rfl
theorem Akx:Av jn PR Asb Tryz.f283 [.p e0,.agg #[.i n1_0,.i n1_1,.i n1_2],.s key2] Q=(A1 [.i n1_0,.i n1_1,.i n1_2] 270 λB1=>st B1 0 (.i 1)<|wz 293 [.p e0,pq B1 0,.s key2]<|wz 287 [.p e0,pq B1 0]<|Ay B1 0 λX2=>Ay B1 1 λX3=>Ay B1 2 λX4=>wz 288 [.p e0,.s key2,.agg #[.i X2,.i X3,.i X4]]<|A5 λS=>Ad e0 λB5 O6=>Er S B5 (O6+5) λX7=>Ad e0 λB8 O9=>
 Ay B8 (O9+1) λX10=>Aq true S<|Aj (decide (X7>X10)) (wz 281 [.p e0]<|Q (.tuple #[])) (Q (.tuple #[]))):=by kernel_rfl
theorem Mf:NY jn Q (m1+1) e0=(Ad e0 λB1 O2=>Bs B1 (O2+2) λX3=>Bw 163 [.p X3] λX4=>Aj (decide (X4>0)) (A5 λS=>Ad e0 λB5 O6=>EK S B5 (O6+2) λX7=>Ad e0 λB8 O9=>Bs B8 (O9+2) λX10=>Aq true S<|Bw 165 [.p X10] λX11=>Aq true S<|ED 164 [.p X7,.i X11] λX12 X13=>Ad e0 λB14 O15=>Bs B14 (O15+4) λX16=>λw=>Calls PR 282 #[.p X16,.s X12] w λe w'=>∃X17:Int,∃X18:Int,∃X19:Int,∃X20:Bool,e = .returned (.tuple #[.agg #[.i X17,.i X18,.i X19],.b X20])/\(
 A1 [.i 0,.i 0,.i 0] 270 λB21=>st B21 0 (.i X17)<|st B21 1 (.i X18)<|st B21 2 (.i X19)<|Ay B21 0 λX22=>Aj (X22==1) (Q (.tuple #[])) (Ay B21 0 λX23=>Ay B21 1 λX24=>Ay B21 2 λX25=>wz 294 [.p e0,.agg #[.i X23,.i X24,.i X25],.s X12]<|NY jn Q m1 e0)) w') (Q (.tuple #[]))):=by kernel_rfl
theorem Aky:Av jn PR Acj Tryz.f284 [.p e0] Q=(DF λm=>NY jn Q m e0):=by kernel_rfl
theorem Akz:Av jn PR Aw Tryz.f285 [.p e0,.agg #[.i n1_0,.i n1_1,.i n1_2],.s key2] Q=(A1 [.i n1_0,.i n1_1,.i n1_2] 270 λB1=>st B1 0 (.i 2)<|wz 293 [.p e0,pq B1 0,.s key2]<|wz 291 [.p e0,pq B1 0,.s key2]<|Ay B1 0 λX2=>Ay B1 1 λX3=>Ay B1 2 λX4=>wz 288 [.p e0,.s key2,.agg #[.i X2,.i X3,.i X4]]<|Q (.tuple #[])):=by kernel_rfl
theorem Mg:NZ jn Q (m1+1) e0=(A5 λS=>Ad e0 λB1 O2=>Er S B1 (O2+6) λX3=>Ad e0 λB4 O5=>Ay B4 O5 λX6=>Aq true S<|Aj (decide (X3>X6)) (λw=>Calls PR 290 #[.p e0,.i 3] w λe w'=>∃X7:BA,∃X8:Int,∃X9:Int,∃X10:Int,e = .returned (.tuple #[.s X7,.agg #[.i X8,.i X9,.i X10]])/\(A1 [.i 0,.i 0,.i 0] 270 λB11=>st B11 0 (.i X8)<|st B11 1 (.i X9)<|st B11 2 (.i X10)<|Ay B11 0 λX12=>Ay B11 1 λX13=>Ay B11 2 λX14=>wz 294 [.p e0,.agg #[.i X12,.i X13,.i X14],.s X7]<|
 NZ jn Q m1 e0) w') (Q (.tuple #[]))):=by kernel_rfl
theorem Ak0:Av jn PR Ack Tryz.f286 [.p e0] Q=(DF λm=>NZ jn Q m e0):=by kernel_rfl
theorem Ak1:Av jn PR Uu Tryz.f287 [.p e0,.p n1] Q=(A5 λS=>Ad e0 λB1 O2=>EK S B1 (O2+3) λX3=>Ad n1 λB4 O5=>Ay B4 (O5+2) λX6=>Aq true S<|ED 160 [.p X3,.i X6] λX7 X8=>Ad n1 λB9 O10=>st B9 (O10+2) (.i 0)<|Q (.tuple #[])):=by kernel_rfl
theorem Ak2{n2_0 n2_1 n2_2:Int}:Av jn PR Asc Tryz.f288 [.p e0,.s key1,.agg #[.i n2_0,.i n2_1,.i n2_2]] Q=(A1 [.i n2_0,.i n2_1,.i n2_2] 270 λB1=>Ad e0 λB2 O3=>Bs B2 (O3+4) λX4=>λw=>Calls PR 282 #[.p X4,.s key1] w λe w'=>∃X5:Int,∃X6:Int,∃X7:Int,∃X8:Bool,e = .returned (.tuple #[.agg #[.i X5,.i X6,.i X7],.b X8])/\(A1 [.i 0,.i 0,.i 0] 270 λB9=>st B9 0 (.i X5)<|st B9 1 (.i X6)<|st B9 2 (.i X7)<|Ay B9 0 λX10=>wz 295 [.p e0,.i X10,.i (-1)]<|
 Ay B1 0 λX11=>wz 295 [.p e0,.i X11,.i 1]<|Ay B1 0 λX12=>Aj (X12==0) (Ad e0 λB13 O14=>Bs B13 (O14+4) λX15=>λw=>Calls PR 296 #[.p X15,.s key1] w λe w'=>∃X16:Int,∃X17:Int,∃X18:Int,∃X19:Bool,e = .returned (.tuple #[.agg #[.i X16,.i X17,.i X18],.b X19])/\(Q (.tuple #[])) w') (A5 λS=>Ad e0 λB20 O21=>EK S B20 (O21+4) λX22=>Ay B1 0 λX23=>Ay B1 1 λX24=>Ay B1 2 λX25=>Aq true S<|Dw 297 [.p X22,.s key1,.agg #[.i X23,.i X24,.i X25]] λX26=>
 Q (.tuple #[]))) w'):=by kernel_rfl
theorem WT:Sj jn Q (us 5 ((.l l5.a l5.n l5.c)::us 33 []))=(Q (.l l5.a l5.n l5.c)):=by kernel_rfl
theorem Mh{t14:Sl}{t15:Int}:Kj jn Q (m1+1) e0 is1 l5 t14 t15 t16=(Aj (decide (t16<t15)) (C7 t14.a t14.n t16 λB5 O6=>BQ B5 (O6+t16.toNat*1) λX7=>Ad e0 λB8 O9=>Bs B8 (O9+4) λX10=>λw=>Calls PR 282 #[.p X10,.s X7] w λe w'=>∃X11:Int,∃X12:Int,∃X13:Int,∃X14:Bool,e = .returned (.tuple #[.agg #[.i X11,.i X12,.i X13],.b X14])/\(A1 [.i 0,.i 0,.i 0] 270 λB15=>st B15 0 (.i X11)<|st B15 1 (.i X12)<|st B15 2 (.i X13)<|Ay B15 0 λX16=>Aj (X16==is1) (A1 [.s X7] 9 λB17=>
 Bt 9 1 16 [.s Ae] ⟨l5.a,l5.n,l5.c⟩ 1 (λw=>HF w (some ⟨B17,0,none⟩) (1*1)) λG18=>Kj jn Q m1 e0 is1 G18 t14 t15 (IntKind.wrap .i64 (t16+1))) (Kj jn Q m1 e0 is1 l5 t14 t15 (IntKind.wrap .i64 (t16+1)))) w') (Ase jn Q l5)):=by kernel_rfl
theorem Ak3:Av jn PR Oa Tryz.f289 [.p e0,.i is1] Q=(Ad e0 λB1 O2=>Bs B1 (O2+2) λX3=>FI 244 [.p X3] λX4=>DF λm=>Kj jn Q m e0 is1 ⟨none,0,0⟩ X4 (X4.n:Int) 0):=by kernel_rfl
theorem WU:Sk jn Q (us 5 ((pq t5b t5o)::us 43 []))=(st t5b t5o (.i 0)<|st t5b (t5o+1) (.i 0)<|st t5b ((t5o+1)+1) (.i 0)<|Ay t5b t5o λX30=>Ay t5b (t5o+1) λX31=>Ay t5b ((t5o+1)+1) λX32=>Q (.tuple #[.s Ae,.agg #[.i X30,.i X31,.i X32]])):=by kernel_rfl
theorem Mi{h6:Int}:Oc jn Q (m1+1) e0 is1 t5b t5o h6=(Aj (h6 != 0) (Ad e0 λB6 O7=>Bs B6 (O7+2) λX8=>ED 164 [.p X8,.i h6] λX9 X10=>Ad e0 λB11 O12=>Bs B11 (O12+4) λX13=>λw=>Calls PR 282 #[.p X13,.s X9] w λe w'=>∃X14:Int,∃X15:Int,∃X16:Int,∃X17:Bool,e = .returned (.tuple #[.agg #[.i X14,.i X15,.i X16],.b X17])/\(A1 [.i 0,.i 0,.i 0] 270 λB18=>st B18 0 (.i X14)<|st B18 1 (.i X15)<|st B18 2 (.i X16)<|Ay B18 0 λX19=>
 Aj (X19==is1) (A5 λS=>Ay B18 0 λX20=>Ay B18 1 λX21=>Ay B18 2 λX22=>st t5b t5o (.i X20)<|st t5b (t5o+1) (.i X21)<|st t5b ((t5o+1)+1) (.i X22)<|Ay t5b t5o λX23=>Ay t5b (t5o+1) λX24=>Ay t5b ((t5o+1)+1) λX25=>Q (.tuple #[.s X9,.agg #[.i X23,.i X24,.i X25]])) (Ad e0 λB26 O27=>Bs B26 (O27+2) λX28=>Bw 245 [.p X28,.i h6] λX29=>Oc jn Q m1 e0 is1 t5b t5o X29)) w') (Ash jn Q t5b t5o)):=by kernel_rfl
theorem Ak4:Av jn PR Ob Tryz.f290 [.p e0,.i is1] Q=(A1 [.i 0,.i 0,.i 0] 270 λB1=>Ad e0 λB2 O3=>Bs B2 (O3+2) λX4=>Bw 165 [.p X4] λX5=>DF λm=>Oc jn Q m e0 is1 B1 0 X5):=by kernel_rfl
theorem Ak5:Av jn PR Uu Tryz.f291 [.p e0,.p n1,.s key2] Q=(A5 λS=>Ad e0 λB1 O2=>EK S B1 (O2+3) λX3=>Ad n1 λB4 O5=>Ay B4 (O5+2) λX6=>Aq true S<|ED 160 [.p X3,.i X6] λX7 X8=>Ad e0 λB9 O10=>Bs B9 (O10+3) λX11=>Bw 162 [.p X11,.s key2] λX12=>Ad n1 λB13 O14=>st B13 (O14+2) (.i X12)<|Q (.tuple #[])):=by kernel_rfl
theorem WX:So jn Q m1 ((.p x0)::(.s key1)::us 4 ((.i free6)::(.i i7)::us 71 []))=(Ad x0 λB23 O24=>AZ B23 (O24+1) λX25=>AY ((X25.n:Int)≠0)<|Od jn Q m1 x0 key1 free6 (Int.tmod (IntKind.wrap .i64 (i7+1)) (X25.n:Int))):=by kernel_rfl
theorem WY:Sp jn Q m1 ((.p x0)::(.s key1)::us 4 ((.i free6)::(.i i7)::(pq p8b p8o)::us 52 ((.b t61)::us 17 [])))=(Aj t61 (Q (.tuple #[.i i7,.b false])) (Ad (some ⟨p8b,p8o,none⟩) λB29 O30=>Ay B29 O30 λX31=>Aj (X31==0) (Q (.tuple #[.i free6,.b false])) (Uy jn Q m1 x0 key1 free6 i7))):=by kernel_rfl
theorem WW:Sn jn Q m1 ((.p x0)::(.s key1)::us 4 ((.i free6)::(.i i7)::(pq p8b p8o)::us 41 ((.b t50)::us 28 [])))=(Aj t50 (Uy jn Q m1 x0 key1 i7 i7) (Ad (some ⟨p8b,p8o,none⟩) λB26 O27=>Ay B26 O27 λX28=>Aj (X28==0) (Uz jn Q m1 x0 key1 free6 i7 p8b p8o (decide (free6<0))) (Uz jn Q m1 x0 key1 free6 i7 p8b p8o false))):=by kernel_rfl
theorem WV:Sm jn Q m1 ((.p x0)::(.s key1)::us 4 ((.i free6)::(.i i7)::(pq p8b p8o)::us 26 ((.b t35)::us 43 [])))=(Aj t35 (Q (.tuple #[.i i7,.b true])) (Ad (some ⟨p8b,p8o,none⟩) λB20 O21=>Ay B20 O21 λX22=>Aj (X22==1) (Ux jn Q m1 x0 key1 free6 i7 p8b p8o (decide (free6<0))) (Ux jn Q m1 x0 key1 free6 i7 p8b p8o false))):=by kernel_rfl
theorem WZ:Od jn Q (m1+1) x0 key1 free6 i7=(Ad x0 λB9 O10=>AZ B9 (O10+1) λX11=>C7 X11.a X11.n i7 λB12 O13=>Ad (some ⟨B12,(O13+i7.toNat*5),none⟩) λB14 O15=>Ay B14 O15 λX16=>Aj (X16==2) (Ad (some ⟨B12,(O13+i7.toNat*5),none⟩) λB17 O18=>BQ B17 (O18+1) λX19=>Uw jn Q m1 x0 key1 free6 i7 B12 (O13+i7.toNat*5) (sEq X19 key1)) (Uw jn Q m1 x0 key1 free6 i7 B12 (O13+i7.toNat*5) false)):=by kernel_rfl
theorem Ak6:Av jn PR AA Tryz.f292 [.p x0,.s key1] Q=(A5 λS=>Ad x0 λB1 O2=>YR S B1 O2 λX3=>Ad x0 λB4 O5=>Fs S B4 (O5+1) λX6=>YS 117 [.int .u64 X3,.s key1] λX7=>Aq true S<|Bw 116 [.int .u64 X7,.i (X6.n:Int)] λX8=>DF λm=>Od jn Q m x0 key1 (-1) X8):=by kernel_rfl
theorem Ak7:Av jn PR Uu Tryz.f293 [.p e0,.p n1,.s key2] Q=(A5 λS=>Ad e0 λB1 O2=>EK S B1 (O2+2) λX3=>Ad n1 λB4 O5=>Ay B4 (O5+1) λX6=>Aq true S<|ED 160 [.p X3,.i X6] λX7 X8=>Ad e0 λB9 O10=>Bs B9 (O10+2) λX11=>Bw 162 [.p X11,.s key2] λX12=>Ad n1 λB13 O14=>st B13 (O14+1) (.i X12)<|Q (.tuple #[])):=by kernel_rfl
theorem Ak8:Av jn PR Ach Tryz.f294 [.p e0,.agg #[.i n1_0,.i n1_1,.i n1_2],.s key2] Q=(A1 [.i n1_0,.i n1_1,.i n1_2] 270 λB1=>A5 λS=>Ad e0 λB2 O3=>EK S B2 (O3+2) λX4=>Ay B1 1 λX5=>Aq true S<|ED 160 [.p X4,.i X5] λX6 X7=>st B1 1 (.i 0)<|Ay B1 0 λX8=>Aj (X8==3) (st B1 0 (.i 0)<|Ay B1 0 λX9=>Ay B1 1 λX10=>Ay B1 2 λX11=>wz 288 [.p e0,.s key2,.agg #[.i X9,.i X10,.i X11]]<|
 Q (.tuple #[])) (Ay B1 0 λX12=>Ay B1 1 λX13=>Ay B1 2 λX14=>wz 288 [.p e0,.s key2,.agg #[.i X12,.i X13,.i X14]]<|Q (.tuple #[]))):=by kernel_rfl
theorem Ak9{by2:Int}:Av jn PR Aw Tryz.f295 [.p e0,.i is1,.i by2] Q=(Aj (is1==1) (Ad e0 λB1 O2=>Ay B1 (O2+5) λX3=>Ad e0 λB4 O5=>st B4 (O5+5) (.i (IntKind.wrap .i64 (X3+by2)))<|Q (.tuple #[])) (Aj (is1==3) (Ad e0 λB6 O7=>Ay B6 (O7+6) λX8=>Ad e0 λB9 O10=>st B9 (O10+6) (.i (IntKind.wrap .i64 (X8+by2)))<|Q (.tuple #[])) (Q (.tuple #[])))):=by kernel_rfl
theorem Ala:Av jn PR Aw Tryz.f296 [.p x0,.s key1] Q=(A1 [.i 0,.i 0,.i 0] 270 λB1=>λw=>Calls PR 282 #[.p x0,.s key1] w λe w'=>∃X2:Int,∃X3:Int,∃X4:Int,∃X5:Bool,e = .returned (.tuple #[.agg #[.i X2,.i X3,.i X4],.b X5])/\(A1 [.i 0,.i 0,.i 0] 270 λB6=>st B6 0 (.i X2)<|st B6 1 (.i X3)<|st B6 2 (.i X4)<|Aj X5 (Fy 292 [.p x0,.s key1] λX7 X8=>Ad x0 λB9 O10=>AZ B9 (O10+1) λX11=>C7 X11.a X11.n X7 λB12 O13=>st B12 (O13+X7.toNat*5) (.i 1)<|
 st B12 ((O13+X7.toNat*5)+1) (.s Ae)<|st B12 (((O13+X7.toNat*5)+1)+1) (.i 0)<|st B12 ((((O13+X7.toNat*5)+1)+1)+1) (.i 0)<|st B12 (((((O13+X7.toNat*5)+1)+1)+1)+1) (.i 0)<|Ad x0 λB14 O15=>Ay B14 (O15+2) λX16=>Ad x0 λB17 O18=>st B17 (O18+2) (.i (IntKind.wrap .i64 (X16-1)))<|Ay B6 0 λX19=>Ay B6 1 λX20=>Ay B6 2 λX21=>st B1 0 (.i X19)<|st B1 1 (.i X20)<|st B1 2 (.i X21)<|Ay B1 0 λX22=>Ay B1 1 λX23=>Ay B1 2 λX24=>Q (.tuple #[.agg #[.i X22,.i X23,.i X24],.b X5])) (
 Ay B6 0 λX25=>Ay B6 1 λX26=>Ay B6 2 λX27=>st B1 0 (.i X25)<|st B1 1 (.i X26)<|st B1 2 (.i X27)<|Ay B1 0 λX28=>Ay B1 1 λX29=>Ay B1 2 λX30=>Q (.tuple #[.agg #[.i X28,.i X29,.i X30],.b X5]))) w'):=by kernel_rfl
theorem Alb{v2_0 v2_1 v2_2:Int}:Av jn PR ID Tryz.f297 [.p x0,.s key1,.agg #[.i v2_0,.i v2_1,.i v2_2]] Q=(A1 [.i v2_0,.i v2_1,.i v2_2] 270 λB1=>Aj (Option.isNone x0) (Q (.b false)) (Fy 292 [.p x0,.s key1] λX2 X3=>Aj X3 (A5 λS=>Ad x0 λB4 O5=>Fs S B4 (O5+1) λX6=>Ay B1 0 λX7=>Ay B1 1 λX8=>Ay B1 2 λX9=>Aq true S<|C7 X6.a X6.n X2 λB10 O11=>st B10 ((O11+X2.toNat*5)+2) (.i X7)<|st B10 (((O11+X2.toNat*5)+2)+1) (.i X8)<|
 st B10 ((((O11+X2.toNat*5)+2)+1)+1) (.i X9)<|Q (.b false)) (Ay B1 0 λX12=>Ay B1 1 λX13=>Ay B1 2 λX14=>wz 298 [.p x0,.i X2,.s key1,.agg #[.i X12,.i X13,.i X14]]<|A5 λS=>Ad x0 λB15 O16=>Er S B15 (O16+3) λX17=>Ad x0 λB18 O19=>AZ B18 (O19+1) λX20=>Aq true S<|Aj (decide ((IntKind.wrap .i64 (2*X17))>(X20.n:Int))) (wz 299 [.p x0]<|Q (.b true)) (Q (.b true))))):=by kernel_rfl
theorem Mj{v7b v7o:Nat}:Sq jn Q ((.p x0)::(.i i1)::(.s key2)::us 4 ((pq v7b v7o)::us 32 []))=(A5 λS=>Ad x0 λB13 O14=>Fs S B13 (O14+1) λX15=>Ay v7b v7o λX16=>Ay v7b (v7o+1) λX17=>Ay v7b ((v7o+1)+1) λX18=>Aq true S<|C7 X15.a X15.n i1 λB19 O20=>st B19 (O20+i1.toNat*5) (.i 2)<|st B19 ((O20+i1.toNat*5)+1) (.s key2)<|st B19 (((O20+i1.toNat*5)+1)+1) (.i X16)<|st B19 ((((O20+i1.toNat*5)+1)+1)+1) (.i X17)<|st B19 (((((O20+i1.toNat*5)+1)+1)+1)+1) (.i X18)<|Ad x0 λB21 O22=>
 Ay B21 (O22+2) λX23=>Ad x0 λB24 O25=>st B24 (O25+2) (.i (IntKind.wrap .i64 (X23+1)))<|Q (.tuple #[])):=by kernel_rfl
theorem Alc{v3_0 v3_1 v3_2:Int}:Av jn PR Eb Tryz.f298 [.p x0,.i i1,.s key2,.agg #[.i v3_0,.i v3_1,.i v3_2]] Q=(A1 [.i v3_0,.i v3_1,.i v3_2] 270 λB1=>Ad x0 λB2 O3=>AZ B2 (O3+1) λX4=>C7 X4.a X4.n i1 λB5 O6=>Ay B5 (O6+i1.toNat*5) λX7=>Aj (X7==0) (Ad x0 λB8 O9=>Ay B8 (O9+3) λX10=>Ad x0 λB11 O12=>st B11 (O12+3) (.i (IntKind.wrap .i64 (X10+1)))<|Acm jn Q x0 i1 key2 B1 0) (Acm jn Q x0 i1 key2 B1 0)):=by kernel_rfl
theorem Mk:Kl jn Q (m1+1) x0 t28 t29 t30=(Aj (decide (t30<t29)) (C7 t28.a t28.n t30 λB14 O15=>Ay B14 (O15+t30.toNat*5) λX16=>BQ B14 ((O15+t30.toNat*5)+1) λX17=>Ay B14 (((O15+t30.toNat*5)+1)+1) λX18=>Ay B14 ((((O15+t30.toNat*5)+1)+1)+1) λX19=>Ay B14 (((((O15+t30.toNat*5)+1)+1)+1)+1) λX20=>A1 [.i 0,.s Ae,.i 0,.i 0,.i 0] 387 λB21=>st B21 0 (.i X16)<|st B21 1 (.s X17)<|st B21 2 (.i X18)<|st B21 3 (.i X19)<|st B21 4 (.i X20)<|Ay B21 0 λX22=>
 Aj (X22==2) (BQ B21 1 λX23=>Fy 292 [.p x0,.s X23] λX24 X25=>BQ B21 1 λX26=>Ay B21 2 λX27=>Ay B21 3 λX28=>Ay B21 4 λX29=>wz 298 [.p x0,.i X24,.s X26,.agg #[.i X27,.i X28,.i X29]]<|Kl jn Q m1 x0 t28 t29 (IntKind.wrap .i64 (t30+1))) (Kl jn Q m1 x0 t28 t29 (IntKind.wrap .i64 (t30+1)))) (Q (.tuple #[]))):=by kernel_rfl
theorem Ald:Av jn PR Dt Tryz.f299 [.p x0] Q=(Ad x0 λB1 O2=>AZ B1 (O2+1) λX3=>Ad x0 λB4 O5=>Ay B4 (O5+2) λX6=>Ha 387 48 [.i 0,.s Ae,.i 0,.i 0,.i 0] (if (IntKind.wrap .i64 (4*(IntKind.wrap .i64 (X6+1))))>8 then (IntKind.wrap .i64 (4*(IntKind.wrap .i64 (X6+1)))) else 8) (if (IntKind.wrap .i64 (4*(IntKind.wrap .i64 (X6+1))))>8 then (IntKind.wrap .i64 (4*(IntKind.wrap .i64 (X6+1)))) else 8) λG7=>Ad x0 λB8 O9=>st B8 (O9+1) (.l G7.a G7.n G7.c)<|Ad x0 λB10 O11=>st B10 (O11+2) (.i 0)<|Ad x0 λB12 O13=>st B12 (O13+3) (.i 0)<|
 DF λm=>Kl jn Q m x0 X3 (X3.n:Int) 0):=by kernel_rfl
theorem Ale:Av jn PR Aw Tryz.f300 [.p e0,.s key1] Q=(Aj (Option.isNone e0) (Q (.tuple #[.b false,.l none 0 0])) (Ad e0 λB1 O2=>AZ B1 O2 λX3=>Bs B1 (O2+1) λX4=>Bw 310 [.agg #[.l X3.a X3.n X3.c,.p X4],.s key1] λX5=>Aj (X5==2) (Ad e0 λB6 O7=>AZ B6 O7 λX8=>Bs B6 (O7+1) λX9=>wz 311 [.agg #[.l X8.a X8.n X8.c,.p X9],.i 2,.s key1]<|Q (.tuple #[.b true,.l none 0 0])) (Aj (X5==0) (Q (.tuple #[.b true,.l none 0 0])) (Aj (X5==1) (Ad e0 λB10 O11=>AZ B10 O11 λX12=>
 Bs B10 (O11+1) λX13=>wz 312 [.agg #[.l X12.a X12.n X12.c,.p X13],.s key1]<|FI 313 [.p e0] λX14=>Ad e0 λB15 O16=>AZ B15 O16 λX17=>Bs B15 (O16+1) λX18=>wz 311 [.agg #[.l X17.a X17.n X17.c,.p X18],.i 2,.s key1]<|Q (.tuple #[.b false,.l X14.a X14.n X14.c])) (FI 313 [.p e0] λX19=>Ad e0 λB20 O21=>AZ B20 O21 λX22=>Bs B20 (O21+1) λX23=>wz 311 [.agg #[.l X22.a X22.n X22.c,.p X23],.i 0,.s key1]<|Q (.tuple #[.b false,.l X19.a X19.n X19.c])))))):=by kernel_rfl
theorem Ml:St jn Q (us 5 ((.s key5)::us 68 []))=(Q (.tuple #[.s key5,.b true])):=by kernel_rfl
theorem Mm{m3:Nat}:Oe jn Q (m3+1) e0 key5=(A5 λS=>Ad e0 λB35 O36=>Fs S B35 O36 λX37=>EK S B35 (O36+1) λX38=>Ad e0 λB39 O40=>Er S B39 (O40+4) λX41=>A1 [.i 1] 3 λB42=>Aq true S<|Bw 314 [.agg #[.l X37.a X37.n X37.c,.p X38],.l (some ⟨B42,0,none⟩) 1 1] λX43=>Aq true S<|Aj (decide (X43>X41)) (A5 λS=>Ad e0 λB44 O45=>Fs S B44 O45 λX46=>EK S B44 (O45+1) λX47=>Ad e0 λB48 O49=>AZ B48 O49 λX50=>Bs B48 (O49+1) λX51=>Aq true S<|TA 315 [.agg #[.l X50.a X50.n X50.c,.p X51],.i 1] λX52=>
 Aq true S<|wz 312 [.agg #[.l X46.a X46.n X46.c,.p X47],.s X52]<|Oe jn Q m3 e0 key5) (Asn jn Q key5)):=by kernel_rfl
theorem Xb:Ss jn Q ((.p e0)::us 73 [])=(Ad e0 λB26 O27=>AZ B26 O27 λX28=>Bs B26 (O27+1) λX29=>TA 315 [.agg #[.l X28.a X28.n X28.c,.p X29],.i 0] λX30=>Ad e0 λB31 O32=>AZ B31 O32 λX33=>Bs B31 (O32+1) λX34=>wz 311 [.agg #[.l X33.a X33.n X33.c,.p X34],.i 1,.s X30]<|DF λm=>Oe jn Q m e0 X30):=by kernel_rfl
theorem Xa{t28:Bool}:Sr jn Q ((.p e0)::us 27 ((.b t28)::us 45 []))=(Aj t28 (Ad e0 λB17 O18=>AZ B17 O18 λX19=>Bs B17 (O18+1) λX20=>TA 315 [.agg #[.l X19.a X19.n X19.c,.p X20],.i 2] λX21=>Ad e0 λB22 O23=>AZ B22 O23 λX24=>Bs B22 (O23+1) λX25=>wz 312 [.agg #[.l X24.a X24.n X24.c,.p X25],.s X21]<|Q (.tuple #[.s X21,.b true])) (Asm jn Q e0)):=by kernel_rfl
theorem Alg:Av jn PR H3 Tryz.f301 [.p e0] Q=(Bw 305 [.p e0] λX1=>Aj (X1==0) (Q (.tuple #[.s Ae,.b false])) (A5 λS=>Ad e0 λB2 O3=>Fs S B2 O3 λX4=>EK S B2 (O3+1) λX5=>Ad e0 λB6 O7=>Er S B6 (O7+3) λX8=>A1 [.i 0] 3 λB9=>Aq true S<|Bw 314 [.agg #[.l X4.a X4.n X4.c,.p X5],.l (some ⟨B9,0,none⟩) 1 1] λX10=>Aq true S<|Aj (decide (X10<=X8)) (Ad e0 λB11 O12=>Fs S B11 O12 λX13=>EK S B11 (O12+1) λX14=>A1 [.i 2] 3 λB15=>
 Aq true S<|Bw 314 [.agg #[.l X13.a X13.n X13.c,.p X14],.l (some ⟨B15,0,none⟩) 1 1] λX16=>U0 jn Q e0 (decide (X16>0))) (Aq true S<|U0 jn Q e0 false))):=by kernel_rfl
theorem Alh:Av jn PR Aw Tryz.f303 [.p e0,.s key1] Q=(Aj (Option.isNone e0) (Q (.b false)) (Ad e0 λB1 O2=>AZ B1 O2 λX3=>Bs B1 (O2+1) λX4=>Bw 310 [.agg #[.l X3.a X3.n X3.c,.p X4],.s key1] λX5=>Aj (X5==0) (Q (.b true)) (Q (.b (X5==2))))):=by kernel_rfl
theorem Ali:Av jn PR Aw Tryz.f304 [.p e0] Q=(Aj (Option.isNone e0) (Q (.l none 0 0)) (Ad e0 λB1 O2=>AZ B1 O2 λX3=>Bs B1 (O2+1) λX4=>A1 [.i 0,.i 2] 3 λB5=>FI 316 [.agg #[.l X3.a X3.n X3.c,.p X4],.l (some ⟨B5,0,none⟩) 2 2] λX6=>Q (.l X6.a X6.n X6.c))):=by kernel_rfl
theorem Alj:Av jn PR Aw Tryz.f305 [.p e0] Q=(Aj (Option.isNone e0) (Q (.i 0)) (Ad e0 λB1 O2=>AZ B1 O2 λX3=>Bs B1 (O2+1) λX4=>A1 [.i 0,.i 2] 3 λB5=>Bw 314 [.agg #[.l X3.a X3.n X3.c,.p X4],.l (some ⟨B5,0,none⟩) 2 2] λX6=>Q (.i X6))):=by kernel_rfl
theorem Xc:Su jn Q ((.p e0)::(.s key1)::us 25 [])=(Ad e0 λB6 O7=>AZ B6 O7 λX8=>Bs B6 (O7+1) λX9=>wz 311 [.agg #[.l X8.a X8.n X8.c,.p X9],.i 2,.s key1]<|Q (.b true)):=by kernel_rfl
theorem Alk:Av jn PR Acn Tryz.f306 [.p e0,.s key1] Q=(A5 λS=>Aj (Option.isNone e0) (Aq true S<|Aq true S<|Q (.b false)) (Dw 303 [.p e0,.s key1] λX1=>Aq true S<|Aj X1 (Aq true S<|Q (.b false)) (Ad e0 λB2 O3=>Er S B2 (O3+2) λX4=>Bw 305 [.p e0] λX5=>Aq true S<|Aj (X5==X4) (Q (.b false)) (Aso jn Q e0 key1)))):=by kernel_rfl
theorem All:Av jn PR Aw Tryz.f307 [.p e0,.s key1] Q=(Dw 303 [.p e0,.s key1] λX1=>Aj (!X1) (Q (.b false)) (Ad e0 λB2 O3=>AZ B2 O3 λX4=>Bs B2 (O3+1) λX5=>wz 312 [.agg #[.l X4.a X4.n X4.c,.p X5],.s key1]<|Q (.b true))):=by kernel_rfl
theorem Alm:Av jn PR Aw Tryz.f308 [.p e0] Q=(Aj (Option.isNone e0) (Q (.i 0)) (Ad e0 λB1 O2=>Ay B1 (O2+2) λX3=>Q (.i X3))):=by kernel_rfl
theorem Aln:Av jn PR Asq Tryz.f313 [.p e0] Q=(A5 λS=>Ad e0 λB1 O2=>Er S B1 (O2+2) λX3=>Bw 305 [.p e0] λX4=>Aq true S<|Aj (decide (X4<X3)) (Q (.l none 0 0)) (ED 301 [.p e0] λX5 X6=>A1 [.s X5] 9 λB7=>Q (.l (some ⟨B7,0,none⟩) 1 1))):=by kernel_rfl
theorem Mo:Sw jn Q (us 80 [])=(Q (.tuple #[.b true,.l none 0 0])):=by kernel_rfl
theorem Mp:Of jn Q (m2+1) e0=(A5 λS=>Ad e0 λB14 O15=>Fs S B14 O15 λX16=>EK S B14 (O15+1) λX17=>Ad e0 λB18 O19=>Er S B18 (O19+5) λX20=>A1 [.i 2] 3 λB21=>Aq true S<|Bw 336 [.agg #[.l X16.a X16.n X16.c,.p X17],.l (some ⟨B21,0,none⟩) 1 1] λX22=>Aq true S<|Aj (decide (X22>X20)) (A5 λS=>Ad e0 λB23 O24=>Fs S B23 O24 λX25=>EK S B23 (O24+1) λX26=>Ad e0 λB27 O28=>AZ B27 O28 λX29=>Bs B27 (O28+1) λX30=>Aq true S<|TA 337 [.agg #[.l X29.a X29.n X29.c,.p X30],.i 2] λX31=>
 Aq true S<|wz 335 [.agg #[.l X25.a X25.n X25.c,.p X26],.i 1,.s X31]<|Of jn Q m2 e0) (Asz jn Q)):=by kernel_rfl
theorem Xh:Sy jn Q (us 7 ((.l gone7.a gone7.n gone7.c)::us 72 []))=(Q (.tuple #[.b false,.l gone7.a gone7.n gone7.c])):=by kernel_rfl
theorem Mq{m5:Nat}:Og jn Q (m5+1) e0 gone7=(A5 λS=>Ad e0 λB36 O37=>Fs S B36 O37 λX38=>EK S B36 (O37+1) λX39=>Ad e0 λB40 O41=>Er S B40 (O41+3) λX42=>A1 [.i 0] 3 λB43=>Aq true S<|Bw 336 [.agg #[.l X38.a X38.n X38.c,.p X39],.l (some ⟨B43,0,none⟩) 1 1] λX44=>Aq true S<|Aj (decide (X44>X42)) (FI 338 [.p e0] λX45=>Bt 9 1 16 [.s Ae] ⟨gone7.a,gone7.n,gone7.c⟩ X45.n (λw=>HF w X45.a (X45.n*1)) λG46=>Og jn Q m5 e0 G46) (As1 jn Q gone7)):=by kernel_rfl
theorem Xg:Sx jn Q ((.p e0)::(.s key1)::us 78 [])=(Ad e0 λB32 O33=>AZ B32 O33 λX34=>Bs B32 (O33+1) λX35=>wz 335 [.agg #[.l X34.a X34.n X34.c,.p X35],.i 0,.s key1]<|DF λm=>Og jn Q m e0 ⟨none,0,0⟩):=by kernel_rfl
theorem Mn{t28:Bool}:Sv jn Q ((.p e0)::(.s key1)::us 26 ((.b t28)::us 51 []))=(Aj t28 (Ad e0 λB10 O11=>AZ B10 O11 λX12=>Bs B10 (O11+1) λX13=>wz 335 [.agg #[.l X12.a X12.n X12.c,.p X13],.i 2,.s key1]<|DF λm=>Of jn Q m e0) (As0 jn Q e0 key1)):=by kernel_rfl
theorem Alr:Av jn PR Fa Tryz.f323 [.p e0,.s key1] Q=(Aj (Option.isNone e0) (Q (.tuple #[.b false,.l none 0 0])) (wz 333 [.p e0,.s key1]<|Ad e0 λB1 O2=>AZ B1 O2 λX3=>Bs B1 (O2+1) λX4=>Bw 334 [.agg #[.l X3.a X3.n X3.c,.p X4],.s key1] λX5=>Aj (X5==0) (Ad e0 λB6 O7=>AZ B6 O7 λX8=>Bs B6 (O7+1) λX9=>wz 335 [.agg #[.l X8.a X8.n X8.c,.p X9],.i 0,.s key1]<|Q (.tuple #[.b true,.l none 0 0])) (Aj (X5==1) (U3 jn Q e0 key1 (X5==1)) (U3 jn Q e0 key1 (X5==2))))):=by kernel_rfl
theorem Als:Av jn PR Aw Tryz.f324 [.p e0] Q=(Bw 328 [.p e0] λX1=>Aj (X1==0) (Q (.tuple #[.s Ae,.b false])) (Fy 339 [.p e0] λX2 X3=>Ad e0 λB4 O5=>AZ B4 O5 λX6=>Bs B4 (O5+1) λX7=>TA 337 [.agg #[.l X6.a X6.n X6.c,.p X7],.i X2] λX8=>Ad e0 λB9 O10=>AZ B9 O10 λX11=>Bs B9 (O10+1) λX12=>wz 340 [.agg #[.l X11.a X11.n X11.c,.p X12],.s X8]<|Q (.tuple #[.s X8,.b true]))):=by kernel_rfl
theorem Alu:Av jn PR Aw Tryz.f326 [.p e0,.s key1] Q=(Aj (Option.isNone e0) (Q (.b false)) (Ad e0 λB1 O2=>AZ B1 O2 λX3=>Bs B1 (O2+1) λX4=>Bw 334 [.agg #[.l X3.a X3.n X3.c,.p X4],.s key1] λX5=>Aj (X5==0) (Q (.b true)) (Aj (X5==1) (Q (.b true)) (Q (.b (X5==2)))))):=by kernel_rfl
theorem Alv:Av jn PR Aw Tryz.f327 [.p e0] Q=(Aj (Option.isNone e0) (Q (.l none 0 0)) (Ad e0 λB1 O2=>AZ B1 O2 λX3=>Bs B1 (O2+1) λX4=>A1 [.i 0,.i 1,.i 2] 3 λB5=>FI 341 [.agg #[.l X3.a X3.n X3.c,.p X4],.l (some ⟨B5,0,none⟩) 3 3] λX6=>Q (.l X6.a X6.n X6.c))):=by kernel_rfl
theorem Alw:Av jn PR Aw Tryz.f328 [.p e0] Q=(Aj (Option.isNone e0) (Q (.i 0)) (Ad e0 λB1 O2=>AZ B1 O2 λX3=>Bs B1 (O2+1) λX4=>A1 [.i 0,.i 1,.i 2] 3 λB5=>Bw 336 [.agg #[.l X3.a X3.n X3.c,.p X4],.l (some ⟨B5,0,none⟩) 3 3] λX6=>Q (.i X6))):=by kernel_rfl
theorem Xi:Sz jn Q ((.p e0)::(.s key1)::us 42 [])=(A5 λS=>Ad e0 λB6 O7=>Fs S B6 O7 λX8=>EK S B6 (O7+1) λX9=>Ad e0 λB10 O11=>Er S B10 (O11+4) λX12=>A1 [.i 1,.i 2] 3 λB13=>Aq true S<|Bw 336 [.agg #[.l X8.a X8.n X8.c,.p X9],.l (some ⟨B13,0,none⟩) 2 2] λX14=>Aq true S<|Aj (decide (X14<X12)) (Ad e0 λB15 O16=>AZ B15 O16 λX17=>Bs B15 (O16+1) λX18=>wz 335 [.agg #[.l X17.a X17.n X17.c,.p X18],.i 1,.s key1]<|Q (.b true)) (Ad e0 λB19 O20=>
 AZ B19 O20 λX21=>Bs B19 (O20+1) λX22=>wz 335 [.agg #[.l X21.a X21.n X21.c,.p X22],.i 0,.s key1]<|Q (.b true))):=by kernel_rfl
theorem Alx:Av jn PR Acp Tryz.f329 [.p e0,.s key1] Q=(A5 λS=>Aj (Option.isNone e0) (Aq true S<|Aq true S<|Q (.b false)) (Dw 326 [.p e0,.s key1] λX1=>Aq true S<|Aj X1 (Aq true S<|Q (.b false)) (Ad e0 λB2 O3=>Er S B2 (O3+2) λX4=>Bw 328 [.p e0] λX5=>Aq true S<|Aj (X5==X4) (Q (.b false)) (As2 jn Q e0 key1)))):=by kernel_rfl
theorem Aly:Av jn PR Aw Tryz.f330 [.p e0,.s key1] Q=(Dw 326 [.p e0,.s key1] λX1=>Aj (!X1) (Q (.b false)) (Ad e0 λB2 O3=>AZ B2 O3 λX4=>Bs B2 (O3+1) λX5=>wz 340 [.agg #[.l X4.a X4.n X4.c,.p X5],.s key1]<|Q (.b true))):=by kernel_rfl
theorem Alz:Av jn PR Aw Tryz.f331 [.p e0] Q=(Aj (Option.isNone e0) (Q (.i 0)) (Ad e0 λB1 O2=>Ay B1 (O2+2) λX3=>Q (.i X3))):=by kernel_rfl
theorem Al0:Av jn PR Aw Tryz.f333 [.p e0,.s key1] Q=(Ad e0 λB1 O2=>Bs B1 (O2+7) λX3=>Dw 342 [.p X3,.s key1] λX4=>Aj (!X4) (Q (.tuple #[])) (Ad e0 λB5 O6=>Bs B5 (O6+6) λX7=>Bw 343 [.p X7] λX8=>Ad e0 λB9 O10=>Bs B9 (O10+6) λX11=>wz 344 [.p X11,.s key1]<|Ad e0 λB12 O13=>Bs B12 (O13+6) λX14=>Bw 343 [.p X14] λX15=>Aj (decide (X15<X8)) (Ad e0 λB16 O17=>Bs B16 (O17+7) λX18=>wz 345 [.p X18]<|
 Q (.tuple #[])) (Q (.tuple #[])))):=by kernel_rfl
theorem Xj:S3 jn Q ((.p e0)::us 2 ((.s key3)::(.i row4)::us 75 []))=(Ad e0 λB26 O27=>AZ B26 O27 λX28=>Bs B26 (O27+1) λX29=>TA 337 [.agg #[.l X28.a X28.n X28.c,.p X29],.i row4] λX30=>Ad e0 λB31 O32=>AZ B31 O32 λX33=>Bs B31 (O32+1) λX34=>wz 340 [.agg #[.l X33.a X33.n X33.c,.p X34],.s X30]<|Ad e0 λB35 O36=>AZ B35 O36 λX37=>Bs B35 (O36+1) λX38=>wz 335 [.agg #[.l X37.a X37.n X37.c,.p X38],.i 1,.s key3]<|A1 [.s X30] 9 λB39=>
 Q (.l (some ⟨B39,0,none⟩) 1 1)):=by kernel_rfl
theorem Mr:S1 jn Q ((.p e0)::us 2 ((.s key3)::(.i row4)::us 30 ((.b t35)::us 44 [])))=(Aj t35 (Ad e0 λB21 O22=>AZ B21 O22 λX23=>Bs B21 (O22+1) λX24=>wz 340 [.agg #[.l X23.a X23.n X23.c,.p X24],.s key3]<|A1 [.s key3] 9 λB25=>Q (.l (some ⟨B25,0,none⟩) 1 1)) (As6 jn Q e0 key3 row4)):=by kernel_rfl
theorem Al1:Av jn PR Oi Tryz.f338 [.p e0] Q=(Ad e0 λB1 O2=>AZ B1 O2 λX3=>Bs B1 (O2+1) λX4=>TA 337 [.agg #[.l X3.a X3.n X3.c,.p X4],.i 0] λX5=>Fy 339 [.p e0] λX6 X7=>A5 λS=>Ad e0 λB8 O9=>Fs S B8 O9 λX10=>EK S B8 (O9+1) λX11=>Ad e0 λB12 O13=>Er S B12 (O13+4) λX14=>A1 [.i 1,.i 2] 3 λB15=>Aq true S<|Bw 336 [.agg #[.l X10.a X10.n X10.c,.p X11],.l (some ⟨B15,0,none⟩) 2 2] λX16=>Aq true S<|
 Aj (decide (X16<X14)) (Ad e0 λB17 O18=>AZ B17 O18 λX19=>Bs B17 (O18+1) λX20=>wz 335 [.agg #[.l X19.a X19.n X19.c,.p X20],.i 1,.s X5]<|Q (.l none 0 0)) (A5 λS=>Aj (!X7) (Aq true S<|Oh jn Q e0 X5 X6 true) (Ad e0 λB40 O41=>Fs S B40 O41 λX42=>EK S B40 (O41+1) λX43=>Bw 348 [.p e0,.s X5] λX44=>Aq true S<|TA 337 [.agg #[.l X42.a X42.n X42.c,.p X43],.i X6] λX45=>Bw 348 [.p e0,.s X45] λX46=>Oh jn Q e0 X5 X6 (decide (X44<=X46))))):=by kernel_rfl
theorem Xk:S4 jn Q (us 22 [])=(Q (.tuple #[.i 0,.b false])):=by kernel_rfl
theorem Ii{t6:Sl}{t7 t8:Int}:U4 jn Q (m1+1) e0 t6 t7 t8=(Aj (decide (t8<t7)) (C7 t6.a t6.n t8 λB2 O3=>Ay B2 (O3+t8.toNat*1) λX4=>Ad e0 λB5 O6=>AZ B5 O6 λX7=>Bs B5 (O6+1) λX8=>A1 [.i X4] 3 λB9=>Bw 336 [.agg #[.l X7.a X7.n X7.c,.p X8],.l (some ⟨B9,0,none⟩) 1 1] λX10=>Aj (decide (X10>0)) (Q (.tuple #[.i X4,.b true])) (U4 jn Q m1 e0 t6 t7 (IntKind.wrap .i64 (t8+1)))) (As8 jn Q)):=by kernel_rfl
theorem Al2:Av jn PR Oj Tryz.f339 [.p e0] Q=(A1 [.i 1,.i 2] 3 λB1=>DF λm=>U4 jn Q m e0 ⟨(some ⟨B1,0,none⟩),2,2⟩ 2 0):=by kernel_rfl
theorem Xl:S5 jn Q (us 5 ((.b was5)::us 30 []))=(Q (.b was5)):=by kernel_rfl
theorem Ms{t14:Int}:Om jn Q (m1+1) d0 key1 was5 t14=(Aj (decide (t14<3)) (Gb (.int .i64) (.int .u64) PR 351 [.p d0,.i t14,.s key1] λ(X2:Int)(X3:Int)=>Ad d0 λB4 O5=>AZ B4 O5 λX6=>C7 X6.a X6.n X2 λB7 O8=>Dx B7 (O8+X2.toNat*1) λX9=>C7 X6.a X6.n X2 λB10 O11=>st B10 (O11+X2.toNat*1) (.int .u64 (bits .or .u64 X9 X3))<|Om jn Q m1 d0 key1 was5 (IntKind.wrap .i64 (t14+1))) (Atd jn Q was5)):=by kernel_rfl
theorem Al3:Av jn PR Ol Tryz.f342 [.p d0,.s key1] Q=(Aj (Option.isNone d0) (Q (.b false)) (Dw 350 [.p d0,.s key1] λX1=>DF λm=>Om jn Q m d0 key1 X1 0)):=by kernel_rfl
theorem Al4:Av jn PR Aw Tryz.f343 [.p s0] Q=(Aj (Option.isNone s0) (Q (.i 0)) (Ad s0 λB1 O2=>Ay B1 (O2+2) λX3=>Q (.i X3))):=by kernel_rfl
theorem Xm:S6 jn Q ((.p s0)::us 51 [])=(Ad s0 λB9 O10=>Ay B9 (O10+2) λX11=>Ad s0 λB12 O13=>st B12 (O13+2) (.i (IntKind.wrap .i64 (X11+1)))<|A5 λS=>Ad s0 λB14 O15=>Er S B14 (O15+2) λX16=>Ad s0 λB17 O18=>Ay B17 O18 λX19=>Aq true S<|Aj (X16==(IntKind.wrap .i64 (10*X19))) (wz 356 [.p s0]<|Q (.tuple #[])) (Q (.tuple #[]))):=by kernel_rfl
theorem Mt{low4 t17_0 t17_1 t17_2 t17_3 t18:Int}:Kn jn Q (m1+1) s0 low4 t17_0 t17_1 t17_2 t17_3 t18=(Aj (decide (t18<4)) (AY ((0:Int)<=t18/\t18<((4:Nat):Int))<|λw=>∃X6:Int,([.i t17_0,.i t17_1,.i t17_2,.i t17_3]:List Value)[t18.toNat]? = some (.i X6)/\Ct (.i X6)=false/\(Bw 354 [.p s0,.i X6] λX7=>Aj (decide (X7<=low4)) (Bw 119 [.i X7,.i 15] λX8=>wz 355 [.p s0,.i X6,.i X8]<|Kn jn Q m1 s0 low4 t17_0 t17_1 t17_2 t17_3 (IntKind.wrap .i64 (t18+1))) (
 Kn jn Q m1 s0 low4 t17_0 t17_1 t17_2 t17_3 (IntKind.wrap .i64 (t18+1)))) w) (Atf jn Q s0)):=by kernel_rfl
theorem Al5:Av jn PR On Tryz.f344 [.p s0,.s key1] Q=(Aj (Option.isNone s0) (Q (.tuple #[])) (Bw 352 [.p s0,.s key1] λX1=>Aj (X1==15) (Q (.tuple #[])) (λw=>Calls PR 353 #[.p s0,.s key1] w λe w'=>∃X2:Int,∃X3:Int,∃X4:Int,∃X5:Int,e = .returned (.agg #[.i X2,.i X3,.i X4,.i X5])/\(DF λm=>Kn jn Q m s0 X1 X2 X3 X4 X5 0) w'))):=by kernel_rfl
theorem Al6:Av jn PR Aw Tryz.f345 [.p d0] Q=(Aj (!Option.isNone d0) (Ad d0 λB1 O2=>AZ B1 O2 λX3=>Ap1 [.int .u64 0] X3.a X3.n<|Q (.tuple #[])) (Q (.tuple #[]))):=by kernel_rfl
end Go.Proofs.YtjipofkjmmpjdaaGreat
namespace Go.Proofs.YtjipofkjmmpjdaaGreat
open Go.Hb
section
variable(jn:Jn)(Q:VW)
def Oo:KP:=⟨[(11,[0,1,10]),(22,[])],[]⟩
def Ath:EW:=sE Tryz.f350 Oo jn Q [1,1,1] (rE Tryz.f350 Q) A6
def S7:EW:=cE Tryz.f350 Oo jn Q [1,1,1] (rE Tryz.f350 Q) A6
def Ati:WP:=jn 22 (S7 jn Q) (us 31 [])
def Oq(m1:Nat)(d0:OA)(key1:BA)(t10:Int):WP:=CQ PR Oo jn (bE Tryz.f350 [1,1,0,1,0,0]) (A8 0 (Ath jn Q) A6) (rE Tryz.f350 Q) m1 ((.p d0)::(.s key1)::us 8 ((.i t10)::us 20 []))
def Atj:KP:=⟨[],[(1,[0,1,2,3,5,6,7,8,9,10,12]),(2,[0,1,2,3,4,5,6])]⟩
def Ot:KP:=⟨[(13,[0,5,12,13]),(20,[5])],[]⟩
def Atk:EW:=sE Tryz.f352 Ot jn Q [1,1,1,1] (rE Tryz.f352 Q) A6
def S8:EW:=cE Tryz.f352 Ot jn Q [1,1,1,1] (rE Tryz.f352 Q) A6
def Atl(low5:Int):WP:=jn 20 (S8 jn Q) (us 5 ((.i low5)::us 17 []))
def Ou(m1:Nat)(s0:OA)(low5 t12_0 t12_1 t12_2 t12_3 t13:Int):WP:=CQ PR Ot jn (bE Tryz.f352 [1,1,1,0,1,0,0]) (A8 0 (Atk jn Q) A6) (rE Tryz.f352 Q) m1 ((.p s0)::us 4 ((.i low5)::us 6 ((.agg #[.i t12_0,.i t12_1,.i t12_2,.i t12_3])::(.i t13)::us 9 [])))
def Ov:KP:=⟨[(9,[0,1,4,5,7]),(16,[4,5])],[(5,[0,1,2,3,4,5,6,7,8,9,10,12,13,14,15,17,18])]⟩
def Atm:EW:=sE Tryz.f353 Ov jn Q [1,1,1] (rE Tryz.f353 Q) A6
def S9:EW:=cE Tryz.f353 Ov jn Q [1,1,1] (rE Tryz.f353 Q) A6
def Atn(t4b t4o l5b l5o:Nat):WP:=jn 16 (S9 jn Q) (us 4 ((pq t4b t4o)::(pq l5b l5o)::us 25 []))
def Ow(m1:Nat)(s0:OA)(key1:BA)(t4b t4o l5b l5o:Nat)(t7:Int):WP:=CQ PR Ov jn (bE Tryz.f353 [1,1,0,1,0,0]) (A8 0 (Atm jn Q) A6) (rE Tryz.f353 Q) m1 ((.p s0)::(.s key1)::us 2 ((pq t4b t4o)::(pq l5b l5o)::us 1 ((.i t7)::us 23 [])))
def Ato:KP:=⟨[],[(1,[0,1,2,3,4,5,6,7,8,10,11,12,14,15,16,17,18,19,20,21,22])]⟩
def Ox:KP:=⟨[(7,[0,9,10]),(14,[0])],[]⟩
def Atp:EW:=sE Tryz.f356 Ox jn Q [1,1] (rE Tryz.f356 Q) A6
def SA:EW:=cE Tryz.f356 Ox jn Q [1,1] (rE Tryz.f356 Q) A6
def Atq(s0:OA):WP:=jn 14 (SA jn Q) ((.p s0)::us 27 [])
def Oy(m1:Nat)(s0:OA)(t9 t10:Int):WP:=CQ PR Ox jn (bE Tryz.f356 [1,0,1,0,0]) (A8 0 (Atp jn Q) A6) (rE Tryz.f356 Q) m1 ((.p s0)::us 8 ((.i t9)::(.i t10)::us 17 []))
def Acr(m1:Nat):EW:=Iy PR AA jn (bE Tryz.f357 [1,1,1,0,0]) (A8 0 (rE Tryz.f357 Q) A6) (rE Tryz.f357 Q) m1
def Ko(m1:Nat):EW:=sE Tryz.f357 AA jn Q [1,1,1,0,0,1] (Acr jn Q m1) (A8 0 (rE Tryz.f357 Q) A6)
def Atr(m1:Nat):Nat->EW:=A8 1 (Ko jn Q m1) (A8 0 (rE Tryz.f357 Q) A6)
def U6(m1:Nat):Nat->EW:=A8 2 (Ko jn Q m1) (Atr jn Q m1)
def Ae5(m1:Nat):EW:=cE Tryz.f357 AA jn Q [1,1,1,0,0,1] (Acr jn Q m1) (A8 0 (rE Tryz.f357 Q) A6)
def Ae6(m1:Nat):EW:=cE Tryz.f357 AA jn Q [1,1,1,0,0,0,0,1,0,1,1,1,1,1] (Ko jn Q m1) (U6 jn Q m1)
def Ae4(m1:Nat):EW:=cE Tryz.f357 AA jn Q [1,1,1,0,0,0,0,1,0,1,1,1] (Ko jn Q m1) (U6 jn Q m1)
def Ae3(m1:Nat):EW:=cE Tryz.f357 AA jn Q [1,1,1,0,0,0,0,1,0,1] (Ko jn Q m1) (U6 jn Q m1)
def Ats(m1:Nat)(x0:OA)(key1:BA)(free6 i7:Int):WP:=CQ PR AA jn (bE Tryz.f357 [1,1,1,0,0]) (A8 0 (rE Tryz.f357 Q) A6) (rE Tryz.f357 Q) m1 ((.p x0)::(.s key1)::us 4 ((.i free6)::(.i i7)::us 71 []))
def Ae7:EW:=cE Tryz.f358 Eb jn Q [1,1] (rE Tryz.f358 Q) A6
def Att(m1:Nat)(x0:OA)(t28:Sl)(t29 t30:Int):WP:=CQ PR Dt jn (bE Tryz.f359 [1,1,1,0,0]) (A8 0 (rE Tryz.f359 Q) A6) (rE Tryz.f359 Q) m1 ((.p x0)::us 27 ((.l t28.a t28.n t28.c)::(.i t29)::(.i t30)::us 21 []))
def Oz:KP:=⟨[(19,[0,1,8]),(24,[0,1,8])],[(5,[0,1,2,3,4,5]),(8,[0,2,3,4,5,6])]⟩
def Amg:EW:=sE Tryz.f360 Oz jn Q [1,1,1,1,1] (rE Tryz.f360 Q) A6
def SB:EW:=cE Tryz.f360 Oz jn Q [1,1,1,1,1] (rE Tryz.f360 Q) A6
def Acs(e0:OA)(key1:BA)(gone8:Sl):WP:=jn 24 (SB jn Q) ((.p e0)::(.s key1)::us 6 ((.l gone8.a gone8.n gone8.c)::us 53 []))
def O0(m1:Nat)(e0:OA)(key1:BA)(gone8:Sl):WP:=CQ PR Oz jn (bE Tryz.f360 [1,1,1,1,0,0,0]) (A8 0 (Amg jn Q) A6) (rE Tryz.f360 Q) m1 ((.p e0)::(.s key1)::us 6 ((.l gone8.a gone8.n gone8.c)::us 53 []))
def U8:KP:=⟨[(10,[0,28])],[(3,[0,1,2,3,6,7,8,9,10,11,12,13,14,15,18,19])]⟩
def Atv:EW:=sE Tryz.f361 U8 jn Q [1,1,1] (rE Tryz.f361 Q) A6
def SC:EW:=cE Tryz.f361 U8 jn Q [1,1,0,1] (Atv jn Q) A6
def U7(e0:OA)(t28:Bool):WP:=jn 10 (SC jn Q) ((.p e0)::us 27 ((.b t28)::us 9 []))
def Atw:KP:=⟨[],[(1,[0,1,2,3,4,6,7,8,10,11,12,13,14,15])]⟩
def Aty:EW:=sE Tryz.f372 Bl jn Q [1,1,1] (rE Tryz.f372 Q) A6
def Ae8:EW:=cE Tryz.f372 Bl jn Q [1,1,1] (rE Tryz.f372 Q) A6
def Atz(m1:Nat)(r2b r2o:Nat)(n5:Int)(t8:Sl)(t9 t10:Int):WP:=CQ PR Bl jn (bE Tryz.f372 [1,1,0,1,0,0]) (A8 0 (Aty jn Q) A6) (rE Tryz.f372 Q) m1 (us 2 ((pq r2b r2o)::us 2 ((.i n5)::us 2 ((.l t8.a t8.n t8.c)::(.i t9)::(.i t10)::us 13 []))))
def Gg:KP:=⟨[(5,[0]),(19,[0,4]),(22,[4]),(24,[])],[(8,[0,1,2,3,6,7,8,9,10]),(9,[0,1,2,3,4,5,6])]⟩
def UA:EW:=sE Tryz.f373 Gg jn Q [1,1] (rE Tryz.f373 Q) A6
def UB(m1:Nat):EW:=Iy PR Gg jn (bE Tryz.f373 [1,0,0,0]) (A8 0 (UA jn Q) A6) (rE Tryz.f373 Q) m1
def UC(m1:Nat):Nat->EW:=A8 1 (UB jn Q m1) (A8 0 (UA jn Q) A6)
def Amq(m1:Nat):EW:=sE Tryz.f373 Gg jn Q [1,0,0,0,1,0,1,1,1,1,1] (UB jn Q m1) (UC jn Q m1)
def Amr(m1:Nat):Nat->EW:=A8 2 (Amq jn Q m1) (UC jn Q m1)
def SD(m1:Nat):EW:=cE Tryz.f373 Gg jn Q [1,0,0,0,1,0,1,1,1,1,1] (UB jn Q m1) (UC jn Q m1)
def At0(m1:Nat)(key4:BA):WP:=jn 22 (SD jn Q m1) (us 4 ((.s key4)::us 59 []))
def OB(m1 m2:Nat)(e0:OA)(key4:BA):WP:=CQ PR Gg jn (bE Tryz.f373 [1,0,0,0,1,0,1,1,1,1,0,0,0]) (Amr jn Q m1) (rE Tryz.f373 Q) m2 ((.p e0)::us 3 ((.s key4)::us 59 []))
def SE:EW:=cE Tryz.f373 Gg jn Q [1,1] (rE Tryz.f373 Q) A6
def At1:WP:=jn 24 (SE jn Q) (us 64 [])
def O1(m1:Nat)(e0:OA):WP:=CQ PR Gg jn (bE Tryz.f373 [1,0,0,0]) (A8 0 (UA jn Q) A6) (rE Tryz.f373 Q) m1 ((.p e0)::us 63 [])
def Acu:KP:=⟨[(5,[0])],[]⟩
def OC(m1:Nat)(e0:OA):WP:=CQ PR Acu jn (bE Tryz.f374 [1,0,0]) (A8 0 (rE Tryz.f374 Q) A6) (rE Tryz.f374 Q) m1 ((.p e0)::us 30 [])
def At2:EW:=sE Tryz.f375 Bl jn Q [1,1,1] (rE Tryz.f375 Q) A6
def Ae9:EW:=cE Tryz.f375 Bl jn Q [1,1,1] (rE Tryz.f375 Q) A6
def At3(m1:Nat)(r2b r2o:Nat)(l5 t8:Sl)(t9 t10:Int):WP:=CQ PR Bl jn (bE Tryz.f375 [1,1,0,1,0,0]) (A8 0 (At2 jn Q) A6) (rE Tryz.f375 Q) m1 (us 2 ((pq r2b r2o)::us 2 ((.l l5.a l5.n l5.c)::us 2 ((.l t8.a t8.n t8.c)::(.i t9)::(.i t10)::us 13 []))))
def Afa:EW:=cE Tryz.f377 Ea jn Q [1,1] (rE Tryz.f377 Q) A6
def Acv(m1:Nat):EW:=Iy PR AA jn (bE Tryz.f381 [1,1,1,0,0]) (A8 0 (rE Tryz.f381 Q) A6) (rE Tryz.f381 Q) m1
def Kp(m1:Nat):EW:=sE Tryz.f381 AA jn Q [1,1,1,0,0,1] (Acv jn Q m1) (A8 0 (rE Tryz.f381 Q) A6)
def At4(m1:Nat):Nat->EW:=A8 1 (Kp jn Q m1) (A8 0 (rE Tryz.f381 Q) A6)
def UD(m1:Nat):Nat->EW:=A8 2 (Kp jn Q m1) (At4 jn Q m1)
def Afd(m1:Nat):EW:=cE Tryz.f381 AA jn Q [1,1,1,0,0,1] (Acv jn Q m1) (A8 0 (rE Tryz.f381 Q) A6)
def Afe(m1:Nat):EW:=cE Tryz.f381 AA jn Q [1,1,1,0,0,0,0,1,0,1,1,1,1,1] (Kp jn Q m1) (UD jn Q m1)
def Afc(m1:Nat):EW:=cE Tryz.f381 AA jn Q [1,1,1,0,0,0,0,1,0,1,1,1] (Kp jn Q m1) (UD jn Q m1)
def Afb(m1:Nat):EW:=cE Tryz.f381 AA jn Q [1,1,1,0,0,0,0,1,0,1] (Kp jn Q m1) (UD jn Q m1)
def At5(m1:Nat)(x0:OA)(key1:BA)(free6 i7:Int):WP:=CQ PR AA jn (bE Tryz.f381 [1,1,1,0,0]) (A8 0 (rE Tryz.f381 Q) A6) (rE Tryz.f381 Q) m1 ((.p x0)::(.s key1)::us 4 ((.i free6)::(.i i7)::us 71 []))
def Aff:EW:=cE Tryz.f384 Eb jn Q [1,1] (rE Tryz.f384 Q) A6
def At6(m1:Nat)(x0:OA)(t28:Sl)(t29 t30:Int):WP:=CQ PR Dt jn (bE Tryz.f385 [1,1,1,0,0]) (A8 0 (rE Tryz.f385 Q) A6) (rE Tryz.f385 Q) m1 ((.p x0)::us 27 ((.l t28.a t28.n t28.c)::(.i t29)::(.i t30)::us 21 []))
end
variable{jn:Jn}{Q:VW}{e0 s0 d0:OA}{key1 key2 key4:BA}{m1 t4b t4o l5b l5o:Nat}{i1 t10 low5:Int}{gone8:Sl}
theorem Al7:Av jn PR Aw Tryz.f348 [.p e0,.s key1] Q=(Ad e0 λB1 O2=>Bs B1 (O2+6) λX3=>Bw 352 [.p X3,.s key1] λX4=>Ad e0 λB5 O6=>Bs B5 (O6+7) λX7=>Dw 350 [.p X7,.s key1] λX8=>Aj X8 (Q (.i (IntKind.wrap .i64 (X4+1)))) (Q (.i X4))):=by kernel_rfl
theorem Xo:S7 jn Q (us 31 [])=(Q (.b true)):=by kernel_rfl
theorem Mu:Oq jn Q (m1+1) d0 key1 t10=(Aj (decide (t10<3)) (Gb (.int .i64) (.int .u64) PR 351 [.p d0,.i t10,.s key1] λ(X1:Int)(X2:Int)=>Ad d0 λB3 O4=>AZ B3 O4 λX5=>C7 X5.a X5.n X1 λB6 O7=>Dx B6 (O7+X1.toNat*1) λX8=>Aj ((bits .and .u64 X8 X2)==0) (Q (.b false)) (Oq jn Q m1 d0 key1 (IntKind.wrap .i64 (t10+1)))) (Ati jn Q)):=by kernel_rfl
theorem Al9:Av jn PR Oo Tryz.f350 [.p d0,.s key1] Q=(Aj (Option.isNone d0) (Q (.b false)) (DF λm=>Oq jn Q m d0 key1 0)):=by kernel_rfl
theorem Ama:Av jn PR Atj Tryz.f351 [.p d0,.i i1,.s key2] Q=(A5 λS=>Ad d0 λB1 O2=>Fs S B1 O2 λX3=>YS 117 [.int .u64 (IntKind.wrap .u64 (IntKind.wrap .i64 (11+i1))),.s key2] λX4=>Aq true S<|Bw 116 [.int .u64 X4,.i (IntKind.wrap .i64 (64*(X3.n:Int)))] λX5=>A5 λS=>AY ((64:Int)≠0)<|AY ((64:Int)≠0)<|AY ((0:Int)<=(Int.tmod X5 (64:Int)))<|Q (.tuple #[.i (IntKind.wrap .i64 (Int.tdiv X5 64)),.int .u64 (GF .u64 1 (Int.tmod X5 64))])):=by kernel_rfl
theorem Xp:S8 jn Q (us 5 ((.i low5)::us 17 []))=(Q (.i low5)):=by kernel_rfl
theorem Mv{t12_0 t12_1 t12_2 t12_3 t13:Int}:Ou jn Q (m1+1) s0 low5 t12_0 t12_1 t12_2 t12_3 t13=(Aj (decide (t13<4)) (AY ((0:Int)<=t13/\t13<((4:Nat):Int))<|λw=>∃X5:Int,([.i t12_0,.i t12_1,.i t12_2,.i t12_3]:List Value)[t13.toNat]? = some (.i X5)/\Ct (.i X5)=false/\(Bw 354 [.p s0,.i X5] λX6=>Ou jn Q m1 s0 (if X6<low5 then X6 else low5) t12_0 t12_1 t12_2 t12_3 (IntKind.wrap .i64 (t13+1))) w) (Atl jn Q low5)):=by kernel_rfl
theorem Amb:Av jn PR Ot Tryz.f352 [.p s0,.s key1] Q=(Aj (Option.isNone s0) (Q (.i 0)) (λw=>Calls PR 353 #[.p s0,.s key1] w λe w'=>∃X1:Int,∃X2:Int,∃X3:Int,∃X4:Int,e = .returned (.agg #[.i X1,.i X2,.i X3,.i X4])/\(DF λm=>Ou jn Q m s0 15 X1 X2 X3 X4 0) w')):=by kernel_rfl
theorem Xq:S9 jn Q (us 4 ((pq t4b t4o)::(pq l5b l5o)::us 25 []))=(Ay l5b l5o λX11=>Ay l5b (l5o+1) λX12=>Ay l5b ((l5o+1)+1) λX13=>Ay l5b (((l5o+1)+1)+1) λX14=>st t4b t4o (.i X11)<|st t4b (t4o+1) (.i X12)<|st t4b ((t4o+1)+1) (.i X13)<|st t4b (((t4o+1)+1)+1) (.i X14)<|Ay t4b t4o λX15=>Ay t4b (t4o+1) λX16=>Ay t4b ((t4o+1)+1) λX17=>Ay t4b (((t4o+1)+1)+1) λX18=>Q (.agg #[.i X15,.i X16,.i X17,.i X18])):=by kernel_rfl
theorem Mw{t7:Int}:Ow jn Q (m1+1) s0 key1 t4b t4o l5b l5o t7=(Aj (decide (t7<4)) (A5 λS=>Ad s0 λB3 O4=>Er S B3 O4 λX5=>Ad s0 λB6 O7=>Er S B6 O7 λX8=>YS 117 [.int .u64 (IntKind.wrap .u64 (IntKind.wrap .i64 (t7+1))),.s key1] λX9=>Aq true S<|Bw 116 [.int .u64 X9,.i X8] λX10=>Aq true S<|AY ((0:Int)<=t7/\t7<((4:Nat):Int))<|st l5b (l5o+t7.toNat*1) (.i (IntKind.wrap .i64 ((IntKind.wrap .i64 (t7*X5))+X10)))<|Ow jn Q m1 s0 key1 t4b t4o l5b l5o (IntKind.wrap .i64 (t7+1))) (
 Atn jn Q t4b t4o l5b l5o)):=by kernel_rfl
theorem Amc:Av jn PR Ov Tryz.f353 [.p s0,.s key1] Q=(A1 [.i 0,.i 0,.i 0,.i 0] 405 λB1=>A1 [.i 0,.i 0,.i 0,.i 0] 405 λB2=>DF λm=>Ow jn Q m s0 key1 B1 0 B2 0 0):=by kernel_rfl
theorem Amd:Av jn PR Aw Tryz.f354 [.p s0,.i i1] Q=(Ad s0 λB1 O2=>AZ B1 (O2+1) λX3=>AY ((2:Int)≠0)<|C7 X3.a X3.n (IntKind.wrap .i64 (Int.tdiv i1 2)) λB4 O5=>ld (.int .u8) B4 (O5+((IntKind.wrap .i64 (Int.tdiv i1 (2:Int)))).toNat*1) λ(X6:Int)=>AY ((2:Int)≠0)<|AY ((0:Int)<=(IntKind.wrap .i64 ((Int.tmod i1 (2:Int))*(4:Int))))<|Q (.i (bits .and .i64 (IntKind.wrap .i64 (C8 .u8 X6 (IntKind.wrap .i64 ((Int.tmod i1 2)*4)))) 15))):=by kernel_rfl
theorem Ame{v2:Int}:Av jn PR Ato Tryz.f355 [.p s0,.i i1,.i v2] Q=(AY ((2:Int)≠0)<|A5 λS=>Ad s0 λB1 O2=>Fs S B1 (O2+1) λX3=>AY ((2:Int)≠0)<|Ad s0 λB4 O5=>AY ((2:Int)≠0)<|AY ((0:Int)<=(IntKind.wrap .i64 ((Int.tmod i1 (2:Int))*(4:Int))))<|AY ((0:Int)<=(IntKind.wrap .i64 ((Int.tmod i1 (2:Int))*(4:Int))))<|AZ B4 (O5+1) λX6=>Aq true S<|C7 X6.a X6.n (IntKind.wrap .i64 (Int.tdiv i1 2)) λB7 O8=>ld (.int .u8) B7 (O8+((IntKind.wrap .i64 (Int.tdiv i1 (2:Int)))).toNat*1) λ(X9:Int)=>Aq true S<|C7 X3.a X3.n (IntKind.wrap .i64 (Int.tdiv i1 2)) λB10 O11=>
 st B10 (O11+((IntKind.wrap .i64 (Int.tdiv i1 (2:Int)))).toNat*1) (.int .u8 (bits .or .u8 (bits .andNot .u8 X9 (GF .u8 15 (IntKind.wrap .i64 ((Int.tmod i1 2)*4)))) (GF .u8 (IntKind.wrap .u8 v2) (IntKind.wrap .i64 ((Int.tmod i1 2)*4)))))<|Q (.tuple #[])):=by kernel_rfl
theorem Xr:SA jn Q ((.p s0)::us 27 [])=(Ad s0 λB5 O6=>Ay B5 (O6+2) λX7=>AY ((2:Int)≠0)<|Ad s0 λB8 O9=>st B8 (O9+2) (.i (IntKind.wrap .i64 (Int.tdiv X7 2)))<|Q (.tuple #[])):=by kernel_rfl
theorem Mx{t9:Int}:Oy jn Q (m1+1) s0 t9 t10=(Aj (decide (t10<t9)) (Bw 354 [.p s0,.i t10] λX4=>AY ((2:Int)≠0)<|wz 355 [.p s0,.i t10,.i (IntKind.wrap .i64 (Int.tdiv X4 2))]<|Oy jn Q m1 s0 t9 (IntKind.wrap .i64 (t10+1))) (Atq jn Q s0)):=by kernel_rfl
theorem Amf:Av jn PR Ox Tryz.f356 [.p s0] Q=(Aj (Option.isNone s0) (Q (.tuple #[])) (Ad s0 λB1 O2=>Ay B1 O2 λX3=>DF λm=>Oy jn Q m s0 (IntKind.wrap .i64 (4*X3)) 0)):=by kernel_rfl
theorem Xs:SB jn Q ((.p e0)::(.s key1)::us 6 ((.l gone8.a gone8.n gone8.c)::us 53 []))=(Ad e0 λB20 O21=>AZ B20 O21 λX22=>Bs B20 (O21+1) λX23=>Bw 370 [.agg #[.l X22.a X22.n X22.c,.p X23],.s key1] λX24=>Aj (X24==2) (wz 371 [.p e0,.i 1,.s key1,.i 0]<|Q (.tuple #[.b false,.l gone8.a gone8.n gone8.c])) (wz 371 [.p e0,.i 0,.s key1,.i 0]<|Q (.tuple #[.b false,.l gone8.a gone8.n gone8.c]))):=by kernel_rfl
theorem My:O0 jn Q (m1+1) e0 key1 gone8=(A5 λS=>Ad e0 λB12 O13=>Er S B12 (O13+2) λX14=>Bw 365 [.p e0] λX15=>Aq true S<|Aj (decide (X15>=X14)) (ED 361 [.p e0] λX16 X17=>A1 [.s X16] 9 λB18=>Bt 9 1 16 [.s Ae] ⟨gone8.a,gone8.n,gone8.c⟩ 1 (λw=>HF w (some ⟨B18,0,none⟩) (1*1)) λG19=>O0 jn Q m1 e0 key1 G19) (Acs jn Q e0 key1 gone8)):=by kernel_rfl
theorem Amh:Av jn PR Oz Tryz.f360 [.p e0,.s key1] Q=(Aj (Option.isNone e0) (Q (.tuple #[.b false,.l none 0 0])) (Dw 363 [.p e0,.s key1] λX1=>Aj X1 (Ad e0 λB2 O3=>Bs B2 (O3+5) λX4=>Fy 192 [.p X4,.s key1] λX5 X6=>A5 λS=>Ad e0 λB7 O8=>EK S B7 (O8+5) λX9=>Bw 119 [.i X5,.i 3] λX10=>Aq true S<|Dw 161 [.p X9,.s key1,.i X10] λX11=>Q (.tuple #[.b true,.l none 0 0])) (DF λm=>O0 jn Q m e0 key1 ⟨none,0,0⟩))):=by kernel_rfl
theorem Xt{t28:Bool}:SC jn Q ((.p e0)::us 27 ((.b t28)::us 9 []))=(Aj t28 (ED 373 [.p e0] λX11 X12=>Aj X12 (Q (.tuple #[.s X11,.b true])) (TA 374 [.p e0] λX13=>Q (.tuple #[.s X13,.b true]))) (TA 374 [.p e0] λX14=>Q (.tuple #[.s X14,.b true]))):=by kernel_rfl
theorem Ami:Av jn PR U8 Tryz.f361 [.p e0] Q=(Bw 365 [.p e0] λX1=>Aj (X1==0) (Q (.tuple #[.s Ae,.b false])) (A5 λS=>Ad e0 λB2 O3=>Fs S B2 O3 λX4=>EK S B2 (O3+1) λX5=>Ad e0 λB6 O7=>Er S B6 (O7+3) λX8=>A1 [.i 0] 3 λB9=>Aq true S<|Bw 372 [.agg #[.l X4.a X4.n X4.c,.p X5],.l (some ⟨B9,0,none⟩) 1 1] λX10=>Aq true S<|Aj (decide (X10>X8)) (Aq true S<|U7 jn Q e0 true) (Ad e0 λB15 O16=>Fs S B15 O16 λX17=>EK S B15 (O16+1) λX18=>
 A1 [.i 1] 3 λB19=>Aq true S<|Bw 372 [.agg #[.l X17.a X17.n X17.c,.p X18],.l (some ⟨B19,0,none⟩) 1 1] λX20=>U7 jn Q e0 (X20==0)))):=by kernel_rfl
theorem Amj:Av jn PR Aw Tryz.f363 [.p e0,.s key1] Q=(Aj (Option.isNone e0) (Q (.b false)) (Ad e0 λB1 O2=>AZ B1 O2 λX3=>Bs B1 (O2+1) λX4=>Bw 370 [.agg #[.l X3.a X3.n X3.c,.p X4],.s key1] λX5=>Aj (X5==0) (Q (.b true)) (Q (.b (X5==1))))):=by kernel_rfl
theorem Amk:Av jn PR Aw Tryz.f364 [.p e0] Q=(Aj (Option.isNone e0) (Q (.l none 0 0)) (Ad e0 λB1 O2=>AZ B1 O2 λX3=>Bs B1 (O2+1) λX4=>A1 [.i 0,.i 1] 3 λB5=>FI 375 [.agg #[.l X3.a X3.n X3.c,.p X4],.l (some ⟨B5,0,none⟩) 2 2] λX6=>Q (.l X6.a X6.n X6.c))):=by kernel_rfl
theorem Aml:Av jn PR Aw Tryz.f365 [.p e0] Q=(Aj (Option.isNone e0) (Q (.i 0)) (Ad e0 λB1 O2=>AZ B1 O2 λX3=>Bs B1 (O2+1) λX4=>A1 [.i 0,.i 1] 3 λB5=>Bw 372 [.agg #[.l X3.a X3.n X3.c,.p X4],.l (some ⟨B5,0,none⟩) 2 2] λX6=>Q (.i X6))):=by kernel_rfl
theorem Amm:Av jn PR Atw Tryz.f366 [.p e0,.s key1] Q=(A5 λS=>Aj (Option.isNone e0) (Aq true S<|Aq true S<|Q (.b false)) (Dw 363 [.p e0,.s key1] λX1=>Aq true S<|Aj X1 (Aq true S<|Q (.b false)) (Ad e0 λB2 O3=>Er S B2 (O3+2) λX4=>Bw 365 [.p e0] λX5=>Aq true S<|Aj (X5==X4) (Q (.b false)) (wz 371 [.p e0,.i 1,.s key1,.i 0]<|Q (.b true))))):=by kernel_rfl
theorem Amn:Av jn PR Aw Tryz.f367 [.p e0,.s key1] Q=(Dw 363 [.p e0,.s key1] λX1=>Aj (!X1) (Q (.b false)) (wz 376 [.p e0,.s key1]<|Q (.b true))):=by kernel_rfl
theorem Amo:Av jn PR Aw Tryz.f368 [.p e0] Q=(Aj (Option.isNone e0) (Q (.i 0)) (Ad e0 λB1 O2=>Ay B1 (O2+2) λX3=>Q (.i X3))):=by kernel_rfl
theorem Amp{row1:Int}{count3:Int}:Av jn PR Aw Tryz.f371 [.p e0,.i row1,.s key2,.i count3] Q=(Ad e0 λB1 O2=>AZ B1 O2 λX3=>Bs B1 (O2+1) λX4=>wz 378 [.agg #[.l X3.a X3.n X3.c,.p X4],.i row1,.s key2]<|Ad e0 λB5 O6=>Bs B5 (O6+5) λX7=>Dw 161 [.p X7,.s key2,.i count3] λX8=>Q (.tuple #[])):=by kernel_rfl
theorem Mz:SD jn Q m1 (us 4 ((.s key4)::us 59 []))=(Q (.tuple #[.s key4,.b true])):=by kernel_rfl
theorem M1{m2:Nat}:OB jn Q m1 (m2+1) e0 key4=(A5 λS=>Ad e0 λB21 O22=>Fs S B21 O22 λX23=>EK S B21 (O22+1) λX24=>Ad e0 λB25 O26=>Er S B25 (O26+4) λX27=>A1 [.i 2] 3 λB28=>Aq true S<|Bw 372 [.agg #[.l X23.a X23.n X23.c,.p X24],.l (some ⟨B28,0,none⟩) 1 1] λX29=>Aq true S<|Aj (decide (X29>X27)) (A5 λS=>Ad e0 λB30 O31=>Fs S B30 O31 λX32=>EK S B30 (O31+1) λX33=>Ad e0 λB34 O35=>AZ B34 O35 λX36=>Bs B34 (O35+1) λX37=>Aq true S<|TA 379 [.agg #[.l X36.a X36.n X36.c,.p X37],.i 2] λX38=>
 Aq true S<|wz 380 [.agg #[.l X32.a X32.n X32.c,.p X33],.s X38]<|OB jn Q m1 m2 e0 key4) (At0 jn Q m1 key4)):=by kernel_rfl
theorem Xx:SE jn Q (us 64 [])=(Q (.tuple #[.s Ae,.b false])):=by kernel_rfl
theorem M0:O1 jn Q (m1+1) e0=(Ad e0 λB1 O2=>AZ B1 O2 λX3=>Bs B1 (O2+1) λX4=>A1 [.i 0] 3 λB5=>Bw 372 [.agg #[.l X3.a X3.n X3.c,.p X4],.l (some ⟨B5,0,none⟩) 1 1] λX6=>Aj (decide (X6>0)) (Ad e0 λB7 O8=>AZ B7 O8 λX9=>Bs B7 (O8+1) λX10=>TA 379 [.agg #[.l X9.a X9.n X9.c,.p X10],.i 0] λX11=>Ad e0 λB12 O13=>Bs B12 (O13+5) λX14=>Fy 192 [.p X14,.s X11] λX15 X16=>Aj (decide (X15>1)) (wz 371 [.p e0,.i 1,.s X11,.i 0]<|
 O1 jn Q m1 e0) (wz 376 [.p e0,.s X11]<|Ad e0 λB17 O18=>AZ B17 O18 λX19=>Bs B17 (O18+1) λX20=>wz 378 [.agg #[.l X19.a X19.n X19.c,.p X20],.i 2,.s X11]<|DF λm=>OB jn Q m1 m e0 X11)) (At1 jn Q)):=by kernel_rfl
theorem Ams:Av jn PR Gg Tryz.f373 [.p e0] Q=(DF λm=>O1 jn Q m e0):=by kernel_rfl
theorem Xy:OC jn Q (m1+1) e0=(Ad e0 λB1 O2=>AZ B1 O2 λX3=>Bs B1 (O2+1) λX4=>TA 379 [.agg #[.l X3.a X3.n X3.c,.p X4],.i 1] λX5=>Ad e0 λB6 O7=>Bs B6 (O7+5) λX8=>Fy 192 [.p X8,.s X5] λX9 X10=>Aj (X9==0) (wz 376 [.p e0,.s X5]<|Q (.s X5)) (wz 371 [.p e0,.i 1,.s X5,.i (IntKind.wrap .i64 (X9-1))]<|OC jn Q m1 e0)):=by kernel_rfl
theorem Amt:Av jn PR Acu Tryz.f374 [.p e0] Q=(DF λm=>OC jn Q m e0):=by kernel_rfl
theorem Amu:Av jn PR Aw Tryz.f376 [.p e0,.s key1] Q=(Ad e0 λB1 O2=>AZ B1 O2 λX3=>Bs B1 (O2+1) λX4=>wz 380 [.agg #[.l X3.a X3.n X3.c,.p X4],.s key1]<|Ad e0 λB5 O6=>Bs B5 (O6+5) λX7=>Fy 159 [.p X7,.s key1] λX8 X9=>Q (.tuple #[])):=by kernel_rfl
end Go.Proofs.YtjipofkjmmpjdaaGreat
namespace Go.Hb
section
variable{W0 w:World}{L M:List HP}{b:Nat}
theorem Abn{c cap s r s' r':Nat}{B B':Array Value}(h:Ab W0 w (Fz c (.chan cap B false s r false)::M)):Ab W0 (w.setChan c cap B' false s' r' false) (Fz c (.chan cap B' false s' r' false)::M):=by
 have hb:=h.objC;have hlt:c<w.heap.size:=(Array.getElem?_eq_some_iff.1 hb).1;refine h.swapC rfl rfl ?_ (λx y hx hy=>?_)
 ·simp[World.setChan,hlt]
 ·simp only[World.setChan];rw[Array.getElem?_setIfInBounds_ne (Ne.symm hx)];exact hy
end
end Go.Hb
namespace Go.Proofs.YtjipofkjmmpjdaaGreat
open Go.Conc Go.RowKit Go.Hb
set_option maxRecDepth 100000 in
theorem Y1{b o:Nat}(w:World)(h:w.cell? ⟨b,o+4,none⟩=some (.bool true)):Calls PR 200 #[pq b o] w λe w'=>e = .returned (.bool true)/\w'=w:=by
 refine calls_of_loneTo λcs=>?_;have e:Frame.enter PR 200 #[pq b o] .normal=(base 200).at ⟨#[pq b o,undef,undef,undef,undef,undef,undef,undef,undef,undef,undef,undef,undef,undef,undef,undef,undef,undef,undef,undef,undef,undef,undef,undef,undef],[]⟩ [.code (Tryz.f200.body.getD .skip)]:=by
  simp[Frame.enter,Frame.at,Tryz.func200,base,Tryz.f200]
 rw[e];refine LoneTo.goes (n:=18) ?_;simp only[Tryz.f200,Option.getD_some]
 s_c stepG_seq
 s_reg
 s_op
 s_c stepG_region_end
 s_c stepG_seq
 s_c stepG_seq
 s_reg
 s_op
 s_op
 s_op
 s_op
 s_c stepG_region_end
 s_cond true
 s_c stepG_seq
 s_reg
 s_op
 s_c stepG_region_end
 s_c stepG_ret'
 s_stop
 refine LoneTo.done ⟨.returned (.bool true),_,rfl,⟨rfl,?_⟩,rfl,rfl,rfl,rfl,_,Tryz.func200,by simp[results,Tryz.f200,Frame.at]⟩;rfl
set_option maxRecDepth 100000 in
theorem Tl{b o c cap s r:Nat}{tm:Bool}(w:World)(h:w.cell? ⟨b,o+4,none⟩=some (.bool false))(h0:w.cell? ⟨b,o,none⟩=some (.chan (some c)))(hc:w.heap[c]? = some (.chan cap #[] false s r tm)):Calls PR 200 #[pq b o] w λe w'=>e = .returned (.bool false)/\w'=w:=by
 refine calls_of_loneTo λcs=>?_;have e:Frame.enter PR 200 #[pq b o] .normal=(base 200).at ⟨#[pq b o,undef,undef,undef,undef,undef,undef,undef,undef,undef,undef,undef,undef,undef,undef,undef,undef,undef,undef,undef,undef,undef,undef,undef,undef],[]⟩ [.code (Tryz.f200.body.getD .skip)]:=by
  simp[Frame.enter,Frame.at,Tryz.func200,base,Tryz.f200]
 rw[e];refine LoneTo.goes (n:=24) ?_;simp only[Tryz.f200,Option.getD_some]
 s_c stepG_seq
 s_reg
 s_op
 s_c stepG_region_end
 s_c stepG_seq
 s_c stepG_seq
 s_reg
 s_op
 s_op
 s_op
 s_op
 s_c stepG_region_end
 s_cond false
 s_c stepG_skip
 s_c stepG_seq
 s_c stepG_seq
 s_reg
 s_op
 s_op
 s_op
 s_op
 s_c stepG_region_end
 s_c stepG_seq
 s_reg
 s_stop
 refine LoneTo.step (step_lone_select_default (c:=c) (z:=(.agg #[.i 0,.string ⟨#[]⟩,.i 0])) (cap:=cap) (s:=s) (r:=r) (tm:=tm) (stepG_comm (cases:=#[rcase c (.agg #[.i 0,.string ⟨#[]⟩,.i 0])]) (blocking:=false) (shape:=.select) (w':=w) rfl rfl (by decide) (by simp[go_sem,execOp,rcase,Act.eval])) hc) ?_;rw[Frame.finish_at]
 walk_nrm
 refine LoneTo.goes (n:=18) ?_
 s_op
 s_op
 s_c stepG_region_end
 s_c stepG_block
 s_cond false
 s_c stepG_skip
 s_c stepG_inBlock
 s_c stepG_seq
 s_reg
 s_op
 s_op
 s_op
 s_op
 s_op
 s_c stepG_region_end
 s_c stepG_ret'
 s_stop
 refine LoneTo.done ⟨.returned (.bool false),_,rfl,⟨rfl,?_⟩,rfl,rfl,rfl,rfl,_,Tryz.func200,by simp[results,Tryz.f200,Frame.at]⟩;rfl
def A2k(cs:List Value)(o:Nat)(k:Int)(key:BA)(n:Int):List Value:=(((cs.set (o+1) (.i k)).set (o+1+1) (.string key)).set (o+1+1+1) (.i n)).set (o+4) (.bool true)
set_option maxRecDepth 100000 in
theorem Tm{W w:World}{L:List HP}{b o c cap s r:Nat}{k n:Int}{key:BA}{cs buf:List Value}(hl:o+5<=cs.length)(h:cs[o+4]? = some (.bool false))(h0:cs[o]? = some (.chan (some c)))
  (hs:Ab W w (Fz c (.chan cap (.agg #[.i k,.string key,.i n]::buf).toArray false s r false)::blk b cs::L)):Calls PR 200 #[pq b o] w λe w'=>e = .returned (.bool true)/\Ab W w' (Fz c (.chan cap buf.toArray false s (r+1) false)::blk b (A2k cs o k key n)::L):=by
 have hc:=hs.objC;have h:=(hs.cell (q:=1) rfl).trans h;have h0:=(hs.cell (q:=1) rfl).trans h0;have hs1:=Abn (s':=s) (r':=r+1) (B':=buf.toArray) hs;generalize hw1:w.setChan c cap buf.toArray false s (r+1) false=w1 at *;have a1:w1.cell? ⟨b,o+1,none⟩=some cs[o+1]:=(hs1.cell (q:=1) rfl).trans (List.getElem?_eq_getElem (by omega));have f1:=hs1.frozen (q:=1) (b:=b) (o:=o+1) rfl (by omega);have hs2:=hs1.set (q:=1) (b:=b) (o:=o+1) (v:=.i k) rfl;have a2:=(hs2.cell (q:=1) rfl).trans (List.getElem?_eq_getElem (show o+1+1<_ by simp;omega))
 have f2:=hs2.frozen (q:=1) (b:=b) (o:=o+1+1) rfl (by simp;omega);have hs3:=hs2.set (q:=1) (b:=b) (o:=o+1+1) (v:=.string key) rfl;have a3:=(hs3.cell (q:=1) rfl).trans (List.getElem?_eq_getElem (show o+1+2<_ by simp;omega))
 have f3:=hs3.frozen (q:=1) (b:=b) (o:=o+1+2) rfl (by simp;omega);have hs4:=hs3.set (q:=1) (b:=b) (o:=o+1+2) (v:=.i n) rfl;have a4:=(hs4.cell (q:=1) rfl).trans (List.getElem?_eq_getElem (show o+4<_ by simp;omega))
 have f4:=hs4.frozen (q:=1) (b:=b) (o:=o+4) rfl (by simp;omega);have hs5:=hs4.set (q:=1) (b:=b) (o:=o+4) (v:=.bool true) rfl;obtain⟨w5,hw5⟩:∃w5,(((w1.setCell ⟨b,o+1,none⟩ (.i k)).setCell ⟨b,o+1+1,none⟩ (.string key)).setCell ⟨b,o+1+2,none⟩ (.i n)).setCell ⟨b,o+4,none⟩ (.bool true)=w5:=⟨_,rfl⟩;rw[hw5] at hs5;have h4:w5.cell? ⟨b,o+4,none⟩=some (.bool true):=(hs5.cell (q:=1) (o:=o+4) rfl).trans (by rw[List.getElem?_set_self (by simp;omega)])
 have hx:(Value.agg #[.i k,.string key,.i n]::buf).toArray.extract 1 (Value.agg #[.i k,.string key,.i n]::buf).toArray.size=buf.toArray:=by simp
 refine calls_of_loneTo λcs_=>?_;have e:Frame.enter PR 200 #[pq b o] .normal=(base 200).at ⟨#[pq b o,undef,undef,undef,undef,undef,undef,undef,undef,undef,undef,undef,undef,undef,undef,undef,undef,undef,undef,undef,undef,undef,undef,undef,undef],[]⟩ [.code (Tryz.f200.body.getD .skip)]:=by
  simp[Frame.enter,Frame.at,Tryz.func200,base,Tryz.f200]
 rw[e];clear e;refine LoneTo.goes (n:=24) ?_;simp only[Tryz.f200,Option.getD_some]
 s_c stepG_seq
 s_reg
 s_op
 s_c stepG_region_end
 s_c stepG_seq
 s_c stepG_seq
 s_reg
 s_op
 s_op
 s_op
 s_op
 s_c stepG_region_end
 s_cond false
 s_c stepG_skip
 s_c stepG_seq
 s_c stepG_seq
 s_reg
 s_op
 s_op
 s_op
 s_op
 s_c stepG_region_end
 s_c stepG_seq
 s_reg
 s_stop
 refine LoneTo.step (step_lone_select_recv_buf (c:=c) (z:=(.agg #[.i 0,.string ⟨#[]⟩,.i 0])) (stepG_comm (cases:=#[rcase c (.agg #[.i 0,.string ⟨#[]⟩,.i 0])]) (blocking:=false) (shape:=.select) (w':=w) rfl rfl (by decide) (by simp[go_sem,execOp,rcase,Act.eval])) hc (by simp)) ?_;rw[Frame.finish_at,hx,hw1]
 walk_nrm
 refine LoneTo.goes (n:=34) ?_
 s_op
 s_op
 s_c stepG_region_end
 s_c stepG_block
 s_cond true
 s_c stepG_seq
 s_reg
 s_op
 s_op
 s_op
 s_op
 s_op
 s_c stepG_region_end
 s_reg
 s_op
 s_op
 s_op
 s_op
 clear hw5
 s_c stepG_region_end
 s_c stepG_inBlock
 s_c stepG_seq
 s_reg
 s_op
 s_op
 s_op
 s_op
 s_op
 s_c stepG_region_end
 s_c stepG_ret'
 s_stop
 have hs6:=hs5;simp only[List.set_cons_succ,List.set_cons_zero] at hs6;clear hs hs1 hs2 hs3 hs4 hs5 a1 a2 a3 a4 f1 f2 f3 f4 h4;refine LoneTo.done ⟨.returned (.bool true),_,rfl,⟨rfl,by unfold A2k;exact hs6⟩,rfl,rfl,rfl,rfl,_,Tryz.func200,?_⟩
 simp[results,Tryz.f200,Frame.at]
set_option maxRecDepth 100000 in
theorem QO{W w:World}{L:List HP}{b o c cap s r:Nat}{kd n:Int}{key:BA}{cs buf:List Value}(hl:10<cs.length)(h0:cs[o]? = some (.chan (some c)))(hn:cs[10]? = some (.i n))(hr:buf.length<cap)
  (hs:Ab W w (Fz c (.chan cap buf.toArray false s r false)::blk b cs::L)):Calls PR 122 #[pq b 0,pq b o,.i kd,.string key] w λe w'=>e = .returned (.bool true)/\Ab W w' (Fz c (.chan cap (buf++[Value.agg #[.i kd,.string key,.i n]]).toArray false (s+1) r false)::blk b (cs.set 10 (.i (IntKind.wrap .i64 (n+1))))::L):=by
 have hc:=hs.objC;have h0:=(hs.cell (q:=1) rfl).trans h0;have hn0:=(hs.cell (q:=1) rfl).trans hn;have hs1:=Abn (s':=s+1) (r':=r) (B':=(buf++[Value.agg #[.i kd,.string key,.i n]]).toArray) hs;have hp:buf.toArray.push (Value.agg #[.i kd,.string key,.i n])=(buf++[Value.agg #[.i kd,.string key,.i n]]).toArray:=by simp
 generalize hw1:w.setChan c cap (buf++[Value.agg #[.i kd,.string key,.i n]]).toArray false (s+1) r false=w1 at *;have a1:=(hs1.cell (q:=1) rfl).trans hn;have f1:=hs1.frozen (q:=1) (b:=b) (o:=10) rfl (by omega);have hs2:=hs1.set (q:=1) (b:=b) (o:=10) (v:=.i (IntKind.wrap .i64 (n+1))) rfl;refine calls_of_loneTo λcs_=>?_;have e:Frame.enter PR 122 #[pq b 0,pq b o,.i kd,.string key] .normal=(base 122).at ⟨#[pq b 0,pq b o,.i kd,.string key,undef,undef,undef,undef,undef,undef,undef,undef,undef,undef,undef,undef,undef,undef,undef,undef,undef,undef,undef,undef,undef,undef,undef,undef,undef,undef,undef],[]⟩ [.code (Tryz.f122.body.getD .skip)]:=by
  simp[Frame.enter,Frame.at,Tryz.func122,base,Tryz.f122]
 rw[e];clear e;refine LoneTo.goes (n:=24) ?_;simp only[Tryz.f122,Option.getD_some]
 s_c stepG_seq
 s_reg
 s_op
 s_c stepG_region_end
 s_c stepG_seq
 s_c stepG_seq
 s_reg
 s_op
 s_op
 s_op
 s_op
 s_c stepG_region_end
 s_reg
 s_op
 s_op
 s_op
 s_op
 s_op
 s_op
 s_op
 s_op
 s_c stepG_region_end
 s_c stepG_seq
 s_reg
 s_stop
 refine LoneTo.step (step_lone_select_send_room (c:=c) (v:=(Value.agg #[.i kd,.string key,.i n])) (z':=(.agg #[.i 0,.string ⟨#[]⟩,.i 0])) (stepG_comm (cases:=#[scase c (Value.agg #[.i kd,.string key,.i n]) (.agg #[.i 0,.string ⟨#[]⟩,.i 0])]) (blocking:=false) (shape:=.select) (w':=w) rfl rfl (by decide) (by simp[go_sem,execOp,scase,Act.eval])) hc (by simpa using hr)) ?_;rw[Frame.finish_at,hp,hw1]
 walk_nrm
 refine LoneTo.goes (n:=30) ?_
 s_op
 s_op
 s_c stepG_region_end
 s_c stepG_block
 s_cond true
 s_c stepG_seq
 s_reg
 s_op
 s_op
 s_op
 s_op
 s_op
 s_op
 s_op
 s_op
 s_c stepG_region_end
 s_c stepG_seq
 s_reg
 s_op
 s_c stepG_region_end
 s_c stepG_ret'
 s_stop
 refine LoneTo.done ⟨.returned (.bool true),_,rfl,⟨rfl,hs2⟩,rfl,rfl,rfl,rfl,_,Tryz.func122,?_⟩;simp[results,Tryz.f122,Frame.at]
set_option maxRecDepth 100000 in
theorem QN{W w:World}{L:List HP}{b o c cap s r:Nat}{kd n:Int}{key:BA}{cs buf:List Value}(h0:cs[o]? = some (.chan (some c)))(hn:cs[10]? = some (.i n))(hr:cap<=buf.length)
  (hs:Ab W w (Fz c (.chan cap buf.toArray false s r false)::blk b cs::L)):Calls PR 122 #[pq b 0,pq b o,.i kd,.string key] w λe w'=>e = .returned (.bool false)/\w'=w:=by
 have hc:=hs.objC;have h0:=(hs.cell (q:=1) rfl).trans h0;have hn0:=(hs.cell (q:=1) rfl).trans hn;refine calls_of_loneTo λcs_=>?_;have e:Frame.enter PR 122 #[pq b 0,pq b o,.i kd,.string key] .normal=(base 122).at ⟨#[pq b 0,pq b o,.i kd,.string key,undef,undef,undef,undef,undef,undef,undef,undef,undef,undef,undef,undef,undef,undef,undef,undef,undef,undef,undef,undef,undef,undef,undef,undef,undef,undef,undef],[]⟩ [.code (Tryz.f122.body.getD .skip)]:=by
  simp[Frame.enter,Frame.at,Tryz.func122,base,Tryz.f122]
 rw[e];clear e;refine LoneTo.goes (n:=24) ?_;simp only[Tryz.f122,Option.getD_some]
 s_c stepG_seq
 s_reg
 s_op
 s_c stepG_region_end
 s_c stepG_seq
 s_c stepG_seq
 s_reg
 s_op
 s_op
 s_op
 s_op
 s_c stepG_region_end
 s_reg
 s_op
 s_op
 s_op
 s_op
 s_op
 s_op
 s_op
 s_op
 s_c stepG_region_end
 s_c stepG_seq
 s_reg
 s_stop
 refine LoneTo.step (step_lone_select_send_full (c:=c) (v:=(Value.agg #[.i kd,.string key,.i n])) (z':=(.agg #[.i 0,.string ⟨#[]⟩,.i 0])) (stepG_comm (cases:=#[scase c (Value.agg #[.i kd,.string key,.i n]) (.agg #[.i 0,.string ⟨#[]⟩,.i 0])]) (blocking:=false) (shape:=.select) (w':=w) rfl rfl (by decide) (by simp[go_sem,execOp,scase,Act.eval])) hc (by simpa using hr)) ?_;rw[Frame.finish_at]
 walk_nrm
 refine LoneTo.goes (n:=30) ?_
 s_op
 s_op
 s_c stepG_region_end
 s_c stepG_block
 s_cond false
 s_c stepG_seq
 s_reg
 s_op
 s_c stepG_region_end
 s_c stepG_ret'
 s_stop
 refine LoneTo.done ⟨.returned (.bool false),_,rfl,⟨rfl,rfl⟩,rfl,rfl,rfl,rfl,_,Tryz.func122,?_⟩;simp[results,Tryz.f122,Frame.at]
end Go.Proofs.YtjipofkjmmpjdaaGreat
namespace Go.Hb
structure Pl(V:Type) where
 is_:Int
 key:BA
 v:V
instance {V:Type} [Inhabited V]:Inhabited (Pl V):=⟨⟨0,⟨#[]⟩,default⟩⟩
def Cq{V:Type}(RV:Am V):Am (Pl V):=⟨2+RV.sz,λp=>.i p.is_::.s p.key::RV.cells p.v,λp=>by simp[RV.len];omega⟩
instance {V:Type} {RV:Am V}:GL (Cq RV):=⟨by show 0<2+_;omega⟩
section
variable{V:Type}[Inhabited V]
def Bo(ps:List (Pl V))(i:Nat):Int:=(ps.getD i default).is_
def Du(ps:List (Pl V))(i:Nat):BA:=(ps.getD i default).key
def AD(ps:List (Pl V))(k:BA):Nat->Option Nat->Nat->Nat×Bool
 | 0,_,i=>(i,false)
 | f+1,free,i=>
  if Bo ps i=2/\Du ps i=k then (i,true)
  else if Bo ps i=1/\free=none then AD ps k f (some i) ((i+1) % ps.length)
  else if Bo ps i=0 then (free.getD i,false)
  else AD ps k f free ((i+1) % ps.length)
def SN(ps:List (Pl V))(k:BA)(i:Nat):Prop:=Bo ps i=2/\Du ps i=k
theorem DC(i e n:Nat):((i+1) % n+e) % n=(i+(e+1)) % n:=by
 rw[Nat.mod_add_mod];congr 1;omega
theorem Jx(ps:List (Pl V))(k:BA):∀(f:Nat)(free:Option Nat)(i:Nat),i<ps.length->(AD ps k f free i).2=true->SN ps k (AD ps k f free i).1/\(AD ps k f free i).1<ps.length
 | 0,_,_,_,h=>by simp[AD] at h
 | f+1,free,i,hi,h=>by
  have hm:(i+1) % ps.length<ps.length:=Nat.mod_lt _ (by omega);unfold AD at h ⊢;split at h
  ·rename_i h1;rw[if_pos h1];exact⟨h1,hi⟩
  ·rename_i h1;rw[if_neg h1]
   split at h
   ·rename_i h2;rw[if_pos h2];exact Jx ps k f _ _ hm h
   ·rename_i h2;rw[if_neg h2]
    split at h
    ·simp at h
    ·rename_i h3;rw[if_neg h3];exact Jx ps k f _ _ hm h
theorem Ij(ps:List (Pl V))(k:BA):∀(f:Nat)(free:Option Nat)(i:Nat),i<ps.length->(∃e,e<f/\Bo ps ((i+e) % ps.length)=0)->(AD ps k f free i).2=false ->
  ∃d,Bo ps ((i+d) % ps.length)=0/\(∀e,e<d->Bo ps ((i+e) % ps.length)≠0/\¬SN ps k ((i+e) % ps.length)) /\
   (∀j,free=some j->(AD ps k f free i).1=j)/\(free=none->∃e,e<=d/\(AD ps k f free i).1=(i+e) % ps.length/\Bo ps ((i+e) % ps.length)≠2)
 | 0,_,_,_,⟨e,he,_⟩,_=>by omega
 | f+1,free,i,hi,⟨e,he,hz⟩,h=>by
  have hm:(i+1) % ps.length<ps.length:=Nat.mod_lt _ (by omega);have hi0:(i+0) % ps.length=i:=by rw[Nat.add_zero,Nat.mod_eq_of_lt hi]
  have next:Bo ps i≠0->∃e',e'<f/\Bo ps (((i+1) % ps.length+e') % ps.length)=0:=by
   intro hne;cases e with
   | zero=>rw[hi0] at hz;exact absurd hz hne
   | succ e=>exact⟨e,by omega,by rw[DC];exact hz⟩
  unfold AD at h ⊢;split at h
  ·simp at h
  rename_i h1;rw[if_neg h1];split at h
  ·rename_i h2;rw[if_pos h2];obtain⟨d,d1,d2,d3,d4⟩:=Ij ps k f (some i) _ hm (next (by rw[h2.1];decide)) h
   refine⟨d+1,by rw[DC] at d1;exact d1,λe he=>?_,λj hj=>(by rw[h2.2] at hj;cases hj),λ_=>?_⟩
   ·cases e with
    | zero=>rw[hi0];exact⟨by rw[h2.1];decide,h1⟩
    | succ e=>have:=d2 e (by omega);rw[DC] at this;exact this
   ·exact⟨0,by omega,by rw[hi0];exact d3 i rfl,by rw[hi0,h2.1];decide⟩
  ·rename_i h2;rw[if_neg h2];split at h
   ·rename_i h3;rw[if_pos h3];refine⟨0,by rw[hi0];exact h3,λe he=>by omega,λj hj=>by rw[hj];rfl,λhf=>⟨0,by omega,by rw[hf,hi0];rfl,by rw[hi0,h3];decide⟩⟩
   ·rename_i h3;rw[if_neg h3];obtain⟨d,d1,d2,d3,d4⟩:=Ij ps k f free _ hm (next h3) h;refine⟨d+1,by rw[DC] at d1;exact d1,λe he=>?_,d3,λhf=>?_⟩
    ·cases e with
     | zero=>rw[hi0];exact⟨h3,h1⟩
     | succ e=>have:=d2 e (by omega);rw[DC] at this;exact this
    ·obtain⟨e,e1,e2,e3⟩:=d4 hf;exact⟨e+1,by omega,by rw[e2,DC],by rw[DC] at e3;exact e3⟩
def Em(p:Pl V):List (BA×V):=if p.is_=2 then [(p.key,p.v)] else []
theorem Fk{p:Pl V}(h:p.is_=2):Em p=[(p.key,p.v)]:=if_pos h
theorem He{p:Pl V}(h:p.is_≠2):Em p=[]:=if_neg h
def AQ(ps:List (Pl V)):List (BA×V):=ps.flatMap Em
theorem Bz(a b:List (Pl V)):AQ (a++b)=AQ a++AQ b:=by simp[AQ]
theorem QB{α:Type}[Inhabited α]{l:List α}{i:Nat}(h:i<l.length):l=l.take i++l.getD i default::l.drop (i+1):=by
 rw[List.getD_eq_getElem?_getD,List.getElem?_eq_getElem h];simp
theorem L2{α:Type}{l:List α}{i:Nat}(h:i<l.length)(a:α):l.set i a=l.take i++a::l.drop (i+1):=by
 rw[List.set_eq_take_append_cons_drop,if_pos h]
theorem P3{ps:List (Pl V)}{i:Nat}(h:i<ps.length):(AQ ps).Perm (Em (ps.getD i default)++AQ (ps.take i++ps.drop (i+1))):=by
 have:AQ ps=AQ (ps.take i)++(Em (ps.getD i default)++AQ (ps.drop (i+1))):=by
  conv=>lhs;rw[QB h]
  rw[Bz];rfl
 rw[this,Bz];rw[<- List.append_assoc,<- List.append_assoc];exact List.Perm.append_right _ List.perm_append_comm
theorem Lh{ps:List (Pl V)}{i:Nat}(h:i<ps.length)(p:Pl V):(AQ (ps.set i p)).Perm (Em p++AQ (ps.take i++ps.drop (i+1))):=by
 have:AQ (ps.set i p)=AQ (ps.take i)++(Em p++AQ (ps.drop (i+1))):=by
  rw[L2 h,Bz];rfl
 rw[this,Bz];rw[<- List.append_assoc,<- List.append_assoc];exact List.Perm.append_right _ List.perm_append_comm
def A7(ps:List (Pl V)):Nat:=ps.countP λp=>decide (p.is_≠0)
theorem Bj{ps:List (Pl V)}{i:Nat}(h:i<ps.length)(p:Pl V)(hp:p.is_≠0):A7 (ps.set i p)=A7 ps+(if Bo ps i=0 then 1 else 0):=by
 have h1:A7 ps=A7 (ps.take i)+((if Bo ps i=0 then 0 else 1)+A7 (ps.drop (i+1))):=by
  conv=>lhs;rw[QB h]
  unfold A7 Bo;rw[List.countP_append,List.countP_cons]
  by_cases h0:(ps.getD i default).is_=0 <;> simp[h0] <;> omega
 have h2:A7 (ps.set i p)=A7 (ps.take i)+(1+A7 (ps.drop (i+1))):=by
  rw[L2 h];unfold A7;rw[List.countP_append,List.countP_cons];simp[hp];omega
 rw[h1,h2];split <;> omega
theorem YQ{ps:List (Pl V)}(h:A7 ps<ps.length):∃i,i<ps.length/\Bo ps i=0:=by
 unfold A7 at h
 induction ps with
 | nil=>simp at h
 | cons p ps ih=>
  by_cases hp:p.is_=0
  ·exact⟨0,by simp,hp⟩
  ·rw[List.countP_cons,if_pos (by simp[hp])] at h;simp only[List.length_cons] at h;obtain⟨i,hi,hz⟩:=ih (by omega);exact⟨i+1,by simpa using hi,hz⟩
theorem PB{ps:List (Pl V)}{i j:Nat}(h:i<ps.length)(p:Pl V):Bo (ps.set i p) j=if j=i then p.is_ else Bo ps j:=by
 unfold Bo;rw[List.getD_eq_getElem?_getD,List.getElem?_set,List.getD_eq_getElem?_getD]
 by_cases e:i=j
 ·subst e;simp[h]
 ·rw[if_neg e,if_neg (Ne.symm e)]
theorem SR{ps:List (Pl V)}{i j:Nat}(h:i<ps.length)(p:Pl V):Du (ps.set i p) j=if j=i then p.key else Du ps j:=by
 unfold Du;rw[List.getD_eq_getElem?_getD,List.getElem?_set,List.getD_eq_getElem?_getD]
 by_cases e:i=j
 ·subst e;simp[h]
 ·rw[if_neg e,if_neg (Ne.symm e)]
structure BU(st:BA->Nat)(ps:List (Pl V))(m:List (BA×V)):Prop where
 big:8<=ps.length
 small:ps.length<4611686018427387904
 start:∀k,st k<ps.length
 perm:(AQ ps).Perm m
 nodup:(m.map (·.1)).Nodup
 reach:∀i,i<ps.length->Bo ps i=2->∃e,i=(st (Du ps i)+e) % ps.length/\∀e',e'<e->Bo ps ((st (Du ps i)+e') % ps.length)≠0
 room:A7 ps<ps.length
section
variable{st:BA->Nat}{ps:List (Pl V)}{m:List (BA×V)}
theorem BU.stop(h:BU st ps m)(k:BA):∃e,e<ps.length/\Bo ps ((st k+e) % ps.length)=0:=by
 obtain⟨i,hi,hz⟩:=YQ h.room;have hs:=h.start k
 by_cases hle:st k<=i
 ·exact⟨i-st k,by omega,by rw[show st k+(i-st k)=i by omega,Nat.mod_eq_of_lt hi];exact hz⟩
 ·refine⟨i+ps.length-st k,by omega,?_⟩;rw[show st k+(i+ps.length-st k)=i+ps.length by omega,Nat.add_mod_right,Nat.mod_eq_of_lt hi];exact hz
def AI(st:BA->Nat)(ps:List (Pl V))(k:BA):Nat×Bool:=AD ps k ps.length none (st k)
theorem Aof{i:Nat}(hi:i<ps.length)(h2:Bo ps i=2):(Du ps i,(ps.getD i default).v)∈AQ ps:=by
 refine(P3 hi).symm.subset ?_;have:Em (ps.getD i default)=[(Du ps i,(ps.getD i default).v)]:=Fk h2;rw[this];simp
theorem Anf{e:BA×V}(h:e∈AQ ps):∃i,i<ps.length/\Bo ps i=2/\Du ps i=e.1/\(ps.getD i default).v=e.2:=by
 unfold AQ at h;rw[List.mem_flatMap] at h;obtain⟨p,hp,he⟩:=h;obtain⟨i,hi,rfl⟩:=List.mem_iff_getElem.1 hp;unfold Em at he;split at he
 ·rename_i h2;simp only[List.mem_singleton] at he;have hg:ps.getD i default=ps[i]:=by rw[List.getD_eq_getElem?_getD,List.getElem?_eq_getElem hi];rfl
  refine⟨i,hi,by unfold Bo;rw[hg];exact h2,by unfold Du;rw[hg,he],by rw[hg,he]⟩
 ·cases he
def AC(m:List (BA×V))(k:BA):Option V:=(m.find? λe=>decide (e.1=k)).map (·.2)
theorem BD{k:BA}{v:V}(hn:(m.map (·.1)).Nodup):AC m k=some v↔(k,v)∈m:=by
 unfold AC
 induction m with
 | nil=>simp
 | cons e m ih=>
  simp only[List.map_cons,List.nodup_cons] at hn;rw[List.find?_cons]
  by_cases he:e.1=k
  ·subst he;simp only[decide_true,Option.map_some,Option.some.injEq];constructor
   ·rintro rfl;simp
   ·intro h;rcases List.mem_cons.1 h with h|h
    ·exact(congrArg Prod.snd h).symm
    ·exact absurd (List.mem_map_of_mem (f:=(·.1)) h) hn.1
  ·simp only[he,decide_false];rw[ih hn.2];constructor
   ·exact λh=>List.mem_cons_of_mem _ h
   ·intro h;rcases List.mem_cons.1 h with h|h
    ·subst h;exact absurd rfl he
    ·exact h
theorem Br{k:BA}:AC m k=none↔∀e∈m,e.1≠k:=by
 unfold AC;simp
theorem Af7{m':List (BA×V)}(hn:(m.map (·.1)).Nodup)(hp:m.Perm m')(k:BA):AC m k=AC m' k:=by
 have hn':(m'.map (·.1)).Nodup:=(hp.map _).nodup_iff.1 hn;cases h:AC m k with
 | some v=>exact((BD hn').2 (hp.subset ((BD hn).1 h))).symm
 | none=>exact(Br.2 λe he=>Br.1 h e (hp.symm.subset he)).symm
theorem BU.hit(h:BU st ps m){k:BA}(hf:(AI st ps k).2=true):(AI st ps k).1<ps.length/\SN ps k (AI st ps k).1/\AC m k=some (ps.getD (AI st ps k).1 default).v:=by
 obtain⟨h1,h2⟩:=Jx ps k ps.length none (st k) (h.start k) hf;refine⟨h2,h1,(BD h.nodup).2 ?_⟩;have:=Aof (i:=(AI st ps k).1) h2 h1.1;rw[show Du ps (AI st ps k).1=k from h1.2] at this;exact h.perm.subset this
theorem BU.miss(h:BU st ps m){k:BA}(hf:(AI st ps k).2=false):(AI st ps k).1<ps.length/\Bo ps (AI st ps k).1≠2/\AC m k=none /\
  ∃e,(AI st ps k).1=(st k+e) % ps.length/\∀e',e'<e->Bo ps ((st k+e') % ps.length)≠0:=by
 obtain⟨d,d1,d2,_,d4⟩:=Ij ps k ps.length none (st k) (h.start k) (h.stop k) hf;obtain⟨e,e1,e2,e3⟩:=d4 rfl;have hp:0<ps.length:=by have:=h.big;omega
 have hfe:(AI st ps k).1=(st k+e) % ps.length:=e2;refine⟨by rw[hfe];exact Nat.mod_lt _ hp,by rw[hfe];exact e3,?_,e,hfe,λe' he'=>(d2 e' (by omega)).1⟩
 rw[Br];intro x hx hk;obtain⟨i,hi,i2,ik,_⟩:=Anf (h.perm.symm.subset hx);obtain⟨a,a1,a2⟩:=h.reach i hi i2;rw[ik,hk] at a1 a2
 by_cases hda:d<a
 ·exact a2 d hda d1
 ·by_cases hde:d=a
  ·subst hde;rw[<- a1,i2] at d1;cases d1
  ·have:=(d2 a (by omega)).2;rw[<- a1] at this;exact this ⟨i2,by rw[ik,hk]⟩
def E4(m:List (BA×V))(k:BA)(v:V):List (BA×V):=m.map λe=>if e.1=k then (k,v) else e
def BJ(m:List (BA×V))(k:BA):List (BA×V):=m.filter λe=>decide (e.1≠k)
def Ci(m:List (BA×V))(k:BA)(v:V):List (BA×V):=match AC m k with
 | some _=>E4 m k v
 | none=>(k,v)::m
theorem Lu(m:List (BA×V))(k:BA)(v:V):(E4 m k v).map (·.1)=m.map (·.1):=by
 unfold E4;rw[List.map_map];apply List.map_congr_left;intro e _;simp only[Function.comp];split
 ·rename_i h;exact h.symm
 ·rfl
theorem Y3{j:Nat}{k:BA}(hj:j<ps.length)(hit:SN ps k j)(hp:(AQ ps).Perm m):((k,(ps.getD j default).v)::AQ (ps.take j++ps.drop (j+1))).Perm m:=by
 have h1:=(P3 hj).symm.trans hp;have:Em (ps.getD j default)=[(k,(ps.getD j default).v)]:=by rw[<- hit.2];exact Fk hit.1
 rw[this] at h1;exact h1
theorem BU.set(h:BU st ps m){k:BA}{v:V}{j:Nat}(hj:j<ps.length)(hit:SN ps k j):BU st (ps.set j { ps.getD j default with v:=v }) (E4 m k v):=by
 have h0:=Y3 hj hit h.perm;have hn:=(h0.map (·.1)).nodup_iff.2 h.nodup;simp only[List.map_cons,List.nodup_cons] at hn;have hset:(AQ (ps.set j { ps.getD j default with v:=v })).Perm ((k,v)::AQ (ps.take j++ps.drop (j+1))):=by
  have:=Lh hj { ps.getD j default with v:=v };have e:Em { ps.getD j default with v:=v }=[(k,v)]:=by rw[<- hit.2];exact Fk (p:={ ps.getD j default with v:=v }) hit.1
  rw[e] at this;exact this
 have hm:(E4 m k v).Perm ((k,v)::AQ (ps.take j++ps.drop (j+1))):=by
  have h1:(E4 m k v).Perm (E4 ((k,(ps.getD j default).v)::AQ (ps.take j++ps.drop (j+1))) k v):=(h0.map _).symm;refine h1.trans ?_;unfold E4;rw[List.map_cons,if_pos rfl];rw[List.map_congr_left (g:=id) (λe he=>?_),List.map_id];rw[if_neg];rfl
  intro hk;exact hn.1 (by rw[<- hk];exact List.mem_map_of_mem he)
 have hi:∀x,Bo (ps.set j { ps.getD j default with v:=v }) x=Bo ps x:=by
  intro x;rw[PB hj];split
  ·rename_i e;subst e;rfl
  ·rfl
 have hk:∀x,Du (ps.set j { ps.getD j default with v:=v }) x=Du ps x:=by
  intro x;rw[SR hj];split
  ·rename_i e;subst e;rfl
  ·rfl
 refine⟨by rw[List.length_set];exact h.big,by rw[List.length_set];exact h.small,by rw[List.length_set];exact h.start,hset.trans hm.symm,by rw[Lu];exact h.nodup,?_,?_⟩
 ·intro i hil h2;rw[List.length_set] at hil ⊢;rw[hi] at h2;simp only[hi,hk];exact h.reach i hil h2
 ·rw[Bj hj _ (by show Bo ps j≠0;rw[hit.1];decide),List.length_set,if_neg (by rw[hit.1];decide)];exact h.room
theorem Tt{p:Pl V}{j:Nat}(h:BU st ps m)(hj:j<ps.length)(hp:p.is_≠0)(hnew:p.is_=2->∃e,j=(st p.key+e) % ps.length/\∀e',e'<e->Bo ps ((st p.key+e') % ps.length)≠0) :
  ∀i,i<(ps.set j p).length->Bo (ps.set j p) i=2->∃e,i=(st (Du (ps.set j p) i)+e) % (ps.set j p).length/\∀e',e'<e->Bo (ps.set j p) ((st (Du (ps.set j p) i)+e') % (ps.set j p).length)≠0:=by
 intro i hi h2;rw[List.length_set] at hi ⊢;have mono:∀x,Bo ps x≠0->Bo (ps.set j p) x≠0:=by
  intro x hx;rw[PB hj];split
  ·exact hp
  ·exact hx
 rw[PB hj] at h2;rw[SR hj]
 by_cases e:i=j
 ·subst e;rw[if_pos rfl] at h2 ⊢;obtain⟨e,e1,e2⟩:=hnew h2;exact⟨e,e1,λe' he'=>mono _ (e2 e' he')⟩
 ·rw[if_neg e] at h2 ⊢;obtain⟨e,e1,e2⟩:=h.reach i hi h2;exact⟨e,e1,λe' he'=>mono _ (e2 e' he')⟩
theorem BU.add(h:BU st ps m){k:BA}{v:V}{j:Nat}(hj:j<ps.length)(h2:Bo ps j≠2)(hno:AC m k=none)
  (hr:∃e,j=(st k+e) % ps.length/\∀e',e'<e->Bo ps ((st k+e') % ps.length)≠0) (hroom:A7 ps+1<ps.length):BU st (ps.set j ⟨2,k,v⟩) ((k,v)::m):=by
 have hfull:(AQ (ps.set j ⟨2,k,v⟩)).Perm ((k,v)::m):=by
  have h1:=Lh hj (⟨2,k,v⟩:Pl V);have h3:=(P3 hj).symm.trans h.perm;have e1:Em (⟨2,k,v⟩:Pl V)=[(k,v)]:=rfl;have e2:Em (ps.getD j default)=[]:=He h2;rw[e1] at h1;rw[e2,List.nil_append] at h3;exact h1.trans (List.Perm.cons _ h3)
 refine⟨by rw[List.length_set];exact h.big,by rw[List.length_set];exact h.small,by rw[List.length_set];exact h.start,hfull,?_,Tt h hj (by show(2:Int)≠0;decide) (λ_=>hr),?_⟩
 ·rw[List.map_cons,List.nodup_cons];refine⟨λhm=>?_,h.nodup⟩;rw[List.mem_map] at hm;obtain⟨e,he,hk⟩:=hm;exact Br.1 hno e he hk
 ·rw[Bj hj _ (by show(2:Int)≠0;decide),List.length_set];split <;> omega
theorem BU.del(h:BU st ps m){k:BA}{z:Pl V}{j:Nat}(hj:j<ps.length)(hit:SN ps k j)(hz:z.is_=1):BU st (ps.set j z) (BJ m k):=by
 have h0:=Y3 hj hit h.perm;have hn:=(h0.map (·.1)).nodup_iff.2 h.nodup;simp only[List.map_cons,List.nodup_cons] at hn;have hset:(AQ (ps.set j z)).Perm (AQ (ps.take j++ps.drop (j+1))):=by
  have:=Lh hj z;have e:Em z=[]:=by unfold Em;rw[if_neg (by rw[hz];decide)]
  rw[e] at this;exact this
 have hm:(BJ m k).Perm (AQ (ps.take j++ps.drop (j+1))):=by
  have h1:(BJ m k).Perm (BJ ((k,(ps.getD j default).v)::AQ (ps.take j++ps.drop (j+1))) k):=(h0.filter _).symm;refine h1.trans ?_;unfold BJ;rw[List.filter_cons_of_neg (by simp)];rw[List.filter_eq_self.2];intro e he;simp only[ne_eq,decide_not,Bool.not_eq_eq_eq_not,Bool.not_true,decide_eq_false_iff_not];intro hk;exact hn.1 (by rw[<- hk];exact List.mem_map_of_mem he)
 refine⟨by rw[List.length_set];exact h.big,by rw[List.length_set];exact h.small,by rw[List.length_set];exact h.start,hset.trans hm.symm,?_,Tt h hj (by rw[hz];decide) (λh2=>by rw[hz] at h2;cases h2),?_⟩
 ·exact(List.Nodup.sublist ((List.filter_sublist).map _) h.nodup)
 ·rw[Bj hj _ (by rw[hz];decide),List.length_set,if_neg (by rw[hit.1];decide)];exact h.room
theorem K7(hn:(m.map (·.1)).Nodup){k:BA}{v:V}(h:AC m k=some v):(BJ m k).length+1=m.length:=by
 have hm:=(BD hn).1 h;obtain⟨a,b,rfl⟩:=List.append_of_mem hm;unfold BJ;simp only[List.map_append,List.map_cons] at hn;rw[List.nodup_append] at hn;simp only[List.nodup_cons] at hn;rw[List.filter_append,List.filter_cons_of_neg (by simp),List.filter_eq_self.2,List.filter_eq_self.2]
 ·simp;omega
 ·intro e he;simp only[ne_eq,decide_not,Bool.not_eq_eq_eq_not,Bool.not_true,decide_eq_false_iff_not];rintro rfl;exact hn.2.1.1 (List.mem_map_of_mem he)
 ·intro e he;simp only[ne_eq,decide_not,Bool.not_eq_eq_eq_not,Bool.not_true,decide_eq_false_iff_not];rintro rfl;exact hn.2.2 _ (List.mem_map_of_mem he) e.1 (by simp) rfl
theorem BU.new{n:Nat}{z:Pl V}(hz:z.is_=0)(h8:8<=n)(hn:n<4611686018427387904)(hst:∀k,st k<n):BU st (List.replicate n z) []:=by
 have hu:A7 (List.replicate n z)=0:=by
  unfold A7;rw[List.countP_eq_zero]
  intro a ha;rw[List.eq_of_mem_replicate ha];simp[hz]
 refine⟨by simpa using h8,by simpa using hn,by simpa using hst,?_,by simp,?_,by rw[hu];simp;omega⟩
 ·have:AQ (List.replicate n z)=[]:=by
   unfold AQ;rw[List.flatMap_eq_nil_iff]
   intro a ha;rw[List.eq_of_mem_replicate ha];unfold Em;rw[if_neg (by rw[hz];decide)]
  rw[this]
 ·intro i hi h2;rw[List.length_replicate] at hi;unfold Bo at h2;rw[List.getD_eq_getElem?_getD,List.getElem?_eq_getElem (by simpa using hi)] at h2;simp only[List.getElem_replicate,Option.getD_some,hz] at h2;cases h2
end
end
end Go.Hb
namespace Go.Hb
def Aav(x0:Int):Int:=
 (bits .xor .u64 (IntKind.wrap .u64 ((bits .xor .u64 (IntKind.wrap .u64 ((bits .xor .u64 x0 (C8 .u64 x0 (30:Int)))*(13787848793156543929:Int))) (C8 .u64 (IntKind.wrap .u64 ((bits .xor .u64 x0 (C8 .u64 x0 (30:Int)))*(13787848793156543929:Int))) (27:Int)))*(10723151780598845931:Int))) (C8 .u64 (IntKind.wrap .u64 ((bits .xor .u64 (IntKind.wrap .u64 ((bits .xor .u64 x0 (C8 .u64 x0 (30:Int)))*(13787848793156543929:Int))) (C8 .u64 (IntKind.wrap .u64 ((bits .xor .u64 x0 (C8 .u64 x0 (30:Int)))*(13787848793156543929:Int))) (27:Int)))*(10723151780598845931:Int))) (31:Int)))
theorem Adj(x:Int):0<=Aav x/\Aav x<=18446744073709551615:=by
 have h:(Lit.int .u64 (Aav x)).wf=true:=wf_bits _ _ _ _;generalize Aav x=n at h;simpa[Lit.wf,IntKind.min,IntKind.max,IntKind.signed,IntKind.bits] using h
def P9(s:BA):Nat->Nat->Int->Int
 | 0,_,h=>h
 | m+1,i,h=>P9 s m (i+1) (Aav (IntKind.wrap .u64 ((bits .xor .u64 h (IntKind.wrap .u64 (AV s i)))+(11400714819323198485:Int))))
def Yd(seed:Int)(s:BA):Int:=P9 s s.size 0 (Aav (bits .xor .u64 seed (IntKind.wrap .u64 (s.size:Int))))
noncomputable def EF(seed:Int)(s:BA):Int:=Classical.choose (⟨Yd seed s,rfl⟩:∃x,x=Yd seed s)
theorem Yc(seed:Int)(s:BA):EF seed s=Yd seed s:=Classical.choose_spec (⟨Yd seed s,rfl⟩:∃x,x=Yd seed s)
theorem SM(s:BA):∀(m i:Nat)(h:Int),(0<=h/\h<=18446744073709551615)->0<=P9 s m i h/\P9 s m i h<=18446744073709551615
 | 0,_,_,h=>h
 | m+1,i,_,_=>SM s m (i+1) _ (Adj _)
theorem FM(seed:Int)(s:BA):0<=EF seed s/\EF seed s<=18446744073709551615:=by
 rw[Yc];exact SM s _ _ _ (Adj _)
noncomputable def A0(seed:Int)(n:Nat)(k:BA):Nat:=(EF seed k).toNat % n
theorem IW(seed:Int)(n:Nat)(k:BA):(EF seed k).toNat % n=A0 seed n k:=by unfold A0;rfl
theorem CA{seed:Int}{n:Nat}(h:0<n)(k:BA):A0 seed n k<n:=Nat.mod_lt _ h
def Am.ii:Am (Int×Int):=⟨2,λv=>[.i v.1,.i v.2],λ_=>rfl⟩
def Am.iii:Am (Int×Int×Int):=⟨3,λv=>[.i v.1,.i v.2.1,.i v.2.2],λ_=>rfl⟩
def Am.si:Am (BA×Int):=⟨2,λv=>[.s v.1,.i v.2],λ_=>rfl⟩
def Lg:Option Nat->Int
 | some j=>(j:Int)
 | none=>-1
theorem Gi(f:Option Nat):Lg f<0↔f=none:=by
 cases f with
 | none=>simp[Lg]
 | some j=>simp[Lg]
section
variable{V:Type}[Inhabited V]
noncomputable def ixr(RV:Am V)(b:Nat)(seed:Int)(m:List (BA×V)):HP:=
 JM λ(x:Sl×List (Pl V))=>EA (BU (A0 seed x.2.length) x.2 m/\2*A7 x.2<=x.2.length)
  (AJ [blk b [.int .u64 seed,.l x.1.a x.1.n x.1.c,.i (m.length:Int),.i (A7 x.2:Int)],recs (Cq RV) x.1 x.2])
variable{RV:Am V}{b:Nat}{seed:Int}{m:List (BA×V)}{W w:World}{M L:List HP}
instance At.ixr:At (ixr RV b seed m::L) b (ixr RV b seed m) (λx=>x::L):=⟨DU⟩
theorem Cx(h:Ab W w (ixr RV b seed m::M)):∃(s:Sl) (ps:List (Pl V)),BU (A0 seed ps.length) ps m/\2*A7 ps<=ps.length/\s.n=ps.length /\
  Ab W w (blk b [.int .u64 seed,.l s.a s.n s.c,.i (m.length:Int),.i (A7 ps:Int)]::recs (Cq RV) s ps::M):=by
 obtain⟨⟨s,ps⟩,h⟩:=h.openE;obtain⟨⟨h1,h2⟩,h⟩:=h.openA;have h:=h.openL;have h:Ab W w (blk b [.int .u64 seed,.l s.a s.n s.c,.i (m.length:Int),.i (A7 ps:Int)]::recs (Cq RV) s ps::M):=h;exact⟨s,ps,h1,h2,(Bx (s:=s) h (GL.pos)).1,h⟩
theorem AW(s:Sl){ps:List (Pl V)}{n u:Int}(h1:BU (A0 seed ps.length) ps m)(h2:2*A7 ps<=ps.length)(hn:n=m.length)(hu:u=A7 ps)
  (h:Ab W w (blk b [.int .u64 seed,.l s.a s.n s.c,.i n,.i u]::recs (Cq RV) s ps::M)):Ab W w (ixr RV b seed m::M):=by
 subst hn hu;exact Ab.shutE (s,ps) (Ab.shutA ⟨h1,h2⟩ (Ab.shutL (Ps:=[_,_]) h))
theorem BU.perm'{st:BA->Nat}{ps:List (Pl V)}{m m':List (BA×V)}(h:BU st ps m)(hp:m.Perm m'):BU st ps m':=
 ⟨h.big,h.small,h.start,h.perm.trans hp,(hp.map _).nodup_iff.1 h.nodup,h.reach,h.room⟩
theorem Ano{m':List (BA×V)}(hp:m.Perm m')(h:Ab W w (ixr RV b seed m::M)):Ab W w (ixr RV b seed m'::M):=by
 obtain⟨s,ps,h1,h2,_,h⟩:=Cx h;exact AW s (h1.perm' hp) h2 (by rw[hp.length_eq]) rfl h
theorem Afn(h:Ab W w (ixr RV b seed m::M)):(m.map (·.1)).Nodup:=by
 obtain⟨s,ps,h1,_⟩:=Cx h;exact h1.nodup
theorem DE{α:Type}(E:Am α)(z:α):∀n,CX (E.cells z) n=E.flat (List.replicate n z)
 | 0=>rfl
 | n+1=>by rw[CX,DE E z n,List.replicate_succ];rfl
theorem V3{α:Type}[Inhabited α]{E:Am α}{b o i n j:Nat}{s:Sl}{rows:List α}{F:HP->List HP}{vs pre mid tl:List Value}{a':α}{K:WP}(h:Ab W w L)[hA:At L b (reca E b o s rows) F](hn:n=E.sz)(hi:i<rows.length)
  (ha:E.cells (rows.getD i default)=pre++mid++tl) (hj:pre.length=j) (hm:mid.length=vs.length) (ha':E.cells a'=pre++vs++tl) (hK:∀w',Ab W w' (F (reca E b o s (rows.set i a')))->K w'):sts vs b (o+i*n+j) K w:=by
 subst hn hj;refine At.one (hA:=hA) h λM h hb=>?_;have hsa:s.a=some ⟨b,o,none⟩:=h.pure (q:=0) rfl λ_ hg=>hg.1;have h':=h.turn (q:=0) (p':=recs E s rows) rfl λ_ hg=>hg.2;obtain⟨pr,tl2,hp,hl,hn,ht,h2⟩:=h'.openS (q:=0) rfl hsa;have h2:Ab W w (blk b (pr++E.flat rows++tl2)::M):=h2;have hr:rows=rows.take i++rows.getD i default::rows.drop (i+1):=QB hi;have hfr:E.flat rows=E.flat (rows.take i)++(E.cells (rows.getD i default)++E.flat (rows.drop (i+1))):=by
  have h:=congrArg E.flat hr;rw[Am.flat_append] at h;exact h
 have hfs:E.flat (rows.set i a')=E.flat (rows.take i)++(E.cells a'++E.flat (rows.drop (i+1))):=by
  rw[L2 hi,Am.flat_append];rfl
 rw[hfr,ha] at h2;have e1:pr++(E.flat (rows.take i)++(pre++mid++tl++E.flat (rows.drop (i+1))))++tl2=(pr++E.flat (rows.take i)++pre)++mid++(tl++E.flat (rows.drop (i+1))++tl2):=by simp only[List.append_assoc]
 have e2:pr++(E.flat (rows.take i)++(pre++vs++tl++E.flat (rows.drop (i+1))))++tl2=(pr++E.flat (rows.take i)++pre)++vs++(tl++E.flat (rows.drop (i+1))++tl2):=by simp only[List.append_assoc]
 rw[e1] at h2;have hpl:(pr++E.flat (rows.take i)++pre).length=o+i*E.sz+pre.length:=by
  rw[List.length_append,List.length_append,hp,Am.flat_length,List.length_take,Nat.min_eq_left (by omega)]
 rw[<- hpl];refine OO 0 vs w _ _ mid _ K h2 rfl hm λw' h3=>hK w' (hb _ _ ?_);have h3:Ab W w' (blk b ((pr++E.flat (rows.take i)++pre)++vs++(tl++E.flat (rows.drop (i+1))++tl2))::M):=h3;rw[<- e2,<- ha',<- hfs] at h3;have h4:=h3.shutS (q:=0) (s:=s) (sz:=E.sz) rfl hsa hp (by rw[Am.flat_length,List.length_set,<- Am.flat_length];exact hl) hn ht
 exact h4.turn (q:=0) rfl λ_ hg=>⟨hsa,hg⟩
end
end Go.Hb
namespace Go.Hb
open Go.Sort Go.Proofs
section
variable{W0 w w':World}{L M:List HP}{F:HP->List HP}{b:Nat}
theorem Ab.write{cs cs':List Value}(h:Ab W0 w (blk b cs::M))(ho:w'.os=w.os)(hu:w'.output=w.output)(hoth:∀x o,x≠b->w.heap[x]? = some o->w'.heap[x]? = some o)
  (hb:∀T fr,w.heap[b]? = some (.cells cs.toArray T fr)->w'.heap[b]? = some (.cells cs'.toArray T fr)) (hl:cs'.length=cs.length):Ab W0 w' (blk b cs'::M):=by
 obtain⟨h1,h2,ha,hb2,hc,⟨T,lo,hi,hd,hf⟩,he⟩:=h.st;have hwb:w.heap[b]? = some (.cells cs.toArray T (lo,hi)):=ha _ _ hd;have hnew:=hb _ _ hwb;refine⟨by rw[ho];exact h.os,by rw[hu];exact h.out,λx=>if x=b then some (.cells cs'.toArray T (lo,hi)) else none,h2,λx y hx=>?_,λx y hx=>?_,λx=>?_,⟨T,lo,hi,by simp,λi hi'=>hf i (by omega)⟩,he⟩
 ·simp only at hx;split at hx
  ·rename_i hxb;subst hxb;cases hx;exact hnew
  ·cases hx
 ·have hxb:x≠b:=by
   intro hxb;subst hxb
   rcases hc x with h'|h'
   ·rw[hd] at h';cases h'
   ·rw[hx] at h';cases h'
  exact hoth x y hxb (hb2 _ _ hx)
 ·simp only
  by_cases hxb:x=b
  ·subst hxb;rcases hc x with h'|h'
   ·rw[hd] at h';cases h'
   ·exact .inr h'
  ·left;rw[if_neg hxb]
def GH(k:BA):List UInt8:=k.data.toList
def txB(l:List UInt8):BA:=⟨l.toArray⟩
theorem Adx(k:BA):txB (GH k)=k:=by unfold txB GH;simp
theorem Axz(l:List UInt8):GH (txB l)=l:=by unfold txB GH;simp
def E8(l:List BA):List BA:=((l.map GH).mergeSort λx y=>decide (x<=y)).map txB
theorem Afl(l:List (List UInt8)):Am.str.flat (l.map txB)=l.map encStr:=by
 unfold Am.flat Am.str
 induction l with
 | nil=>rfl
 | cons x l ih=>simp only[List.map_cons,List.flatten_cons];rw[ih];rfl
theorem Awj{pre cs tl:List Value}{d:List (List UInt8)}(hl:d.length=cs.length):putCells encStr pre.length d.toArray (pre++cs++tl).toArray=(pre++d.map encStr++tl).toArray:=by
 unfold putCells;apply Array.ext_getElem?;intro i;simp only[Array.getElem?_mapIdx,List.getElem?_toArray,List.size_toArray]
 by_cases h1:i<pre.length
 ·rw[List.getElem?_append_left (by simp;omega),List.getElem?_append_left h1,List.getElem?_append_left (by simp;omega),List.getElem?_append_left h1,List.getElem?_eq_getElem h1];simp only[Option.map_some];rw[if_neg (by omega)]
 ·by_cases h2:i<pre.length+cs.length
  ·rw[List.getElem?_append_left (by simp;omega),List.getElem?_append_right (by omega),List.getElem?_append_left (by simp;omega),List.getElem?_append_right (by omega),List.getElem?_eq_getElem (by omega),List.getElem?_map,List.getElem?_eq_getElem (by omega)];simp only[Option.map_some];rw[if_pos (by omega),getElem!_pos _ _ (by simp;omega)]
   simp
  ·rw[List.getElem?_append_right (by simp;omega),List.getElem?_append_right (by simp;omega)];simp only[List.length_append,List.length_map,hl];cases tl[i-(pre.length+cs.length)]? with
   | none=>rfl
   | some v=>simp only[Option.map_some];rw[if_neg (by omega)]
theorem Ag0{P:Program}{f:FuncId}{s:Sl}{keys:List BA}
  (hC:∀(blk off cap:Nat)(ss:List (List UInt8))(w:World),Holds encStr w blk off ss.toArray->blk<w.heap.size->ss.length<4611686018427387904 ->
   Calls P f #[.l (some ⟨blk,off,none⟩) ss.length cap] w λe w'=>e = .returned (.tuple #[])/\∃n os,w'=grow (putRow encStr (Sort.ahead w n) blk off (ss.mergeSort λx y=>decide (x<=y)).toArray) os)
  (hN:∀(cap:Nat)(w:World),Calls P f #[.l none 0 cap] w λe w'=>e = .returned (.tuple #[])/\w'=w)
  (h:Ab W0 w L) [hA:Jd L s (recs Am.str s keys) F] (hk:keys.length<4611686018427387904):Calls P f #[.l s.a s.n s.c] w λe w'=>e = .returned (.tuple #[])/\Ab W0 w' (F (recs Am.str s (E8 keys))):=by
 have hn:=(Bx (hA:=hA) h).1;refine Jd.one (hA:=hA) h λM h hb=>?_;obtain⟨g,_,⟨h1,h2⟩,h3⟩:=h.get (q:=0) rfl;have hsl:(E8 keys).length=keys.length:=by simp[E8]
 rcases h3 with⟨ha,hn0,_⟩|⟨b,o,pre0,tl0,ha,_⟩
 ·have hk0:keys=[]:=List.length_eq_zero_iff.1 (by omega);subst hk0;rw[ha,hn0];exact(hN _ w).mono λe w' ⟨he,hw⟩=>⟨he,by subst hw;rw[show E8 []=[] by simp[E8]];exact hb _ _ h⟩
 ·obtain⟨pre,tl,hp,hl,hsn,ht,h4⟩:=Ab.openS (q:=0) h rfl ha;subst hp;have h4:Ab W0 w (blk b (pre++Am.str.flat keys++tl)::M):=h4;have hfl:(Am.str.flat keys).length=keys.length:=by rw[Am.flat_length];simp[Am.str]
  have hblk:b<w.heap.size:=by
   obtain⟨g,hg,T,lo,hi,hb0,_⟩:=h4.get (q:=0) rfl;exact(Array.getElem?_eq_some_iff.1 (hg _ _ hb0)).1
  have hH:Holds encStr w b pre.length (keys.map GH).toArray:=by
   intro j hj;have hj:j<keys.length:=by simpa using hj
   refine⟨?_,h4.frozen (q:=0) rfl (by simp[hfl];omega)⟩;rw[h4.cell (q:=0) rfl,List.append_assoc,List.getElem?_append_right (by omega),List.getElem?_append_left (by rw[hfl];omega)]
   have:=Am.flat_get (E:=Am.str) (rows:=keys) (i:=j) (j:=0) (List.getElem?_eq_getElem hj) (by decide);have hj2:j*Am.str.sz+0=j:=by show j*1+0=j;omega
   rw[hj2] at this;rw[Nat.add_sub_cancel_left,this,getElem!_pos _ _ (by simpa using hj)];simp only[List.getElem_toArray,List.getElem_map];show some (Value.string keys[j])=some (Value.string (txB (GH keys[j])));rw[Adx]
  rw[ha,hn,<- List.length_map (f:=GH)];refine(hC b pre.length s.c (keys.map GH) w hH hblk (by simpa using hk)).mono λe w' ⟨he,n,os,hw⟩=>⟨he,?_⟩;have hd:((keys.map GH).mergeSort λx y=>decide (x<=y)).length=(Am.str.flat keys).length:=by simp[hfl]
  have h5:Ab W0 w' (blk b (pre++((keys.map GH).mergeSort λx y=>decide (x<=y)).map encStr++tl)::M):=by
   subst hw;refine Ab.write h4 rfl rfl (λx o hx ho=>?_) (λT fr hT=>?_) (by simp[hfl])
   ·unfold grow putRow mapBlock;simp only[Sort.ahead];have hlt:=(Array.getElem?_eq_some_iff.1 ho).1;rw[Array.getElem?_append_left (by simpa using hlt),Array.getElem?_modify,if_neg (Ne.symm hx)];exact ho
   ·unfold grow putRow mapBlock;simp only[Sort.ahead];rw[Array.getElem?_append_left (by simpa using hblk),Array.getElem?_modify,if_pos rfl,hT];simp only[Option.map_some,onCells];rw[Awj hd]
  rw[<- Afl] at h5;have h6:=h5.shutS (q:=0) (s:=s) (sz:=1) rfl ha rfl (by show(Am.str.flat (E8 keys)).length=_;rw[Am.flat_length,hsl,hn];rfl) hsn ht
  exact hb _ _ h6
end
theorem Ao3(a b:BA):sLt a b=decide (GH a<GH b):=by
 unfold sLt GH;rw[ByteArray.toList_eq,ByteArray.toList_eq,bytesLess_eq]
theorem Ady{a b:BA}(h:GH a=GH b):a=b:=by
 rw[<- Adx a,<- Adx b,h]
def Ef(l:List BA):Prop:=l.Pairwise λa b=>GH a<GH b
theorem Ef.nodup{l:List BA}(h:Ef l):l.Nodup:=by
 refine List.Pairwise.imp (λ{a b} hab=>?_) h;rintro rfl;exact absurd hab (List.lt_irrefl _)
theorem FS:∀{l l':List BA},l.Pairwise (λa b=>GH a<=GH b)->l'.Pairwise (λa b=>GH a<=GH b)->l.Perm l'->l=l'
 | [],l',_,_,hp=>(List.nil_perm.1 hp).symm
 | a::l,[],_,_,hp=>absurd hp.symm (by simp)
 | a::l,b::l',h,h',hp=>by
  simp only[List.pairwise_cons] at h h';have hab:GH a=GH b:=by
   have h1:b∈a::l:=hp.symm.subset (by simp);have h2:a∈b::l':=hp.subset (by simp);have h3:GH a<=GH b:=by
    rcases List.mem_cons.1 h1 with rfl|h1
    ·exact List.le_refl _
    ·exact h.1 b h1
   have h4:GH b<=GH a:=by
    rcases List.mem_cons.1 h2 with rfl|h2
    ·exact List.le_refl _
    ·exact h'.1 a h2
   exact List.le_antisymm h3 h4
  have:=Ady hab;subst this;rw[FS h.2 h'.2 (List.Perm.cons_inv hp)]
theorem JG(l:List BA):(E8 l).Perm l:=by
 unfold E8;have:=(List.mergeSort_perm (l.map GH) λx y=>decide (x<=y)).map txB;refine this.trans ?_;have e:(l.map GH).map txB=l:=by
  rw[List.map_map];conv=>rhs;rw[<- List.map_id l]
  exact List.map_congr_left λa _=>Adx a
 rw[e]
theorem HM(l:List BA):(E8 l).Pairwise λa b=>GH a<=GH b:=by
 unfold E8;rw[List.pairwise_map];have:=List.pairwise_mergeSort (le:=λx y:List UInt8=>decide (x<=y)) (λa b c h1 h2=>by simp only[decide_eq_true_eq] at *;exact List.le_trans h1 h2) (λa b=>by simp only[Bool.or_eq_true,decide_eq_true_eq];exact List.le_total a b) (l.map GH)
 refine List.Pairwise.imp (λ{a b} h=>?_) this;rw[Axz,Axz];simpa using h
theorem Ef.le{l:List BA}(h:Ef l):l.Pairwise λa b=>GH a<=GH b:=List.Pairwise.imp (λ{a b} h=>List.le_of_lt h) h
theorem Apd{l r:List BA}(hp:l.Perm r)(hr:Ef r):E8 l=r:=FS (HM l) hr.le ((JG l).trans hp)
end Go.Hb
namespace Go.Hb
section
variable{V:Type}[Inhabited V]
def Ro:List (BA×V)->BA->Nat×Bool
 | [],_=>(0,false)
 | e::r,k=>if sLt e.1 k then ((Ro r k).1+1,(Ro r k).2) else (0,decide (e.1=k))
def BR(m:List (BA×V)):Prop:=Ef (m.map (·.1))
theorem BR.nodup{m:List (BA×V)}(h:BR m):(m.map (·.1)).Nodup:=Ef.nodup h
theorem BR.tail{e:BA×V}{m:List (BA×V)}(h:BR (e::m)):BR m:=by
 unfold BR Ef at h ⊢;simp only[List.map_cons,List.pairwise_cons] at h;exact h.2
theorem Ic:∀{m:List (BA×V)}{k:BA},(Ro m k).2=true->∃v,m[(Ro m k).1]? = some (k,v)
 | [],_,h=>by cases h
 | e::r,k,h=>by
  unfold Ro at h ⊢;split at h
  ·rename_i h1;rw[if_pos h1];obtain⟨v,hv⟩:=Ic h;exact⟨v,by simpa using hv⟩
  ·rename_i h1;rw[if_neg h1];simp only[decide_eq_true_eq] at h;exact⟨e.2,by simp[<- h]⟩
theorem Af6{a k:BA}(h1:sLt a k=false)(h2:a≠k):GH k<GH a:=by
 rw[Ao3] at h1;have h3:GH k<=GH a:=by simpa using h1
 rcases List.le_iff_lt_or_eq.1 h3 with h|h
 ·exact h
 ·exact absurd (Ady h).symm h2
theorem IB:∀{m:List (BA×V)}{k:BA},BR m->(Ro m k).2=false->(∀e∈m,e.1≠k)/\∀v,BR (m.take (Ro m k).1++(k,v)::m.drop (Ro m k).1)
 | [],_,_,_=>⟨(λ_ h=>by cases h),λv=>by simp[BR,Ef,Ro]⟩
 | e::r,k,hr,h=>by
  unfold Ro at h ⊢;split at h
  ·rename_i h1;rw[if_pos h1];obtain⟨h2,h3⟩:=IB hr.tail h;have hlt:GH e.1<GH k:=by rw[Ao3] at h1;simpa using h1
   refine⟨λx hx=>?_,λv=>?_⟩
   ·rcases List.mem_cons.1 hx with rfl|hx
    ·intro he;rw[he] at hlt;exact absurd hlt (List.lt_irrefl _)
    ·exact h2 x hx
   ·have h4:=h3 v;unfold BR Ef at h4 hr ⊢;simp only[List.take_succ_cons,List.drop_succ_cons,List.cons_append,List.map_cons,List.pairwise_cons] at hr ⊢;refine⟨λx hx=>?_,h4⟩;simp only[List.map_append,List.map_cons,List.mem_append,List.mem_cons] at hx;rcases hx with hx|hx|hx
    ·exact hr.1 x (((List.take_sublist _ _).map _).subset hx)
    ·rw[hx];exact hlt
    ·exact hr.1 x (((List.drop_sublist _ _).map _).subset hx)
  ·rename_i h1;rw[if_neg h1];simp only[decide_eq_false_iff_not] at h;have hlt:=Af6 (by simpa using h1) h;have hall:∀x∈(e::r).map (·.1),GH k<GH x:=by
    intro x hx;rw[List.map_cons,List.mem_cons] at hx;rcases hx with rfl|hx
    ·exact hlt
    ·unfold BR Ef at hr;simp only[List.map_cons,List.pairwise_cons] at hr;exact List.lt_trans hlt (hr.1 x hx)
   refine⟨λx hx he=>?_,λv=>?_⟩
   ·have:=hall x.1 (List.mem_map_of_mem hx);rw[he] at this;exact absurd this (List.lt_irrefl _)
   ·show BR ((k,v)::e::r);unfold BR Ef at hr ⊢;rw[List.map_cons,List.pairwise_cons];exact⟨hall,hr⟩
theorem Adi{m:List (BA×V)}{k:BA}(hr:BR m):AC m k=if (Ro m k).2 then (m[(Ro m k).1]?).map (·.2) else none:=by
 cases h:(Ro m k).2 with
 | true=>
  obtain⟨v,hv⟩:=Ic h;rw[hv];exact(BD hr.nodup).2 (List.mem_of_getElem? hv)
 | false=>exact Br.2 (IB hr h).1
theorem Ve{m:List (BA×V)}{i:Nat}{k:BA}{v u:V}(h:m[i]? = some (k,v)):(m.set i (k,u)).map (·.1)=m.map (·.1):=by
 obtain⟨hlt,hri⟩:=List.getElem?_eq_some_iff.1 h;rw[List.map_set];apply List.ext_getElem?;intro j;rw[List.getElem?_set];split
 ·rename_i h;subst h;simp[hlt,hri]
 ·rfl
theorem Aox{m:List (BA×V)}{i:Nat}{k:BA}{v u:V}(hr:BR m)(h:m[i]? = some (k,v)):BR (m.set i (k,u)):=by
 unfold BR;rw[Ve h];exact hr
theorem YD{m:List (BA×V)}{i:Nat}{k:BA}{v u:V}(hn:(m.map (·.1)).Nodup)(h:m[i]? = some (k,v)):m.set i (k,u)=E4 m k u:=by
 obtain⟨hlt,hri⟩:=List.getElem?_eq_some_iff.1 h;unfold E4;apply List.ext_getElem?;intro j;rw[List.getElem?_set,List.getElem?_map]
 by_cases e:i=j
 ·subst e;simp[hlt,hri]
 ·rw[if_neg e];cases hj:m[j]? with
  | none=>rfl
  | some x=>
   simp only[Option.map_some];rw[if_neg];intro hk;obtain⟨hjl,hjx⟩:=List.getElem?_eq_some_iff.1 hj;have:(m.map (·.1))[i]? = (m.map (·.1))[j]?:=by simp[hlt,hjl,hri,hjx,hk]
   exact e ((List.getElem?_inj (by simpa using hlt) hn).1 this)
theorem G5{m:List (BA×V)}{i:Nat}{k:BA}{v:V}(hn:(m.map (·.1)).Nodup)(h:m[i]? = some (k,v)):m.eraseIdx i=BJ m k:=by
 obtain⟨hlt,hri⟩:=List.getElem?_eq_some_iff.1 h;have hs:m=m.take i++(k,v)::m.drop (i+1):=by rw[<- hri];simp
 rw[List.eraseIdx_eq_take_drop_succ];unfold BJ
 conv=>rhs;rw[hs]
 rw[hs] at hn;simp only[List.map_append,List.map_cons] at hn;rw[List.nodup_append] at hn;simp only[List.nodup_cons] at hn;rw[List.filter_append,List.filter_cons_of_neg (by simp),List.filter_eq_self.2,List.filter_eq_self.2]
 ·intro e he;simp only[ne_eq,decide_not,Bool.not_eq_eq_eq_not,Bool.not_true,decide_eq_false_iff_not];rintro rfl;exact hn.2.1.1 (List.mem_map_of_mem he)
 ·intro e he;simp only[ne_eq,decide_not,Bool.not_eq_eq_eq_not,Bool.not_true,decide_eq_false_iff_not];rintro rfl;exact hn.2.2 _ (List.mem_map_of_mem he) e.1 (by simp) rfl
def Hg(m:List (BA×V))(k:BA)(v:V):List (BA×V):=if (Ro m k).2 then m.set (Ro m k).1 (k,v) else m.take (Ro m k).1++(k,v)::m.drop (Ro m k).1
theorem IR{m:List (BA×V)}{k:BA}{v:V}(hr:BR m):BR (Hg m k v):=by
 unfold Hg;split
 ·rename_i h;obtain⟨u,hu⟩:=Ic h;exact Aox hr hu
 ·rename_i h;exact(IB hr (by simpa using h)).2 v
theorem IQ{m:List (BA×V)}{k:BA}{v:V}(hr:BR m):(Hg m k v).Perm (Ci m k v):=by
 unfold Hg Ci;cases h:(Ro m k).2 with
 | true=>
  obtain⟨u,hu⟩:=Ic h;have hg:AC m k=some u:=by rw[Adi hr,h,hu];rfl
  rw[hg];simp only[if_true];rw[YD hr.nodup hu]
 | false=>
  have hg:AC m k=none:=by rw[Adi hr,h];rfl
  rw[hg];simp only[Bool.false_eq_true,if_false];refine List.perm_middle.trans ?_;rw[List.take_append_drop]
def Eo(m:List (BA×V))(k:BA):List (BA×V):=if (Ro m k).2 then m.eraseIdx (Ro m k).1 else m
theorem Fc{m:List (BA×V)}{k:BA}(hr:BR m):Eo m k=BJ m k:=by
 unfold Eo;split
 ·rename_i h;obtain⟨u,hu⟩:=Ic h;exact G5 hr.nodup hu
 ·rename_i h;have:=(IB hr (by simpa using h)).1;unfold BJ;rw[List.filter_eq_self.2];intro e he;simpa using this e he
theorem L0{m:List (BA×V)}{k:BA}(hr:BR m):BR (Eo m k):=by
 rw[Fc hr];unfold BR Ef BJ at *;exact List.Pairwise.sublist ((List.filter_sublist).map _) hr
theorem Tc{m m':List (BA×V)}{k:BA}(hp:m.Perm m'):(BJ m k).Perm (BJ m' k):=hp.filter _
theorem Td{m:List (BA×V)}{k:BA}{v:V}{P:BA->Prop}(hm:∀e∈m,P e.1)(hk:P k):∀e∈Ci m k v,P e.1:=by
 unfold Ci;cases AC m k with
 | none=>
  intro e he;rcases List.mem_cons.1 he with rfl|he
  ·exact hk
  ·exact hm e he
 | some u=>
  intro e he;unfold E4 at he;rw[List.mem_map] at he;obtain⟨x,hx,rfl⟩:=he;split
  ·exact hk
  ·exact hm x hx
theorem Iz{m:List (BA×V)}{k:BA}{P:BA->Prop}(hm:∀e∈m,P e.1):∀e∈BJ m k,P e.1:=λe he=>hm e (List.mem_filter.1 he).1
theorem Av7(m:List (BA×V))(k:BA):(BJ m k).length<=m.length:=List.length_filter_le _ _
end
end Go.Hb
namespace Go.Hb
theorem SQ{ls:List Lk}{h:Nat}{l:Lk}(hl:h<ls.length):Dm (ls.set h l)=upd (Dm ls) h (l.v,l.there):=by
 funext x;unfold Dm upd;rw[E2 hl];split <;> rfl
theorem P5{ls:List Lk}{l:Lk}(x:Nat):(ls++[l]).getD x default=if x=ls.length then l else ls.getD x default:=by
 rw[List.getD_eq_getElem?_getD,List.getD_eq_getElem?_getD];rcases Nat.lt_trichotomy x ls.length with h|h|h
 ·rw[List.getElem?_append_left h,if_neg (by omega)]
 ·subst h;rw[if_pos rfl,List.getElem?_append_right (by omega)];simp
 ·rw[List.getElem?_append_right (by omega),if_neg (by omega),List.getElem?_eq_none (by simp;omega),List.getElem?_eq_none (by omega)]
theorem Afp{ls:List Lk}{l:Lk}:Dm (ls++[l])=upd (Dm ls) ls.length (l.v,l.there):=by
 funext x;unfold Dm upd;rw[P5];split <;> rfl
theorem Aop{ls:List Lk}{h:Nat}{l:Lk}(hl:h<ls.length):DH (ls.set h l)=upd (DH ls) h l.next:=by
 funext x;unfold DH upd;rw[E2 hl];split <;> rfl
theorem Aov{ls:List Lk}{h:Nat}{l:Lk}(hl:h<ls.length):DI (ls.set h l)=upd (DI ls) h l.prev:=by
 funext x;unfold DI upd;rw[E2 hl];split <;> rfl
theorem A0i{ls:List Lk}{l:Lk}:DH (ls++[l])=upd (DH ls) ls.length l.next:=by
 funext x;unfold DH upd;rw[P5];split <;> rfl
theorem A0n{ls:List Lk}{l:Lk}:DI (ls++[l])=upd (DI ls) ls.length l.prev:=by
 funext x;unfold DI upd;rw[P5];split <;> rfl
theorem D1.upd_out{nx pv:Nat->Nat}{ord:List Nat}{h a b:Nat}(hs:D1 nx pv ord)(hh:h∉0::ord):D1 (upd nx h a) (upd pv h b) ord:=by
 refine DR.mono hs (λx hx=>Bi ?_) (λy hy=>Bi ?_)
 ·rintro rfl;rw[show(0::(ord++[0]))=(0::ord)++[0] by simp,List.dropLast_concat] at hx;exact hh hx
 ·rintro rfl;simp only[List.tail_cons,List.mem_append,List.mem_singleton] at hy;rcases hy with hy|hy
  ·exact hh (List.mem_cons_of_mem _ hy)
  ·exact hh (by rw[hy];exact List.mem_cons_self)
def T7(cap:Nat)(free:List Nat):Nat:=free.getLastD cap
def G3(ls:List Lk)(free:List Nat)(v:Value):List Lk:=if free=[] then ls++[⟨v,0,0,true⟩] else ls.set (free.getLastD 0) ⟨v,0,0,true⟩
def Rc(ls:List Lk)(h p x:Nat):List Lk:=E7 (E6 (E6 (E7 ls h p) h x) p h) x h
def Gn(ls:List Lk)(h:Nat):List Lk:=E7 (E6 ls (DI ls h) (DH ls h)) (DH ls h) (DI ls h)
theorem Yl(ls:List Lk)(h p x:Nat):(Rc ls h p x).length=ls.length:=by simp[Rc,Cp,BK]
theorem Avy{ls:List Lk}{h p x:Nat}(hh:h<ls.length)(hp:p<ls.length)(hx:x<ls.length):DH (Rc ls h p x)=upd (upd (DH ls) h x) p h:=by
 unfold Rc;rw[J6 (by rw[BK,BK,Cp];exact hx),J5 (by rw[BK,Cp];exact hp),J5 (by rw[Cp];exact hh),J6 hh]
theorem Avz{ls:List Lk}{h p x:Nat}(hh:h<ls.length)(hp:p<ls.length)(hx:x<ls.length):DI (Rc ls h p x)=upd (upd (DI ls) h p) x h:=by
 unfold Rc;rw[JA (by rw[BK,BK,Cp];exact hx),J9 (by rw[BK,Cp];exact hp),J9 (by rw[Cp];exact hh),JA hh]
theorem Afx{ls:List Lk}{h p x:Nat}(hh:h<ls.length)(hp:p<ls.length)(hx:x<ls.length):Dm (Rc ls h p x)=Dm ls:=by
 unfold Rc;rw[H8 (by rw[BK,BK,Cp];exact hx),H7 (by rw[BK,Cp];exact hp),H7 (by rw[Cp];exact hh),H8 hh]
theorem SZ(ls:List Lk)(h:Nat):(Gn ls h).length=ls.length:=by simp[Gn,Cp,BK]
theorem Aoa{ls:List Lk}{h:Nat}(hp:DI ls h<ls.length)(hx:DH ls h<ls.length):DH (Gn ls h)=upd (DH ls) (DI ls h) (DH ls h):=by
 unfold Gn;rw[J6 (by rw[BK];exact hx),J5 hp]
theorem Aob{ls:List Lk}{h:Nat}(hp:DI ls h<ls.length)(hx:DH ls h<ls.length):DI (Gn ls h)=upd (DI ls) (DH ls h) (DI ls h):=by
 unfold Gn;rw[JA (by rw[BK];exact hx),J9 hp]
theorem Aam{ls:List Lk}{h:Nat}(hp:DI ls h<ls.length)(hx:DH ls h<ls.length):Dm (Gn ls h)=Dm ls:=by
 unfold Gn;rw[H8 (by rw[BK];exact hx),H7 hp]
end Go.Hb
namespace Go.Hb
structure Ahl(ls:List Lk)(free:List Nat)(row:List (Nat×Value))(v:Value)(h:Nat)(ls1:List Lk)(free1:List Nat):Prop where
 pos:0<h
 lt:h<ls1.length
 le:ls.length<=ls1.length
 out:h∉row.map (·.1)
 kept:Dm ls1=upd (Dm ls) h (v,true)
 nx:DH ls1=upd (DH ls) h 0
 pv:DI ls1=upd (DI ls) h 0
 all:∀x,(x∈row.map (·.1)\/x=h\/x∈free1)↔(0<x/\x<ls1.length)
 nodup:(row.map (·.1)++h::free1).Nodup
 sub:∀x∈free1,x∈free
theorem Yb{l:List Nat}(hl:l≠[])(d:Nat):l.dropLast++[l.getLastD d]=l:=by
 rcases List.eq_nil_or_concat l with rfl|⟨m,x,rfl⟩
 ·exact absurd rfl hl
 ·simp[List.getLastD_eq_getLast?]
theorem I9.take{ls:List Lk}{free:List Nat}{row:List (Nat×Value)}(hi:I9 ls free row)(v:Value):Ahl ls free row v (T7 ls.length free) (G3 ls free v) free.dropLast:=by
 by_cases hf:free=[]
 ·subst hf;have e:G3 ls [] v=ls++[⟨v,0,0,true⟩]:=by simp[G3]
  have eh:T7 ls.length []=ls.length:=rfl;rw[e,eh];have hout:ls.length∉row.map (·.1):=λh=>by
   have:=(hi.all _).1 (.inl h);omega
  refine⟨hi.pos,by simp,by simp,hout,Afp,A0i,A0n,λx=>?_,?_,λx hx=>by simpa using hx⟩
  ·have:=hi.all x;simp only[List.dropLast_nil,List.not_mem_nil,or_false,List.length_append,List.length_cons,List.length_nil] at this ⊢;constructor
   ·rintro(h|h)
    ·have:=this.1 h;omega
    ·have:=hi.pos;omega
   ·intro h
    by_cases hx:x=ls.length
    ·exact .inr hx
    ·exact .inl (this.2 (by omega))
  ·have:=hi.nodup;simp only[List.append_nil,List.dropLast_nil] at this ⊢;rw[List.nodup_append];exact⟨this,by simp,λa ha b hb=>by simp at hb;subst hb;rintro rfl;exact hout ha⟩
 ·have hsplit:=Yb hf 0;have eh:T7 ls.length free=free.getLastD 0:=by
   unfold T7;rcases List.eq_nil_or_concat free with rfl|⟨m,x,rfl⟩
   ·exact absurd rfl hf
   ·simp[List.getLastD_eq_getLast?]
  have e:G3 ls free v=ls.set (free.getLastD 0) ⟨v,0,0,true⟩:=by simp[G3,hf]
  rw[e,eh];generalize free.getLastD 0=h at *;have hmem:h∈free:=by rw[<- hsplit];simp
  have hb:=(hi.all h).1 (.inr hmem);have hnd:=hi.nodup;rw[<- hsplit] at hnd;have hnd':=hnd;simp only[List.nodup_append] at hnd';have hout:h∉row.map (·.1):=λhr=>hnd'.2.2 h hr h (by simp) rfl;refine⟨hb.1,by simpa using hb.2,by simp,hout,SQ hb.2,Aop hb.2,Aov hb.2,λx=>?_,?_,λx hx=>(List.dropLast_sublist _).subset hx⟩
  ·have:=hi.all x;rw[<- hsplit] at this;simp only[List.mem_append,List.mem_singleton,List.length_set] at this ⊢;rw[<- this];constructor
   ·rintro(h|h|h)
    ·exact .inl h
    ·exact .inr (.inr h)
    ·exact .inr (.inl h)
   ·rintro(h|h|h)
    ·exact .inl h
    ·exact .inr (.inr h)
    ·exact .inr (.inl h)
  ·refine(List.Perm.nodup_iff ?_).1 hnd;exact List.Perm.append_left _ (List.perm_append_comm (l₁:=free.dropLast) (l₂:=[h]))
theorem I9.bound{ls:List Lk}{free:List Nat}{row:List (Nat×Value)}(hi:I9 ls free row){x:Nat}(hx:x∈0::row.map (·.1)):x<ls.length:=by
 rcases List.mem_cons.1 hx with rfl|hx
 ·exact hi.pos
 ·exact((hi.all x).1 (.inl hx)).2
theorem I9.nodup0{ls:List Lk}{free:List Nat}{row:List (Nat×Value)}(hi:I9 ls free row):(0::row.map (·.1)).Nodup:=by
 rw[List.nodup_cons];refine⟨λh0=>?_,(List.nodup_append.1 hi.nodup).1⟩;have:=(hi.all 0).1 (.inl h0);omega
theorem Te{l:List Nat}:l.headD 0∈0::l:=by cases l <;> simp
theorem Lw{l:List Nat}:l.getLastD 0∈0::l:=by
 rcases List.eq_nil_or_concat l with rfl|⟨m,x,rfl⟩
 ·simp
 ·simp[List.getLastD_eq_getLast?]
theorem I9.lay{ls:List Lk}{free:List Nat}{r1 r2:List (Nat×Value)}(hi:I9 ls free (r1++r2)){v:Value}{h:Nat}{ls1:List Lk}{free1:List Nat}(ht:Ahl ls free (r1++r2) v h ls1 free1) :
  I9 (Rc ls1 h ((r1.map (·.1)).getLastD 0) ((r2.map (·.1)).headD 0)) free1 (r1++(h,v)::r2):=by
 have hp:(r1.map (·.1)).getLastD 0<ls1.length:=by
  have h1:(r1.map (·.1)).getLastD 0∈0::(r1++r2).map (·.1):=by
   have:=Lw (l:=r1.map (·.1));simp only[List.map_append,List.mem_cons,List.mem_append] at this ⊢;rcases this with h|h
   ·exact .inl h
   ·exact .inr (.inl h)
  exact Nat.lt_of_lt_of_le (hi.bound h1) ht.le
 have hx:(r2.map (·.1)).headD 0<ls1.length:=by
  have h1:(r2.map (·.1)).headD 0∈0::(r1++r2).map (·.1):=by
   have:=Te (l:=r2.map (·.1));simp only[List.map_append,List.mem_cons,List.mem_append] at this ⊢;rcases this with h|h
   ·exact .inl h
   ·exact .inr (.inr h)
  exact Nat.lt_of_lt_of_le (hi.bound h1) ht.le
 have hk:=Afx ht.lt hp hx;have hout:h∉0::(r1++r2).map (·.1):=by
  rw[List.mem_cons];rintro(h0|h0)
  ·have:=ht.pos;omega
  ·exact ht.out h0
 refine⟨by rw[Yl];have:=ht.lt;omega,λx=>?_,?_,?_,?_,?_,?_⟩
 ·rw[Yl,<- ht.all x];simp only[List.map_append,List.map_cons,List.mem_append,List.mem_cons];constructor
  ·rintro((a|a|a)|a)
   ·exact .inl (.inl a)
   ·exact .inr (.inl a)
   ·exact .inl (.inr a)
   ·exact .inr (.inr a)
  ·rintro((a|a)|a|a)
   ·exact .inl (.inl a)
   ·exact .inl (.inr (.inr a))
   ·exact .inl (.inr (.inl a))
   ·exact .inr a
 ·have:=ht.nodup;simp only[List.map_append,List.map_cons] at this ⊢;refine(List.Perm.nodup_iff ?_).1 this;simp only[List.append_assoc,List.cons_append];refine List.Perm.append_left _ ?_;exact List.perm_middle
 ·have hs:=hi.stands;simp only[List.map_append,List.map_cons] at hs hout ⊢;have hn:=hi.nodup0;simp only[List.map_append] at hn;have h1:D1 (DH ls1) (DI ls1) (r1.map (·.1)++r2.map (·.1)):=by
   rw[ht.nx,ht.pv];exact hs.upd_out hout
  rw[Avy ht.lt hp hx,Avz ht.lt hp hx];exact Aa8 h1 hout hn
 ·intro e he;rw[hk,ht.kept];simp only[List.mem_append,List.mem_cons] at he
  by_cases heq:e.1=h
  ·rcases he with he|he|he
   ·exact absurd (by rw[<- heq];exact List.mem_map_of_mem (List.mem_append_left _ he)) ht.out
   ·subst he;exact Fo _ _ _
   ·exact absurd (by rw[<- heq];exact List.mem_map_of_mem (List.mem_append_right _ he)) ht.out
  ·rw[Bi heq];refine hi.vals e ?_;rcases he with he|he|he
   ·exact List.mem_append_left _ he
   ·subst he;exact absurd rfl heq
   ·exact List.mem_append_right _ he
 ·intro x hx';rw[hk,ht.kept];have hxh:x≠h:=by
   rintro rfl;have:=(List.nodup_append.1 ht.nodup).2.1;simp only[List.nodup_cons] at this;exact this.1 hx'
  rw[Bi hxh];exact hi.gone x (ht.sub x hx')
 ·rw[hk,ht.kept,Bi (by have:=ht.pos;omega)];exact hi.zero
end Go.Hb
namespace Go.Hb
def lkR:Am Lk:=⟨4,Lk.cells,λ_=>rfl⟩
instance Lk.of0{v:Value}{t:Bool}:L5 lkR [v,.i (0:Int),.i (0:Int),.b t] ⟨v,0,0,t⟩:=⟨rfl⟩
instance Lk.setP{a:Lk}{p:Nat}:Zb lkR a 1 (.i (p:Int)) { a with prev:=p }:=⟨rfl,by decide⟩
instance Lk.setN{a:Lk}{p:Nat}:Zb lkR a 2 (.i (p:Int)) { a with next:=p }:=⟨rfl,by decide⟩
theorem I9.len{ls:List Lk}{free:List Nat}{row:List (Nat×Value)}(hi:I9 ls free row):ls.length=row.length+free.length+1:=by
 have h1:(row.map (·.1)++free).Perm ((List.range ls.length).drop 1):=by
  refine(List.perm_ext_iff_of_nodup hi.nodup ?_).2 λx=>?_
  ·exact(List.nodup_range).sublist (List.drop_sublist _ _)
  ·rw[List.mem_append,hi.all x];constructor
   ·intro h;rw[List.mem_iff_getElem];exact⟨x-1,by simp;omega,by simp;omega⟩
   ·intro h;rw[List.mem_iff_getElem] at h;obtain⟨i,hi,rfl⟩:=h;simp at hi ⊢;omega
 have:=h1.length_eq;simp at this;have:=hi.pos;omega
def Fl{T:Type}(mk:T->Value)(row:List (Nat×T)):List (Nat×Value):=row.map λe=>(e.1,mk e.2)
theorem Qv{T:Type}(mk:T->Value)(row:List (Nat×T)):(Fl mk row).map (·.1)=row.map (·.1):=by simp[Fl]
theorem Ao0{T:Type}(mk:T->Value)(row:List (Nat×T)):(Fl mk row).length=row.length:=by simp[Fl]
def lst{T:Type}(mk:T->Value)(b:Nat)(row:List (Nat×T))(free:List Nat):HP:=
 JM λ(x:Sl×Sl×List Lk)=>EA (I9 x.2.2 free (Fl mk row)) (AJ [blk b [.l x.1.a x.1.n x.1.c,.l x.2.1.a x.2.1.n x.2.1.c,.i (row.length:Int)],recs lkR x.1 x.2.2,recs Am.nat x.2.1 free])
section
variable{T:Type}{mk:T->Value}{b:Nat}{row:List (Nat×T)}{free:List Nat}{W w:World}{M:List HP}
instance At.lst{L:List HP}:At (lst mk b row free::L) b (lst mk b row free) (λx=>x::L):=⟨DU⟩
theorem DW(h:Ab W w (lst mk b row free::M)):∃(s f:Sl) (ls:List Lk),I9 ls free (Fl mk row)/\(s.n=ls.length/\f.n=free.length/\ls.length=row.length+free.length+1) /\
  Ab W w (blk b [.l s.a s.n s.c,.l f.a f.n f.c,.i (row.length:Int)]::recs lkR s ls::recs Am.nat f free::M):=by
 obtain⟨⟨s,f,ls⟩,h⟩:=h.openE;obtain⟨hi,h⟩:=h.openA;have h:=h.openL;have h:Ab W w (blk b [.l s.a s.n s.c,.l f.a f.n f.c,.i (row.length:Int)]::recs lkR s ls::recs Am.nat f free::M):=h;refine⟨s,f,ls,hi,⟨(h.pure (q:=1) rfl λg hg=>?_),(h.pure (q:=2) rfl λg hg=>?_),?_⟩,h⟩
 ·have:=hg.1.1;rw[Am.flat_length] at this;exact(Nat.eq_of_mul_eq_mul_right (by decide:0<4) this).symm
 ·have:=hg.1.1;rw[Am.flat_length] at this;exact(Nat.eq_of_mul_eq_mul_right (by decide:0<1) this).symm
 ·have:=hi.len;rw[Ao0] at this;exact this
theorem D8(s f:Sl){ls:List Lk}{n:Int}(hi:I9 ls free (Fl mk row))(hn:n=row.length)
  (h:Ab W w (blk b [.l s.a s.n s.c,.l f.a f.n f.c,.i n]::recs lkR s ls::recs Am.nat f free::M)):Ab W w (lst mk b row free::M):=by
 subst hn;exact Ab.shutE (s,f,ls) (Ab.shutA hi (Ab.shutL (Ps:=[_,_,_]) h))
def JN{T:Type}(row:List (Nat×T))(free:List Nat):Nat:=free.getLastD (row.length+free.length+1)
end
end Go.Hb
