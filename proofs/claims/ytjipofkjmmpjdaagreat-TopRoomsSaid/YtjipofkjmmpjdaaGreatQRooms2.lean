import Derived.Test.YtjipofkjmmpjdaaGreatChecked
import Derived.KernelRfl
import Derived.Conc.LoneSelect
import Derived.Laws.Rows
import Derived.OpenShut
import Derived.IntWalk
import Derived.Sort.EncStr
import Derived.Sort.Grow
import Derived.Sort.Walk0
import Derived.Test.YtjipofkjmmpjdaaGreatQRooms1
set_option linter.unusedVariables false
set_option linter.unusedSimpArgs false
set_option linter.unnecessarySimpa false
set_option linter.unusedSectionVars false
set_option maxRecDepth 100000
namespace Go.Proofs.YtjipofkjmmpjdaaGreat
open Go.Hb
noncomputable abbrev PR:=Tryz.prog
abbrev Ep(S:World->Prop)(b o:Nat)(K:Int->WP):WP:=ldS S (.int .i64) b o K
abbrev Fx(S:World->Prop)(b o:Nat)(K:Sl->WP):WP:=ldS S .slc b o K
abbrev EM(S:World->Prop)(b o:Nat)(K:OA->WP):WP:=ldS S .ptr b o K
abbrev wLs(S:World->Prop)(b o:Nat)(K:BA->WP):WP:=ldS S .str b o K
abbrev Ze(S:World->Prop)(b o:Nat)(K:Int->WP):WP:=ldS S (.int .u64) b o K
noncomputable abbrev D4(f:FuncId)(a:List Value)(K:Bool->WP):WP:=call1 .bool PR f a K
noncomputable abbrev Bp(f:FuncId)(a:List Value)(K:Int->WP):WP:=call1 (.int .i64) PR f a K
noncomputable abbrev F9(f:FuncId)(a:List Value)(K:Sl->WP):WP:=call1 .slc PR f a K
noncomputable abbrev J1(f:FuncId)(a:List Value)(K:OA->WP):WP:=call1 .ptr PR f a K
noncomputable abbrev TH(f:FuncId)(a:List Value)(K:BA->WP):WP:=call1 .str PR f a K
noncomputable abbrev Zf(f:FuncId)(a:List Value)(K:Int->WP):WP:=call1 (.int .u64) PR f a K
noncomputable abbrev A2k(f:FuncId)(a:List Value)(K:Bool->Int->WP):WP:=Gh .bool (.int .i64) PR f a K
noncomputable abbrev A2l(f:FuncId)(a:List Value)(K:Bool->Sl->WP):WP:=Gh .bool .slc PR f a K
noncomputable abbrev F5(f:FuncId)(a:List Value)(K:Int->Bool->WP):WP:=Gh (.int .i64) .bool PR f a K
noncomputable abbrev Aby(f:FuncId)(a:List Value)(K:OA->Int->WP):WP:=Gh .ptr (.int .i64) PR f a K
noncomputable abbrev EF(f:FuncId)(a:List Value)(K:BA->Bool->WP):WP:=Gh .str .bool PR f a K
abbrev Ia(b o:Nat)(K:Bool->WP):WP:=ld .bool b o K
abbrev Ax(b o:Nat)(K:Int->WP):WP:=ld (.int .i64) b o K
abbrev AY(b o:Nat)(K:Sl->WP):WP:=ld .slc b o K
abbrev Bo(b o:Nat)(K:OA->WP):WP:=ld .ptr b o K
abbrev BR(b o:Nat)(K:BA->WP):WP:=ld .str b o K
abbrev D1(b o:Nat)(K:Int->WP):WP:=ld (.int .u64) b o K
noncomputable abbrev wz(f:FuncId)(a:List Value)(K:WP):WP:=VQ PR f a K
noncomputable def bE(f:Func)(l:List Nat):Code:=Ay5 l (AQ f)
def rE(f:Func)(Q:VW):EW:=Bg PR f Q
def cE(f:Func)(kp:KP)(jn:Jn)(Q:VW)(l:List Nat)(X:EW)(Y:Nat->EW):EW:=BD PR kp jn (bE f l) X Y (rE f Q)
def sE(f:Func)(kp:KP)(jn:Jn)(Q:VW)(l:List Nat)(X:EW)(Y:Nat->EW):EW:=JQ PR kp jn (bE f l) X Y (rE f Q)
theorem mixed:PR.follows .mixedOrders=true:=by kernel_rfl
section
variable(jn:Jn)(Q:VW)
def A2b:BA:=⟨#[50,113]⟩
def CZ:BA:=⟨#[95,45,46,47,58]⟩
def QL:BA:=⟨#[97]⟩
def Axt:BA:=⟨#[97,114,99]⟩
def Ae:BA:=⟨#[]⟩
def Ap0:BA:=⟨#[108,105,114,115]⟩
def Abs:BA:=⟨#[115,51,102,105,102,111]⟩
def YY:BA:=⟨#[116,105,110,121,108,102,117]⟩
def QM:BA:=⟨#[120]⟩
def Fm:KP:=⟨[(8,[1,2,3]),(19,[2,3,7,9]),(20,[2,3,7,9]),(29,[2,3,7,9,10,11,12,13]),(34,[2,3,7,9,10,11,12]),(40,[2,3,7,9]),(43,[2,3,7,9,15]),(44,[2,3,7,9,15]),(51,[2,3,7,9,15,16,17]),(58,[])],[]⟩
def XT:EW:=sE Tryz.f6 Fm jn Q [1,1,1,1,1,1] (rE Tryz.f6 Q) A5
def Anj(m2:Nat):EW:=Ib PR Fm jn (bE Tryz.f6 [1,1,1,1,1,0,1,0,0]) (A6 0 (XT jn Q) A5) (rE Tryz.f6 Q) m2
def Px(m2:Nat):EW:=sE Tryz.f6 Fm jn Q [1,1,1,1,1,0,1,0,0,1,1] (Anj jn Q m2) (A6 0 (XT jn Q) A5)
def Py(m2:Nat):Nat->EW:=A6 1 (Px jn Q m2) (A6 0 (XT jn Q) A5)
def A0e(m2:Nat):EW:=sE Tryz.f6 Fm jn Q [1,1,1,1,1,0,1,0,0,1,0,0,1,1,1] (Px jn Q m2) (Py jn Q m2)
def A0f(m2:Nat):Nat->EW:=A6 2 (A0e jn Q m2) (Py jn Q m2)
def Pz(m2:Nat):Nat->EW:=A6 4 (Px jn Q m2) (Py jn Q m2)
def Ank(m2 m6:Nat):EW:=Ib PR Fm jn (bE Tryz.f6 [1,1,1,1,1,0,1,0,0,1,0,0,1,1,1,1,1,1,0,0]) (Pz jn Q m2) (rE Tryz.f6 Q) m6
def Anl(m2 m6:Nat):EW:=sE Tryz.f6 Fm jn Q [1,1,1,1,1,0,1,0,0,1,0,0,1,1,1,1,1,1,0,0,1,1] (Ank jn Q m2 m6) (Pz jn Q m2)
def A0g(m2 m6:Nat):Nat->EW:=A6 5 (Anl jn Q m2 m6) (Pz jn Q m2)
def A0h(m2 m6:Nat):Nat->EW:=A6 6 (Anl jn Q m2 m6) (A0g jn Q m2 m6)
def Adh(m2 m6:Nat):EW:=cE Tryz.f6 Fm jn Q [1,1,1,1,1,0,1,0,0,1,0,0,1,1,1,1,1,1,0,0,1,1] (Ank jn Q m2 m6) (Pz jn Q m2)
def Ayg(m2 m6:Nat)(rooms2:Sl)(f3_b f3_o:Nat)(c7:OA)(i9 s15:Int):WP:=jn 44 (Adh jn Q m2 m6) (us 2 ((.l rooms2.a rooms2.n rooms2.c)::(pq f3_b f3_o)::us 3 ((.p c7)::us 1 ((.i i9)::us 5 ((.i s15)::us 105 [])))))
def Adm(m2 m6 m7:Nat)(rooms2:Sl)(f3_b f3_o:Nat)(c7:OA)(i9 s15:Int)(k16:Sl)(j17:Int):WP:=CG PR Fm jn (bE Tryz.f6 [1,1,1,1,1,0,1,0,0,1,0,0,1,1,1,1,1,1,0,0,1,0,0,1,1,0,0]) (A0h jn Q m2 m6) (rE Tryz.f6 Q) m7 (us 2 ((.l rooms2.a rooms2.n rooms2.c)::(pq f3_b f3_o)::us 3 ((.p c7)::us 1 ((.i i9)::us 5 ((.i s15)::(.l k16.a k16.n k16.c)::(.i j17)::us 103 [])))))
def Adi(m2:Nat):EW:=cE Tryz.f6 Fm jn Q [1,1,1,1,1,0,1,0,0,1,1] (Anj jn Q m2) (A6 0 (XT jn Q) A5)
def Ayh(m2:Nat)(rooms2:Sl)(f3_b f3_o:Nat)(c7:OA)(i9:Int):WP:=jn 20 (Adi jn Q m2) (us 2 ((.l rooms2.a rooms2.n rooms2.c)::(pq f3_b f3_o)::us 3 ((.p c7)::us 1 ((.i i9)::us 111 []))))
def Adl(m2 m6:Nat)(rooms2:Sl)(f3_b f3_o:Nat)(c7:OA)(i9 s15:Int):WP:=CG PR Fm jn (bE Tryz.f6 [1,1,1,1,1,0,1,0,0,1,0,0,1,1,1,1,1,1,0,0]) (Pz jn Q m2) (rE Tryz.f6 Q) m6 (us 2 ((.l rooms2.a rooms2.n rooms2.c)::(pq f3_b f3_o)::us 3 ((.p c7)::us 1 ((.i i9)::us 5 ((.i s15)::us 105 [])))))
def Adg(m2:Nat):EW:=cE Tryz.f6 Fm jn Q [1,1,1,1,1,0,1,0,0,1,0,0,1,1,1,1,1] (Px jn Q m2) (Py jn Q m2)
def A21(m2:Nat)(rooms2:Sl)(f3_b f3_o:Nat)(c7:OA)(i9:Int):WP:=jn 40 (Adg jn Q m2) (us 2 ((.l rooms2.a rooms2.n rooms2.c)::(pq f3_b f3_o)::us 3 ((.p c7)::us 1 ((.i i9)::us 111 []))))
def Adf(m2:Nat):EW:=cE Tryz.f6 Fm jn Q [1,1,1,1,1,0,1,0,0,1,0,0,1,1,1] (Px jn Q m2) (Py jn Q m2)
def Ayf(m2:Nat)(rooms2:Sl)(f3_b f3_o:Nat)(c7:OA)(i9 n10 want11 was12:Int):WP:=jn 34 (Adf jn Q m2) (us 2 ((.l rooms2.a rooms2.n rooms2.c)::(pq f3_b f3_o)::us 3 ((.p c7)::us 1 ((.i i9)::(.i n10)::(.i want11)::(.i was12)::us 108 []))))
def Adk(m2 m3:Nat)(rooms2:Sl)(f3_b f3_o:Nat)(c7:OA)(i9 n10 want11 was12 s13:Int):WP:=CG PR Fm jn (bE Tryz.f6 [1,1,1,1,1,0,1,0,0,1,0,0,1,1,0,1,0,0]) (A0f jn Q m2) (rE Tryz.f6 Q) m3 (us 2 ((.l rooms2.a rooms2.n rooms2.c)::(pq f3_b f3_o)::us 3 ((.p c7)::us 1 ((.i i9)::(.i n10)::(.i want11)::(.i was12)::(.i s13)::us 107 []))))
def XU:EW:=cE Tryz.f6 Fm jn Q [1,1,1,1,1,1] (rE Tryz.f6 Q) A5
def A0i:WP:=jn 58 (XU jn Q) (us 121 [])
def Adj(m2:Nat)(rooms2:Sl)(f3_b f3_o:Nat)(c7:OA)(i9:Int):WP:=CG PR Fm jn (bE Tryz.f6 [1,1,1,1,1,0,1,0,0]) (A6 0 (XT jn Q) A5) (rE Tryz.f6 Q) m2 (us 2 ((.l rooms2.a rooms2.n rooms2.c)::(pq f3_b f3_o)::us 3 ((.p c7)::us 1 ((.i i9)::us 111 []))))
def Ade:EW:=cE Tryz.f6 Fm jn Q [1,1] (rE Tryz.f6 Q) A5
def A20(l1 rooms2:Sl)(f3_b f3_o:Nat):WP:=jn 8 (Ade jn Q) (us 1 ((.l l1.a l1.n l1.c)::(.l rooms2.a rooms2.n rooms2.c)::(pq f3_b f3_o)::us 117 []))
def SS:KP:=⟨[(7,[0,3]),(10,[0,3]),(14,[])],[]⟩
def Anr:EW:=sE Tryz.f9 SS jn Q [1,1] (rE Tryz.f9 Q) A5
def A22(m1:Nat):EW:=Ib PR SS jn (bE Tryz.f9 [1,0,1,0,0]) (A6 0 (Anr jn Q) A5) (rE Tryz.f9 Q) m1
def Ado(m1:Nat):EW:=cE Tryz.f9 SS jn Q [1,0,1,0,0,1] (A22 jn Q m1) (A6 0 (Anr jn Q) A5)
def A23(m1:Nat)(l0:Sl)(i3:Int):WP:=jn 10 (Ado jn Q m1) ((.l l0.a l0.n l0.c)::us 2 ((.i i3)::us 26 []))
def Adp:EW:=cE Tryz.f9 SS jn Q [1,1] (rE Tryz.f9 Q) A5
def Ayi:WP:=jn 14 (Adp jn Q) (us 30 [])
def Adq(m1:Nat)(l0:Sl)(i3:Int):WP:=CG PR SS jn (bE Tryz.f9 [1,0,1,0,0]) (A6 0 (Anr jn Q) A5) (rE Tryz.f9 Q) m1 ((.l l0.a l0.n l0.c)::us 2 ((.i i3)::us 26 []))
def Av:KP:=⟨[],[]⟩
def Ajf:KP:=⟨[(10,[1])],[]⟩
def Wu:EW:=cE Tryz.f12 Ajf jn Q [1,1,1] (rE Tryz.f12 Q) A5
def Azg(c1:OA):WP:=jn 10 (Wu jn Q) (us 1 ((.p c1)::us 31 []))
def Ud:KP:=⟨[(9,[0,5,8,9,10]),(16,[5])],[]⟩
def Azh:EW:=sE Tryz.f14 Ud jn Q [1,1,1] (rE Tryz.f14 Q) A5
def W4:EW:=cE Tryz.f14 Ud jn Q [1,1,1] (rE Tryz.f14 Q) A5
def Azi(all5:Sl):WP:=jn 16 (W4 jn Q) (us 5 ((.l all5.a all5.n all5.c)::us 16 []))
def Ue(m1:Nat)(c0:OA)(all5 t8:Sl)(t9 t10:Int):WP:=CG PR Ud jn (bE Tryz.f14 [1,1,0,1,0,0]) (A6 0 (Azh jn Q) A5) (rE Tryz.f14 Q) m1 ((.p c0)::us 4 ((.l all5.a all5.n all5.c)::us 2 ((.l t8.a t8.n t8.c)::(.i t9)::(.i t10)::us 11 [])))
def Uk:KP:=⟨[(12,[0,3,4,5,24]),(14,[0,3,4,5])],[(6,[0,1,2,3,4])]⟩
def Azj:EW:=sE Tryz.f15 Uk jn Q [1,1,1,1] (rE Tryz.f15 Q) A5
def WB:EW:=cE Tryz.f15 Uk jn Q [1,1,1,1] (rE Tryz.f15 Q) A5
def Azk(c0:OA)(o3b o3o t4b t4o kinds5b kinds5o:Nat):WP:=jn 14 (WB jn Q) ((.p c0)::us 2 ((pq o3b o3o)::(pq t4b t4o)::(pq kinds5b kinds5o)::us 27 []))
def WA:EW:=cE Tryz.f15 Uk jn Q [1,1,1,0,1] (Azj jn Q) A5
def Ei(c0:OA)(o3b o3o t4b t4o kinds5b kinds5o:Nat)(t24:Bool):WP:=jn 12 (WA jn Q) ((.p c0)::us 2 ((pq o3b o3o)::(pq t4b t4o)::(pq kinds5b kinds5o)::us 18 ((.b t24)::us 8 [])))
def Ul:KP:=⟨[(13,[3,11,12,13]),(20,[3])],[]⟩
def Azl:EW:=sE Tryz.f18 Ul jn Q [1,1,1,1] (rE Tryz.f18 Q) A5
def WF:EW:=cE Tryz.f18 Ul jn Q [1,1,1,1] (rE Tryz.f18 Q) A5
def Azm(n3:Int):WP:=jn 20 (WF jn Q) (us 3 ((.i n3)::us 19 []))
def Um(m1:Nat)(n3:Int)(t11:Sl)(t12 t13:Int):WP:=CG PR Ul jn (bE Tryz.f18 [1,1,1,0,1,0,0]) (A6 0 (Azl jn Q) A5) (rE Tryz.f18 Q) m1 (us 3 ((.i n3)::us 7 ((.l t11.a t11.n t11.c)::(.i t12)::(.i t13)::us 9 [])))
def Ln:KP:=⟨[(8,[0,1])],[]⟩
def WL:EW:=cE Tryz.f19 Ln jn Q [1,1] (rE Tryz.f19 Q) A5
def Azn(c0:OA)(i1:Int):WP:=jn 8 (WL jn Q) ((.p c0)::(.i i1)::us 25 [])
def Po:KP:=⟨[(8,[1]),(13,[1,4,48,49]),(24,[1,4])],[(11,[0,1,2,3,4,8,9,10,11,12])]⟩
def Azo:EW:=sE Tryz.f27 Po jn Q [1,1,1,1] (rE Tryz.f27 Q) A5
def Xc:EW:=cE Tryz.f27 Po jn Q [1,1,1,1] (rE Tryz.f27 Q) A5
def Ald(c1b c1o x4b x4o:Nat):WP:=jn 24 (Xc jn Q) (us 1 ((pq c1b c1o)::us 2 ((pq x4b x4o)::us 91 [])))
def U1(m2:Nat)(c1b c1o x4b x4o:Nat)(t48 t49:Int):WP:=CG PR Po jn (bE Tryz.f27 [1,1,1,0,1,0,0]) (A6 0 (Azo jn Q) A5) (rE Tryz.f27 Q) m2 (us 1 ((pq c1b c1o)::us 2 ((pq x4b x4o)::us 43 ((.i t48)::(.i t49)::us 46 []))))
def Xb:EW:=cE Tryz.f27 Po jn Q [1,1] (rE Tryz.f27 Q) A5
def Azp(c1b c1o:Nat):WP:=jn 8 (Xb jn Q) (us 1 ((pq c1b c1o)::us 94 []))
def Azq:KP:=⟨[],[(1,[0,1,2,4,5,6,7,8,9,11,12,13,14,15,16,18,20,22]),(3,[0,1,2,3,4])]⟩
def Azr:KP:=⟨[],[(1,[0,1,2,4,5,6,7,8,9,10,11,12,13,15,16,17,18,20]),(3,[0,1,2,3,4])]⟩
def Azs:KP:=⟨[],[(1,[0,1,2,4,5,6,7,8,9,11,12,13,14,15,17,19])]⟩
def J5:KP:=⟨[(6,[0,3,4,19]),(8,[0,3,4]),(13,[0,4,33,34,35]),(20,[4])],[(1,[0,2,3,4,5,6,7,8,10,11,12]),(3,[0,1,2,3,4,6,7,8]),(7,[0,1,2,3,4,5,9])]⟩
def Azt:EW:=sE Tryz.f31 J5 jn Q [1,1] (rE Tryz.f31 Q) A5
def Azu:EW:=sE Tryz.f31 J5 jn Q [1,1,1,1] (rE Tryz.f31 Q) A5
def Xq:EW:=cE Tryz.f31 J5 jn Q [1,1,1,1] (rE Tryz.f31 Q) A5
def Azw(r4b r4o:Nat):WP:=jn 20 (Xq jn Q) (us 4 ((pq r4b r4o)::us 46 []))
def UA(m3:Nat)(c0:OA)(r4b r4o:Nat)(t33:Sl)(t34 t35:Int):WP:=CG PR J5 jn (bE Tryz.f31 [1,1,1,0,1,0,0]) (A6 0 (Azu jn Q) A5) (rE Tryz.f31 Q) m3 ((.p c0)::us 3 ((pq r4b r4o)::us 28 ((.l t33.a t33.n t33.c)::(.i t34)::(.i t35)::us 15 [])))
def Xp:EW:=cE Tryz.f31 J5 jn Q [1,1] (rE Tryz.f31 Q) A5
def Azv(c0:OA)(o3b o3o r4b r4o:Nat):WP:=jn 8 (Xp jn Q) ((.p c0)::us 2 ((pq o3b o3o)::(pq r4b r4o)::us 46 []))
def Xo:EW:=cE Tryz.f31 J5 jn Q [1,0,1] (Azt jn Q) A5
def ZC(c0:OA)(o3b o3o r4b r4o:Nat)(t19:Bool):WP:=jn 6 (Xo jn Q) ((.p c0)::us 2 ((pq o3b o3o)::(pq r4b r4o)::us 14 ((.b t19)::us 31 [])))
def Amr:KP:=⟨[(10,[4,5,6])],[(1,[0,1,2,3,4,5,6,9,10,12,13,14,15,16])]⟩
def Xy:EW:=cE Tryz.f34 Amr jn Q [1,1,1] (rE Tryz.f34 Q) A5
def ZG(t4b t4o:Nat)(pick5:Int)(change6:Bool):WP:=jn 10 (Xy jn Q) (us 4 ((pq t4b t4o)::(.i pick5)::(.b change6)::us 23 []))
def Azx:KP:=⟨[],[(1,[0,1,2,3,4,7])]⟩
def J6:KP:=⟨[(6,[0,3,4,16]),(8,[0,3,4]),(11,[0,3,4,21,22,23]),(20,[0,3,4])],[(9,[0,1,2,3,4,5,6,7,8,10,11])]⟩
def Azy:EW:=sE Tryz.f36 J6 jn Q [1,1] (rE Tryz.f36 Q) A5
def Azz:EW:=sE Tryz.f36 J6 jn Q [1,1,1] (rE Tryz.f36 Q) A5
def XG:EW:=cE Tryz.f36 J6 jn Q [1,1,1] (rE Tryz.f36 Q) A5
def Az1(c0:OA)(o3b o3o r4b r4o:Nat):WP:=jn 20 (XG jn Q) ((.p c0)::us 2 ((pq o3b o3o)::(pq r4b r4o)::us 49 []))
def UH(m3:Nat)(c0:OA)(o3b o3o r4b r4o:Nat)(t21:Sl)(t22 t23:Int):WP:=CG PR J6 jn (bE Tryz.f36 [1,1,0,1,0,0]) (A6 0 (Azz jn Q) A5) (rE Tryz.f36 Q) m3 ((.p c0)::us 2 ((pq o3b o3o)::(pq r4b r4o)::us 16 ((.l t21.a t21.n t21.c)::(.i t22)::(.i t23)::us 30 [])))
def XF:EW:=cE Tryz.f36 J6 jn Q [1,1] (rE Tryz.f36 Q) A5
def Az0(c0:OA)(o3b o3o r4b r4o:Nat):WP:=jn 8 (XF jn Q) ((.p c0)::us 2 ((pq o3b o3o)::(pq r4b r4o)::us 49 []))
def XE:EW:=cE Tryz.f36 J6 jn Q [1,0,1] (Azy jn Q) A5
def ZI(c0:OA)(o3b o3o r4b r4o:Nat)(t16:Bool):WP:=jn 6 (XE jn Q) ((.p c0)::us 2 ((pq o3b o3o)::(pq r4b r4o)::us 11 ((.b t16)::us 37 [])))
def Anf:KP:=⟨[(12,[0,1,2])],[]⟩
def XJ:EW:=cE Tryz.f48 Anf jn Q [1,1] (rE Tryz.f48 Q) A5
def Az2(kind0 hold1:Int)(t2:OA):WP:=jn 12 (XJ jn Q) ((.i kind0)::(.i hold1)::(.p t2)::us 23 [])
def Az3:KP:=⟨[],[(1,[0,1,2,3,4,5,6,7,9,11,13])]⟩
def Pt:KP:=⟨[(8,[0,1]),(11,[1,21,22]),(18,[])],[]⟩
def Az4:EW:=sE Tryz.f52 Pt jn Q [1,1,1] (rE Tryz.f52 Q) A5
def XL:EW:=cE Tryz.f52 Pt jn Q [1,1,1] (rE Tryz.f52 Q) A5
def Az6:WP:=jn 18 (XL jn Q) (us 29 [])
def ZP(m2:Nat)(key1:BA)(t21_0 t21_1 t21_2 t21_3 t21_4:OA)(t22:Int):WP:=CG PR Pt jn (bE Tryz.f52 [1,1,0,1,0,0]) (A6 0 (Az4 jn Q) A5) (rE Tryz.f52 Q) m2 (us 1 ((.s key1)::us 19 ((.agg #[.p t21_0,.p t21_1,.p t21_2,.p t21_3,.p t21_4])::(.i t22)::us 6 [])))
def XK:EW:=cE Tryz.f52 Pt jn Q [1,1] (rE Tryz.f52 Q) A5
def Az5(p0:OA)(key1:BA):WP:=jn 8 (XK jn Q) ((.p p0)::(.s key1)::us 27 [])
def UN:KP:=⟨[(20,[0,1,2,3,4,14,57]),(26,[0,1,2,3,4,14])],[(8,[0,1,2,4,6,7,8,9,10,12,13,14,15,17,18])]⟩
def Au8:EW:=sE Tryz.f53 UN jn Q [1,1,1,1,1,1] (rE Tryz.f53 Q) A5
def XN:EW:=cE Tryz.f53 UN jn Q [1,1,1,1,1,1] (rE Tryz.f53 Q) A5
def Az7(s0:OA)(key1 val2:BA)(now3 life4:Int)(gone14:Sl):WP:=jn 26 (XN jn Q) ((.p s0)::(.s key1)::(.s val2)::(.i now3)::(.i life4)::us 9 ((.l gone14.a gone14.n gone14.c)::us 90 []))
def XM:EW:=cE Tryz.f53 UN jn Q [1,1,1,1,1,0,1] (Au8 jn Q) A5
def UM(s0:OA)(key1 val2:BA)(now3 life4:Int)(gone14:Sl)(t57:Bool):WP:=jn 20 (XM jn Q) ((.p s0)::(.s key1)::(.s val2)::(.i now3)::(.i life4)::us 9 ((.l gone14.a gone14.n gone14.c)::us 42 ((.b t57)::us 47 [])))
def Pu:KP:=⟨[(8,[0,1]),(13,[0,1,5,20,21,22]),(20,[5])],[]⟩
def Az8:EW:=sE Tryz.f55 Pu jn Q [1,1,1,1] (rE Tryz.f55 Q) A5
def XP:EW:=cE Tryz.f55 Pu jn Q [1,1,1,1] (rE Tryz.f55 Q) A5
def A0a(gone5:Sl):WP:=jn 20 (XP jn Q) (us 5 ((.l gone5.a gone5.n gone5.c)::us 28 []))
def UO(m2:Nat)(s0:OA)(now1:Int)(gone5 t20:Sl)(t21 t22:Int):WP:=CG PR Pu jn (bE Tryz.f55 [1,1,1,0,1,0,0]) (A6 0 (Az8 jn Q) A5) (rE Tryz.f55 Q) m2 ((.p s0)::(.i now1)::us 3 ((.l gone5.a gone5.n gone5.c)::us 14 ((.l t20.a t20.n t20.c)::(.i t21)::(.i t22)::us 11 [])))
def XO:EW:=cE Tryz.f55 Pu jn Q [1,1] (rE Tryz.f55 Q) A5
def Az9(s0:OA)(now1:Int):WP:=jn 8 (XO jn Q) ((.p s0)::(.i now1)::us 32 [])
def Ang:KP:=⟨[(24,[0,8])],[(3,[0,1,2,3,4,6,8,9]),(4,[0,1,2,3,4,5,6,10]),(11,[0,1,2,3,4,5,6,8])]⟩
def XQ:EW:=cE Tryz.f58 Ang jn Q [1,1,1,1,1] (rE Tryz.f58 Q) A5
def ZU(c0:OA)(pick8:Int):WP:=jn 24 (XQ jn Q) ((.p c0)::us 7 ((.i pick8)::us 72 []))
def UP:KP:=⟨[(11,[2,3,13,14]),(20,[2,3])],[(7,[0,1,2,3,4,5,7])]⟩
def A0b:EW:=sE Tryz.f59 UP jn Q [1,1,1] (rE Tryz.f59 Q) A5
def XR:EW:=cE Tryz.f59 UP jn Q [1,1,1] (rE Tryz.f59 Q) A5
def A0c(ghosts2b ghosts2o:Nat)(all3:Int):WP:=jn 20 (XR jn Q) (us 2 ((pq ghosts2b ghosts2o)::(.i all3)::us 25 []))
def ZX(m1:Nat)(ghosts2b ghosts2o:Nat)(all3:Int)(t13_0 t13_1 t13_2 t13_3 t13_4:OA)(t14:Int):WP:=CG PR UP jn (bE Tryz.f59 [1,1,0,1,0,0]) (A6 0 (A0b jn Q) A5) (rE Tryz.f59 Q) m1 (us 2 ((pq ghosts2b ghosts2o)::(.i all3)::us 9 ((.agg #[.p t13_0,.p t13_1,.p t13_2,.p t13_3,.p t13_4])::(.i t14)::us 14 [])))
def Anh:KP:=⟨[(5,[1,9,10,11])],[]⟩
def UQ(m1:Nat)(kind1:Int)(t9:Sl)(t10 t11:Int):WP:=CG PR Anh jn (bE Tryz.f60 [1,0,0]) (A6 0 (rE Tryz.f60 Q) A5) (rE Tryz.f60 Q) m1 (us 1 ((.i kind1)::us 7 ((.l t9.a t9.n t9.c)::(.i t10)::(.i t11)::us 7 [])))
def XS:EW:=cE Tryz.f63 Ln jn Q [1,1] (rE Tryz.f63 Q) A5
def A0d(s0:OA)(room1:Int):WP:=jn 8 (XS jn Q) ((.p s0)::(.i room1)::us 24 [])
def Ani:KP:=⟨[(9,[0,16])],[(5,[0,1,2,3,4,5,8,9,10,11,12,13])]⟩
def ZZ(m1:Nat)(p0:OA)(t16:Int):WP:=CG PR Ani jn (bE Tryz.f64 [1,1,1,0,0]) (A6 0 (rE Tryz.f64 Q) A5) (rE Tryz.f64 Q) m1 ((.p p0)::us 15 ((.i t16)::us 17 []))
def UR:KP:=⟨[(13,[3,11,12,13]),(22,[3])],[]⟩
def A0k:EW:=sE Tryz.f71 UR jn Q [1,1,1,1] (rE Tryz.f71 Q) A5
def XV:EW:=cE Tryz.f71 UR jn Q [1,1,1,1] (rE Tryz.f71 Q) A5
def A0l(l3:Sl):WP:=jn 22 (XV jn Q) (us 3 ((.l l3.a l3.n l3.c)::us 25 []))
def P0(m1:Nat)(l3 t11:Sl)(t12 t13:Int):WP:=CG PR UR jn (bE Tryz.f71 [1,1,1,0,1,0,0]) (A6 0 (A0k jn Q) A5) (rE Tryz.f71 Q) m1 (us 3 ((.l l3.a l3.n l3.c)::us 7 ((.l t11.a t11.n t11.c)::(.i t12)::(.i t13)::us 15 [])))
end
variable{jn:Jn}{Q:VW}{c0 s0 c7 p0 t0 m0 t2 x0:OA}{m2 f3_b f3_o m1 o3b o3o r4b r4o m6 m3 t4b t4o c1b c1o kinds5b kinds5o x4b x4o ghosts2b ghosts2o:Nat}{rooms2 l1 l0 f0_7 c0_7 all5 t11 gone14 gone5 l3:Sl}{o1_0 o1_3 i9 room1 s15 t22 kind0 now3 life4 now1 kind1 n10 want11 was12 f0_0 f0_1 f0_2 f0_3 f0_4 f0_5 f0_6 i3 c0_0 c0_1 c0_2 c0_3 c0_4 c0_5 c0_6 t10 n3 t12 t13 i1 rate0 room0 hold1 now2 all3:Int}{o1_1 o1_2 key1 val2:BA}
theorem Af2:Adh jn Q m2 m6 (us 2 ((.l rooms2.a rooms2.n rooms2.c)::(pq f3_b f3_o)::us 3 ((.p c7)::us 1 ((.i i9)::us 5 ((.i s15)::us 105 [])))))=(Adl jn Q m2 m6 rooms2 f3_b f3_o c7 i9 (IntKind.wrap .i64 (s15+1))):=by kernel_rfl
theorem SR{m7:Nat}{k16:Sl}{j17:Int}:Adm jn Q m2 m6 (m7+1) rooms2 f3_b f3_o c7 i9 s15 k16 j17=(Aj (decide (j17<(k16.n:Int))) (C7 k16.a k16.n j17 λB42 O43=>BR B42 (O43+j17.toNat*1) λX44=>λw=>Calls PR 15 #[.p c7,.agg #[.i 1,.s X44,.s Ae,.i 0]] w λe w'=>∃X45:Int,∃X46:Bool,∃X47:BA,∃X48:Sl,e = .returned (.agg #[.i X45,.b X46,.s X47,.l X48.a X48.n X48.c])/\(Aj (!X46) (Q (.b false)) (Adm jn Q m2 m6 m7 rooms2 f3_b f3_o c7 i9 s15 k16 (IntKind.wrap .i64 (j17+1)))) w') (Ayg jn Q m2 m6 rooms2 f3_b f3_o c7 i9 s15)):=by kernel_rfl
theorem Af3:Adi jn Q m2 (us 2 ((.l rooms2.a rooms2.n rooms2.c)::(pq f3_b f3_o)::us 3 ((.p c7)::us 1 ((.i i9)::us 111 []))))=(Adj jn Q m2 rooms2 f3_b f3_o c7 (IntKind.wrap .i64 (i9+1))):=by kernel_rfl
theorem SQ:Adl jn Q m2 (m6+1) rooms2 f3_b f3_o c7 i9 s15=(Ax f3_b f3_o λX39=>Aj (decide (s15<X39)) (J1 19 [.p c7,.i s15] λX40=>F9 21 [.p X40] λX41=>D3 λm=>Adm jn Q m2 m6 m rooms2 f3_b f3_o c7 i9 s15 X41 0) (Ayh jn Q m2 rooms2 f3_b f3_o c7 i9)):=by kernel_rfl
theorem Af1:Adg jn Q m2 (us 2 ((.l rooms2.a rooms2.n rooms2.c)::(pq f3_b f3_o)::us 3 ((.p c7)::us 1 ((.i i9)::us 111 []))))=(D3 λm=>Adl jn Q m2 m rooms2 f3_b f3_o c7 i9 0):=by kernel_rfl
theorem Af0:Adf jn Q m2 (us 2 ((.l rooms2.a rooms2.n rooms2.c)::(pq f3_b f3_o)::us 3 ((.p c7)::us 1 ((.i i9)::(.i n10)::(.i want11)::(.i was12)::us 108 []))))=(λw=>Calls PR 15 #[.p c7,.agg #[.i 9,.s Ae,.s Ae,.i n10]] w λe w'=>∃X31:Int,∃X32:Bool,∃X33:BA,∃X34:Sl,e = .returned (.agg #[.i X31,.b X32,.s X33,.l X34.a X34.n X34.c])/\(A0 [.i 0,.b false,.s Ae,.l none 0 0] 38 λB35=>st B35 0 (.i X31)<|st B35 1 (.b X32)<|st B35 2 (.s X33)<|
 st B35 3 (.l X34.a X34.n X34.c)<|Ax B35 0 λX36=>Aj (X36 != 0) (Q (.b false)) (Bp 18 [.p c7] λX37=>Aj (X37 != want11) (Q (.b false)) (AY B35 3 λX38=>Aj ((X38.n:Int) != (IntKind.wrap .i64 (was12-want11))) (Q (.b false)) (A21 jn Q m2 rooms2 f3_b f3_o c7 i9)))) w'):=by kernel_rfl
theorem SP{s13:Int}:Adk jn Q m2 (m3+1) rooms2 f3_b f3_o c7 i9 n10 want11 was12 s13=(Ax f3_b f3_o λX28=>Aj (decide (s13<X28)) (J1 19 [.p c7,.i s13] λX29=>Bp 20 [.p X29] λX30=>Adk jn Q m2 m3 rooms2 f3_b f3_o c7 i9 n10 (IntKind.wrap .i64 (want11+(if X30<n10 then X30 else n10))) was12 (IntKind.wrap .i64 (s13+1))) (Ayf jn Q m2 rooms2 f3_b f3_o c7 i9 n10 want11 was12)):=by kernel_rfl
theorem Aaa:XU jn Q (us 121 [])=(D4 12 [] λX49=>Q (.b X49)):=by kernel_rfl
theorem SO:Adj jn Q (m2+1) rooms2 f3_b f3_o c7 i9=(Aj (decide (i9<(rooms2.n:Int))) (C7 rooms2.a rooms2.n i9 λB24 O25=>Ax B24 (O25+i9.toNat*1) λX26=>Bp 18 [.p c7] λX27=>D3 λm=>Adk jn Q m2 m rooms2 f3_b f3_o c7 i9 (IntKind.wrap .i64 (1+(bits .and .i64 X26 31))) 0 X27 0) (A0i jn Q)):=by kernel_rfl
theorem Afz:Ade jn Q (us 1 ((.l l1.a l1.n l1.c)::(.l rooms2.a rooms2.n rooms2.c)::(pq f3_b f3_o)::us 117 []))=(Ax f3_b f3_o λX12=>Ax f3_b (f3_o+1) λX13=>Ax f3_b ((f3_o+1)+1) λX14=>Ax f3_b (((f3_o+1)+1)+1) λX15=>Ax f3_b ((((f3_o+1)+1)+1)+1) λX16=>Ax f3_b (((((f3_o+1)+1)+1)+1)+1) λX17=>Ax f3_b ((((((f3_o+1)+1)+1)+1)+1)+1) λX18=>AY f3_b (((((((f3_o+1)+1)+1)+1)+1)+1)+1) λX19=>Gh .ptr .bool PR 13 [.agg #[.i X12,.i X13,.i X14,.i X15,.i X16,.i X17,.i X18,.l X19.a X19.n X19.c]] λ(X20:OA)(X21:Bool)=>
 Aj (!X21) (D4 12 [] λX22=>Q (.b X22)) (AX ((0:Int)<=(if (150:Int)<(l1.n:Int) then (150:Int) else (l1.n:Int))/\(if (150:Int)<(l1.n:Int) then (150:Int) else (l1.n:Int))<=(l1.c:Int))<|F9 14 [.p X20,.l (Ht l1.a 0 l1.c 4) (((if 150<(l1.n:Int) then 150 else (l1.n:Int))).toNat-0) (l1.c-0)] λX23=>D3 λm=>Adj jn Q m rooms2 f3_b f3_o X20 0)):=by kernel_rfl
theorem A0j:Au jn PR Fm Tryz.f6 [.agg #[.i f0_0,.i f0_1,.i f0_2,.i f0_3,.i f0_4,.i f0_5,.i f0_6,.l f0_7.a f0_7.n f0_7.c],.l l1.a l1.n l1.c,.l rooms2.a rooms2.n rooms2.c] Q=(A0 [.i f0_0,.i f0_1,.i f0_2,.i f0_3,.i f0_4,.i f0_5,.i f0_6,.l f0_7.a f0_7.n f0_7.c] 24 λB1=>D4 9 [.l l1.a l1.n l1.c] λX2=>Aj X2 (Q (.b true)) (Ax B1 0 λX3=>Ax B1 1 λX4=>Ax B1 2 λX5=>Ax B1 3 λX6=>
 Ax B1 4 λX7=>Ax B1 5 λX8=>Ax B1 6 λX9=>AY B1 7 λX10=>D4 10 [.agg #[.i X3,.i X4,.i X5,.i X6,.i X7,.i X8,.i X9,.l X10.a X10.n X10.c]] λX11=>Aj (!X11) (Q (.b true)) (Aj (decide ((rooms2.n:Int)>6)) (Q (.b true)) (A20 jn Q l1 rooms2 B1 0)))):=by kernel_rfl
theorem Af4:Ado jn Q m1 ((.l l0.a l0.n l0.c)::us 2 ((.i i3)::us 26 []))=(C7 l0.a l0.n i3 λB1 O2=>BR B1 ((O2+i3.toNat*4)+1) λX3=>Aj (decide ((X3.size:Int)>40)) (Q (.b true)) (C7 l0.a l0.n i3 λB4 O5=>BR B4 ((O5+i3.toNat*4)+2) λX6=>Aj (decide ((X6.size:Int)>100)) (Q (.b true)) (Adq jn Q m1 l0 (IntKind.wrap .i64 (i3+1))))):=by kernel_rfl
theorem IS:Adp jn Q (us 30 [])=(Q (.b false)):=by kernel_rfl
theorem SU:Adq jn Q (m1+1) l0 i3=(Aj (decide (i3<(l0.n:Int))) (Aj (decide (i3<150)) (A23 jn Q m1 l0 i3) (Ayi jn Q)) (Ayi jn Q)):=by kernel_rfl
theorem A0y:Au jn PR SS Tryz.f9 [.l l0.a l0.n l0.c] Q=(D3 λm=>Adq jn Q m l0 0):=by kernel_rfl
theorem Aq7:Au jn PR Av Tryz.f10 [.agg #[.i c0_0,.i c0_1,.i c0_2,.i c0_3,.i c0_4,.i c0_5,.i c0_6,.l c0_7.a c0_7.n c0_7.c]] Q=(A0 [.i c0_0,.i c0_1,.i c0_2,.i c0_3,.i c0_4,.i c0_5,.i c0_6,.l c0_7.a c0_7.n c0_7.c] 24 λB1=>Ax B1 1 λX2=>Aj (decide (X2<=64)) (Ax B1 2 λX3=>Aj (decide (X3<=64)) (Ax B1 3 λX4=>Aj (decide (X4<=64)) (AY B1 7 λX5=>Q (.b (decide ((X5.n:Int)<=100)))) (Q (.b false))) (Q (.b false))) (
 Q (.b false))):=by kernel_rfl
theorem Z5{c1:OA}:Wu jn Q (us 1 ((.p c1)::us 31 []))=(λw=>Calls PR 15 #[.p c1,.agg #[.i 2,.s QL,.s QM,.i 0]] w λe w'=>∃X3:Int,∃X4:Bool,∃X5:BA,∃X6:Sl,e = .returned (.agg #[.i X3,.b X4,.s X5,.l X6.a X6.n X6.c])/\(λw=>Calls PR 15 #[.p c1,.agg #[.i 1,.s QL,.s Ae,.i 0]] w λe w'=>∃X7:Int,∃X8:Bool,∃X9:BA,∃X10:Sl,e = .returned (.agg #[.i X7,.b X8,.s X9,.l X10.a X10.n X10.c])/\(A0 [.i 0,.b false,.s Ae,.l none 0 0] 38 λB11=>st B11 0 (.i X7)<|st B11 1 (.b X8)<|st B11 2 (.s X9)<|
 st B11 3 (.l X10.a X10.n X10.c)<|Ia B11 1 λX12=>Aj X12 (BR B11 2 λX13=>Aj (sEq X13 QM) (Ax B11 0 λX14=>Q (.b (X14==0))) (Q (.b false))) (Q (.b false))) w') w'):=by kernel_rfl
theorem Ari:Au jn PR Ajf Tryz.f12 [] Q=(Aby 27 [.agg #[.i 1,.i 2,.i 2,.i 2,.i 0,.i 1,.i 0,.l none 0 0]] λX1 X2=>Aj (X2 != 0) (Q (.b false)) (Aj (Option.isNone X1) (Q (.b false)) (Azg jn Q X1))):=by kernel_rfl
theorem Arn:Au jn PR Av Tryz.f13 [.agg #[.i f0_0,.i f0_1,.i f0_2,.i f0_3,.i f0_4,.i f0_5,.i f0_6,.l f0_7.a f0_7.n f0_7.c]] Q=(A0 [.i f0_0,.i f0_1,.i f0_2,.i f0_3,.i f0_4,.i f0_5,.i f0_6,.l f0_7.a f0_7.n f0_7.c] 24 λB1=>Ax B1 0 λX2=>Ax B1 1 λX3=>Ax B1 2 λX4=>Ax B1 3 λX5=>Ax B1 4 λX6=>Ax B1 5 λX7=>Ax B1 6 λX8=>AY B1 7 λX9=>Aby 27 [.agg #[.i X2,.i X3,.i X4,.i X5,.i X6,.i X7,.i X8,.l X9.a X9.n X9.c]] λX10 X11=>
 Aj (X11 != 0) (Q (.tuple #[.p none,.b false])) (Q (.tuple #[.p X10,.b true]))):=by kernel_rfl
theorem Z6:W4 jn Q (us 5 ((.l all5.a all5.n all5.c)::us 16 []))=(Q (.l all5.a all5.n all5.c)):=by kernel_rfl
theorem Pk{t8:Sl}{t9:Int}:Ue jn Q (m1+1) c0 all5 t8 t9 t10=(Aj (decide (t10<t9)) (C7 t8.a t8.n t10 λB1 O2=>Ax B1 (O2+t10.toNat*4) λX3=>BR B1 ((O2+t10.toNat*4)+1) λX4=>BR B1 (((O2+t10.toNat*4)+1)+1) λX5=>Ax B1 ((((O2+t10.toNat*4)+1)+1)+1) λX6=>A0 [.i 0,.s Ae,.s Ae,.i 0] 41 λB7=>st B7 0 (.i X3)<|st B7 1 (.s X4)<|st B7 2 (.s X5)<|st B7 3 (.i X6)<|Ax B7 0 λX8=>BR B7 1 λX9=>BR B7 2 λX10=>Ax B7 3 λX11=>λw=>Calls PR 15 #[.p c0,.agg #[.i X8,.s X9,.s X10,.i X11]] w λe w'=>∃X12:Int,∃X13:Bool,∃X14:BA,∃X15:Sl,e = .returned (.agg #[.i X12,.b X13,.s X14,.l X15.a X15.n X15.c])/\(
 A0 [.i X12,.b X13,.s X14,.l X15.a X15.n X15.c] 38 λB16=>Bt 38 4 56 [.i 0,.b false,.s Ae,.l none 0 0] ⟨all5.a,all5.n,all5.c⟩ 1 (λw=>HM w (some ⟨B16,0,none⟩) (1*4)) λG17=>Ue jn Q m1 c0 G17 t8 t9 (IntKind.wrap .i64 (t10+1))) w') (Azi jn Q all5)):=by kernel_rfl
theorem Arw:Au jn PR Ud Tryz.f14 [.p c0,.l l1.a l1.n l1.c] Q=(D3 λm=>Ue jn Q m c0 ⟨none,0,0⟩ l1 (l1.n:Int) 0):=by kernel_rfl
theorem Z7:WB jn Q ((.p c0)::us 2 ((pq o3b o3o)::(pq t4b t4o)::(pq kinds5b kinds5o)::us 27 []))=(A4 λS=>Ep S o3b o3o λX13=>AX ((0:Int)<=X13/\X13<((10:Nat):Int))<|A1e S kinds5b (kinds5o+X13.toNat*1) (Ax o3b o3o λX14=>BR o3b (o3o+1) λX15=>BR o3b ((o3o+1)+1) λX16=>Ax o3b (((o3o+1)+1)+1) λX17=>Ao true S<|C9) [
 (15,
 Ax o3b o3o λX18=>BR o3b (o3o+1) λX19=>BR o3b ((o3o+1)+1) λX20=>Ax o3b (((o3o+1)+1)+1) λX21=>Ao true S<|λw=>Calls PR 15 #[.p c0,.agg #[.i X18,.s X19,.s X20,.i X21]] w λe w'=>∃X22:Int,∃X23:Bool,∃X24:BA,∃X25:Sl,e = .returned (.agg #[.i X22,.b X23,.s X24,.l X25.a X25.n X25.c])/\(st t4b t4o (.i X22)<|st t4b (t4o+1) (.b X23)<|st t4b ((t4o+1)+1) (.s X24)<|st t4b (((t4o+1)+1)+1) (.l X25.a X25.n X25.c)<|Ax t4b t4o λX26=>Ia t4b (t4o+1) λX27=>BR t4b ((t4o+1)+1) λX28=>AY t4b (((t4o+1)+1)+1) λX29=>
 Q (.agg #[.i X26,.b X27,.s X28,.l X29.a X29.n X29.c])) w'),
 (28,
 Ax o3b o3o λX30=>BR o3b (o3o+1) λX31=>BR o3b ((o3o+1)+1) λX32=>Ax o3b (((o3o+1)+1)+1) λX33=>Ao true S<|λw=>Calls PR 28 #[.p c0,.agg #[.i X30,.s X31,.s X32,.i X33]] w λe w'=>∃X34:Int,∃X35:Bool,∃X36:BA,∃X37:Sl,e = .returned (.agg #[.i X34,.b X35,.s X36,.l X37.a X37.n X37.c])/\(st t4b t4o (.i X34)<|st t4b (t4o+1) (.b X35)<|st t4b ((t4o+1)+1) (.s X36)<|st t4b (((t4o+1)+1)+1) (.l X37.a X37.n X37.c)<|Ax t4b t4o λX38=>Ia t4b (t4o+1) λX39=>BR t4b ((t4o+1)+1) λX40=>AY t4b (((t4o+1)+1)+1) λX41=>
 Q (.agg #[.i X38,.b X39,.s X40,.l X41.a X41.n X41.c])) w'),
 (29,
 Ax o3b o3o λX42=>BR o3b (o3o+1) λX43=>BR o3b ((o3o+1)+1) λX44=>Ax o3b (((o3o+1)+1)+1) λX45=>Ao true S<|λw=>Calls PR 29 #[.p c0,.agg #[.i X42,.s X43,.s X44,.i X45]] w λe w'=>∃X46:Int,∃X47:Bool,∃X48:BA,∃X49:Sl,e = .returned (.agg #[.i X46,.b X47,.s X48,.l X49.a X49.n X49.c])/\(st t4b t4o (.i X46)<|st t4b (t4o+1) (.b X47)<|st t4b ((t4o+1)+1) (.s X48)<|st t4b (((t4o+1)+1)+1) (.l X49.a X49.n X49.c)<|Ax t4b t4o λX50=>Ia t4b (t4o+1) λX51=>BR t4b ((t4o+1)+1) λX52=>AY t4b (((t4o+1)+1)+1) λX53=>
 Q (.agg #[.i X50,.b X51,.s X52,.l X53.a X53.n X53.c])) w'),
 (30,
 Ax o3b o3o λX54=>BR o3b (o3o+1) λX55=>BR o3b ((o3o+1)+1) λX56=>Ax o3b (((o3o+1)+1)+1) λX57=>Ao true S<|λw=>Calls PR 30 #[.p c0,.agg #[.i X54,.s X55,.s X56,.i X57]] w λe w'=>∃X58:Int,∃X59:Bool,∃X60:BA,∃X61:Sl,e = .returned (.agg #[.i X58,.b X59,.s X60,.l X61.a X61.n X61.c])/\(st t4b t4o (.i X58)<|st t4b (t4o+1) (.b X59)<|st t4b ((t4o+1)+1) (.s X60)<|st t4b (((t4o+1)+1)+1) (.l X61.a X61.n X61.c)<|Ax t4b t4o λX62=>Ia t4b (t4o+1) λX63=>BR t4b ((t4o+1)+1) λX64=>AY t4b (((t4o+1)+1)+1) λX65=>
 Q (.agg #[.i X62,.b X63,.s X64,.l X65.a X65.n X65.c])) w'),
 (31,
 Ax o3b o3o λX66=>BR o3b (o3o+1) λX67=>BR o3b ((o3o+1)+1) λX68=>Ax o3b (((o3o+1)+1)+1) λX69=>Ao true S<|λw=>Calls PR 31 #[.p c0,.agg #[.i X66,.s X67,.s X68,.i X69]] w λe w'=>∃X70:Int,∃X71:Bool,∃X72:BA,∃X73:Sl,e = .returned (.agg #[.i X70,.b X71,.s X72,.l X73.a X73.n X73.c])/\(st t4b t4o (.i X70)<|st t4b (t4o+1) (.b X71)<|st t4b ((t4o+1)+1) (.s X72)<|st t4b (((t4o+1)+1)+1) (.l X73.a X73.n X73.c)<|Ax t4b t4o λX74=>Ia t4b (t4o+1) λX75=>BR t4b ((t4o+1)+1) λX76=>AY t4b (((t4o+1)+1)+1) λX77=>
 Q (.agg #[.i X74,.b X75,.s X76,.l X77.a X77.n X77.c])) w'),
 (32,
 Ax o3b o3o λX78=>BR o3b (o3o+1) λX79=>BR o3b ((o3o+1)+1) λX80=>Ax o3b (((o3o+1)+1)+1) λX81=>Ao true S<|λw=>Calls PR 32 #[.p c0,.agg #[.i X78,.s X79,.s X80,.i X81]] w λe w'=>∃X82:Int,∃X83:Bool,∃X84:BA,∃X85:Sl,e = .returned (.agg #[.i X82,.b X83,.s X84,.l X85.a X85.n X85.c])/\(st t4b t4o (.i X82)<|st t4b (t4o+1) (.b X83)<|st t4b ((t4o+1)+1) (.s X84)<|st t4b (((t4o+1)+1)+1) (.l X85.a X85.n X85.c)<|Ax t4b t4o λX86=>Ia t4b (t4o+1) λX87=>BR t4b ((t4o+1)+1) λX88=>AY t4b (((t4o+1)+1)+1) λX89=>
 Q (.agg #[.i X86,.b X87,.s X88,.l X89.a X89.n X89.c])) w'),
 (33,
 Ax o3b o3o λX90=>BR o3b (o3o+1) λX91=>BR o3b ((o3o+1)+1) λX92=>Ax o3b (((o3o+1)+1)+1) λX93=>Ao true S<|λw=>Calls PR 33 #[.p c0,.agg #[.i X90,.s X91,.s X92,.i X93]] w λe w'=>∃X94:Int,∃X95:Bool,∃X96:BA,∃X97:Sl,e = .returned (.agg #[.i X94,.b X95,.s X96,.l X97.a X97.n X97.c])/\(st t4b t4o (.i X94)<|st t4b (t4o+1) (.b X95)<|st t4b ((t4o+1)+1) (.s X96)<|st t4b (((t4o+1)+1)+1) (.l X97.a X97.n X97.c)<|Ax t4b t4o λX98=>Ia t4b (t4o+1) λX99=>BR t4b ((t4o+1)+1) λX100=>AY t4b (((t4o+1)+1)+1) λX101=>
 Q (.agg #[.i X98,.b X99,.s X100,.l X101.a X101.n X101.c])) w'),
 (34,
 Ax o3b o3o λX102=>BR o3b (o3o+1) λX103=>BR o3b ((o3o+1)+1) λX104=>Ax o3b (((o3o+1)+1)+1) λX105=>Ao true S<|λw=>Calls PR 34 #[.p c0,.agg #[.i X102,.s X103,.s X104,.i X105]] w λe w'=>∃X106:Int,∃X107:Bool,∃X108:BA,∃X109:Sl,e = .returned (.agg #[.i X106,.b X107,.s X108,.l X109.a X109.n X109.c])/\(st t4b t4o (.i X106)<|st t4b (t4o+1) (.b X107)<|st t4b ((t4o+1)+1) (.s X108)<|st t4b (((t4o+1)+1)+1) (.l X109.a X109.n X109.c)<|Ax t4b t4o λX110=>Ia t4b (t4o+1) λX111=>BR t4b ((t4o+1)+1) λX112=>
 AY t4b (((t4o+1)+1)+1) λX113=>Q (.agg #[.i X110,.b X111,.s X112,.l X113.a X113.n X113.c])) w'),
 (35,
 Ax o3b o3o λX114=>BR o3b (o3o+1) λX115=>BR o3b ((o3o+1)+1) λX116=>Ax o3b (((o3o+1)+1)+1) λX117=>Ao true S<|λw=>Calls PR 35 #[.p c0,.agg #[.i X114,.s X115,.s X116,.i X117]] w λe w'=>∃X118:Int,∃X119:Bool,∃X120:BA,∃X121:Sl,e = .returned (.agg #[.i X118,.b X119,.s X120,.l X121.a X121.n X121.c])/\(st t4b t4o (.i X118)<|st t4b (t4o+1) (.b X119)<|st t4b ((t4o+1)+1) (.s X120)<|st t4b (((t4o+1)+1)+1) (.l X121.a X121.n X121.c)<|Ax t4b t4o λX122=>Ia t4b (t4o+1) λX123=>BR t4b ((t4o+1)+1) λX124=>
 AY t4b (((t4o+1)+1)+1) λX125=>Q (.agg #[.i X122,.b X123,.s X124,.l X125.a X125.n X125.c])) w'),
 (36,
 Ax o3b o3o λX126=>BR o3b (o3o+1) λX127=>BR o3b ((o3o+1)+1) λX128=>Ax o3b (((o3o+1)+1)+1) λX129=>Ao true S<|λw=>Calls PR 36 #[.p c0,.agg #[.i X126,.s X127,.s X128,.i X129]] w λe w'=>∃X130:Int,∃X131:Bool,∃X132:BA,∃X133:Sl,e = .returned (.agg #[.i X130,.b X131,.s X132,.l X133.a X133.n X133.c])/\(st t4b t4o (.i X130)<|st t4b (t4o+1) (.b X131)<|st t4b ((t4o+1)+1) (.s X132)<|st t4b (((t4o+1)+1)+1) (.l X133.a X133.n X133.c)<|Ax t4b t4o λX134=>Ia t4b (t4o+1) λX135=>BR t4b ((t4o+1)+1) λX136=>
 AY t4b (((t4o+1)+1)+1) λX137=>Q (.agg #[.i X134,.b X135,.s X136,.l X137.a X137.n X137.c])) w')]):=by kernel_rfl
theorem Pm{t24:Bool}:WA jn Q ((.p c0)::us 2 ((pq o3b o3o)::(pq t4b t4o)::(pq kinds5b kinds5o)::us 18 ((.b t24)::us 8 [])))=(Aj t24 (st t4b t4o (.i 7)<|st t4b (t4o+1) (.b false)<|st t4b ((t4o+1)+1) (.s Ae)<|st t4b (((t4o+1)+1)+1) (.l none 0 0)<|Ax t4b t4o λX9=>Ia t4b (t4o+1) λX10=>BR t4b ((t4o+1)+1) λX11=>AY t4b (((t4o+1)+1)+1) λX12=>Q (.agg #[.i X9,.b X10,.s X11,.l X12.a X12.n X12.c])) (Azk jn Q c0 o3b o3o t4b t4o kinds5b kinds5o)):=by kernel_rfl
theorem Ary:Au jn PR Uk Tryz.f15 [.p c0,.agg #[.i o1_0,.s o1_1,.s o1_2,.i o1_3]] Q=(A0 [.i o1_0,.s o1_1,.s o1_2,.i o1_3] 41 λB1=>A0 [.i 0,.b false,.s Ae,.l none 0 0] 38 λB2=>Aj (Option.isNone c0) (st B2 0 (.i 1)<|st B2 1 (.b false)<|st B2 2 (.s Ae)<|st B2 3 (.l none 0 0)<|Ax B2 0 λX3=>Ia B2 1 λX4=>BR B2 2 λX5=>AY B2 3 λX6=>Q (.agg #[.i X3,.b X4,.s X5,.l X6.a X6.n X6.c])) (A0 [.nilFunc,.nilFunc,.nilFunc,.nilFunc,.nilFunc,.nilFunc,.nilFunc,.nilFunc,.nilFunc,.nilFunc] 64 λB7=>
 st B7 0 .nilFunc<|st B7 1 (.func (.func 28) #[] #[])<|st B7 2 (.func (.func 29) #[] #[])<|st B7 3 (.func (.func 30) #[] #[])<|st B7 4 (.func (.func 31) #[] #[])<|st B7 5 (.func (.func 32) #[] #[])<|st B7 6 (.func (.func 33) #[] #[])<|st B7 7 (.func (.func 34) #[] #[])<|st B7 8 (.func (.func 35) #[] #[])<|st B7 9 (.func (.func 36) #[] #[])<|Ax B1 0 λX8=>Aj (decide (X8<0)) (Ei jn Q c0 B1 0 B2 0 B7 0 true) (Ax B1 0 λX138=>Aj (decide (X138>=10)) (Ei jn Q c0 B1 0 B2 0 B7 0 true) (Ax B1 0 λX139=>AX ((0:Int)<=X139/\X139<((10:Nat):Int))<|ldV B7 (0+X139.toNat*1) (Ei jn Q c0 B1 0 B2 0 B7 0 true) [
 (15,
 Ei jn Q c0 B1 0 B2 0 B7 0 false),
 (28,
 Ei jn Q c0 B1 0 B2 0 B7 0 false),
 (29,
 Ei jn Q c0 B1 0 B2 0 B7 0 false),
 (30,
 Ei jn Q c0 B1 0 B2 0 B7 0 false),
 (31,
 Ei jn Q c0 B1 0 B2 0 B7 0 false),
 (32,
 Ei jn Q c0 B1 0 B2 0 B7 0 false),
 (33,
 Ei jn Q c0 B1 0 B2 0 B7 0 false),
 (34,
 Ei jn Q c0 B1 0 B2 0 B7 0 false),
 (35,
 Ei jn Q c0 B1 0 B2 0 B7 0 false),
 (36,
 Ei jn Q c0 B1 0 B2 0 B7 0 false)])))):=by kernel_rfl
theorem Z8:WF jn Q (us 3 ((.i n3)::us 19 []))=(Q (.i n3)):=by kernel_rfl
theorem Pn:Um jn Q (m1+1) n3 t11 t12 t13=(Aj (decide (t13<t12)) (C7 t11.a t11.n t13 λB4 O5=>Bo B4 (O5+t13.toNat*1) λX6=>Bp 20 [.p X6] λX7=>Um jn Q m1 (IntKind.wrap .i64 (n3+X7)) t11 t12 (IntKind.wrap .i64 (t13+1))) (Azm jn Q n3)):=by kernel_rfl
theorem Asa:Au jn PR Ul Tryz.f18 [.p c0] Q=(Aj (Option.isNone c0) (Q (.i 0)) (Ad c0 λB1 O2=>AY B1 O2 λX3=>D3 λm=>Um jn Q m 0 X3 (X3.n:Int) 0)):=by kernel_rfl
theorem Z9:WL jn Q ((.p c0)::(.i i1)::us 25 [])=(Ad c0 λB4 O5=>AY B4 O5 λX6=>C7 X6.a X6.n i1 λB7 O8=>Bo B7 (O8+i1.toNat*1) λX9=>Q (.p X9)):=by kernel_rfl
theorem Asg:Au jn PR Ln Tryz.f19 [.p c0,.i i1] Q=(Aj (Option.isNone c0) (Q (.p none)) (Aj (decide (i1<0)) (Q (.p none)) (Ad c0 λB1 O2=>AY B1 O2 λX3=>Aj (decide (i1>=(X3.n:Int))) (Q (.p none)) (Azn jn Q c0 i1)))):=by kernel_rfl
theorem Ash:Au jn PR Av Tryz.f20 [.p s0] Q=(Aj (Option.isNone s0) (Q (.i 0)) (Ad s0 λB1 O2=>Bo B1 O2 λX3=>Bp 40 [.p X3] λX4=>Q (.i X4))):=by kernel_rfl
theorem Asi:Au jn PR Av Tryz.f21 [.p s0] Q=(Aj (Option.isNone s0) (Q (.l none 0 0)) (Ad s0 λB1 O2=>Bo B1 O2 λX3=>F9 41 [.p X3] λX4=>Q (.l X4.a X4.n X4.c))):=by kernel_rfl
theorem ZB:Xc jn Q (us 1 ((pq c1b c1o)::us 2 ((pq x4b x4o)::us 91 [])))=(A4 λS=>Ep S c1b (c1o+6) λX27=>Ep S c1b (c1o+5) λX28=>AY c1b (c1o+7) λX29=>Ao true S<|J1 49 [.l X29.a X29.n X29.c] λX30=>Ao true S<|Aby 48 [.i X27,.i X28,.p X30] λX31 X32=>Aj (X32 != 0) (Q (.tuple #[.p none,.i X32])) (Ad (some ⟨x4b,x4o,none⟩) λB33 O34=>st B33 (O34+2) (.p X31)<|Q (.tuple #[pq x4b x4o,.i 0]))):=by kernel_rfl
theorem Pp{t48 t49:Int}:U1 jn Q (m2+1) c1b c1o x4b x4o t48 t49=(Aj (decide (t49<t48)) (Ax c1b (c1o+1) λX14=>Ax c1b (c1o+2) λX15=>Ax c1b (c1o+3) λX16=>Ax c1b (c1o+6) λX17=>Aby 47 [.i X14,.i X15,.i X16,.i X17] λX18 X19=>Aj (X19 != 0) (Q (.tuple #[.p none,.i X19])) (Ad (some ⟨x4b,x4o,none⟩) λB20 O21=>AY B20 O21 λX22=>A0 [.p X18] 50 λB23=>Bt 50 1 8 [.p none] ⟨X22.a,X22.n,X22.c⟩ 1 (λw=>HM w (some ⟨B23,0,none⟩) (1*1)) λG24=>
 Ad (some ⟨x4b,x4o,none⟩) λB25 O26=>st B25 O26 (.l G24.a G24.n G24.c)<|U1 jn Q m2 c1b c1o x4b x4o t48 (IntKind.wrap .i64 (t49+1)))) (Ald jn Q c1b c1o x4b x4o)):=by kernel_rfl
theorem ZA:Xb jn Q (us 1 ((pq c1b c1o)::us 94 []))=(Ax c1b (c1o+4) λX8=>Ax c1b (c1o+1) λX9=>Ax c1b c1o λX10=>J1 46 [.i X8,.i (IntKind.wrap .i64 (X9*X10))] λX11=>A0 [.l none 0 0,.p X11,.p none,.i 0] 73 λB12=>Ax c1b c1o λX13=>D3 λm=>U1 jn Q m c1b c1o B12 0 X13 0):=by kernel_rfl
theorem As2:Au jn PR Po Tryz.f27 [.agg #[.i c0_0,.i c0_1,.i c0_2,.i c0_3,.i c0_4,.i c0_5,.i c0_6,.l c0_7.a c0_7.n c0_7.c]] Q=(A0 [.i c0_0,.i c0_1,.i c0_2,.i c0_3,.i c0_4,.i c0_5,.i c0_6,.l c0_7.a c0_7.n c0_7.c] 24 λB1=>Ax B1 0 λX2=>Aj (decide (X2<1)) (Q (.tuple #[.p none,.i 1])) (Ax B1 0 λX3=>Aj (decide (X3>8)) (Q (.tuple #[.p none,.i 1])) (Ax B1 1 λX4=>Aj (decide (X4<1)) (Q (.tuple #[.p none,.i 1])) (
 Ax B1 1 λX5=>Aj (decide (X5>1024)) (Q (.tuple #[.p none,.i 1])) (Ax B1 4 λX6=>Aj (decide (X6<0)) (Q (.tuple #[.p none,.i 1])) (Ax B1 4 λX7=>Aj (decide (X7>16777216)) (Q (.tuple #[.p none,.i 1])) (Azp jn Q B1 0))))))):=by kernel_rfl
theorem As7:Au jn PR Azq Tryz.f28 [.p c0,.agg #[.i o1_0,.s o1_1,.s o1_2,.i o1_3]] Q=(A0 [.i o1_0,.s o1_1,.s o1_2,.i o1_3] 41 λB1=>A0 [.i 0,.b false,.s Ae,.l none 0 0] 38 λB2=>A4 λS=>wLs S B1 1 λX3=>wLs S B1 1 λX4=>Ad c0 λB5 O6=>Ep S B5 (O6+3) λX7=>J1 50 [.p c0,.s X3] λX8=>Ao true S<|λw=>Calls PR 51 #[.p X8,.s X4,.i X7] w λe w'=>∃X9:BA,∃X10:Bool,∃X11:Sl,∃X12:Int,e = .returned (.tuple #[.s X9,.b X10,.l X11.a X11.n X11.c,.i X12])/\(
 st B2 2 (.s X9)<|st B2 1 (.b X10)<|st B2 3 (.l X11.a X11.n X11.c)<|st B2 0 (.i X12)<|Ax B2 0 λX13=>Aj (X13==0) (A4 λS=>Ad c0 λB14 O15=>EM S B14 (O15+1) λX16=>BR B1 1 λX17=>Ao true S<|D4 52 [.p X16,.s X17] λX18=>Ax B2 0 λX19=>Ia B2 1 λX20=>BR B2 2 λX21=>AY B2 3 λX22=>st B2 0 (.i X19)<|st B2 1 (.b X20)<|st B2 2 (.s X21)<|st B2 3 (.l X22.a X22.n X22.c)<|Ax B2 0 λX23=>Ia B2 1 λX24=>BR B2 2 λX25=>AY B2 3 λX26=>Q (.agg #[.i X23,.b X24,.s X25,.l X26.a X26.n X26.c])) (
 Ax B2 0 λX27=>Ia B2 1 λX28=>BR B2 2 λX29=>AY B2 3 λX30=>st B2 0 (.i X27)<|st B2 1 (.b X28)<|st B2 2 (.s X29)<|st B2 3 (.l X30.a X30.n X30.c)<|Ax B2 0 λX31=>Ia B2 1 λX32=>BR B2 2 λX33=>AY B2 3 λX34=>Q (.agg #[.i X31,.b X32,.s X33,.l X34.a X34.n X34.c]))) w'):=by kernel_rfl
theorem Atb:Au jn PR Azr Tryz.f29 [.p c0,.agg #[.i o1_0,.s o1_1,.s o1_2,.i o1_3]] Q=(A0 [.i o1_0,.s o1_1,.s o1_2,.i o1_3] 41 λB1=>A0 [.i 0,.b false,.s Ae,.l none 0 0] 38 λB2=>A4 λS=>wLs S B1 1 λX3=>wLs S B1 1 λX4=>wLs S B1 2 λX5=>Ad c0 λB6 O7=>Ep S B6 (O7+3) λX8=>Ep S B1 3 λX9=>J1 50 [.p c0,.s X3] λX10=>Ao true S<|Gh .slc (.int .i64) PR 53 [.p X10,.s X4,.s X5,.i X8,.i X9] λ(X11:Sl)(X12:Int)=>
 st B2 3 (.l X11.a X11.n X11.c)<|st B2 0 (.i X12)<|Ax B2 0 λX13=>Aj (X13==0) (A4 λS=>Ad c0 λB14 O15=>EM S B14 (O15+1) λX16=>BR B1 1 λX17=>Ao true S<|D4 52 [.p X16,.s X17] λX18=>Ax B2 0 λX19=>Ia B2 1 λX20=>BR B2 2 λX21=>AY B2 3 λX22=>st B2 0 (.i X19)<|st B2 1 (.b X20)<|st B2 2 (.s X21)<|st B2 3 (.l X22.a X22.n X22.c)<|Ax B2 0 λX23=>Ia B2 1 λX24=>BR B2 2 λX25=>AY B2 3 λX26=>Q (.agg #[.i X23,.b X24,.s X25,.l X26.a X26.n X26.c])) (
 Ax B2 0 λX27=>Ia B2 1 λX28=>BR B2 2 λX29=>AY B2 3 λX30=>st B2 0 (.i X27)<|st B2 1 (.b X28)<|st B2 2 (.s X29)<|st B2 3 (.l X30.a X30.n X30.c)<|Ax B2 0 λX31=>Ia B2 1 λX32=>BR B2 2 λX33=>AY B2 3 λX34=>Q (.agg #[.i X31,.b X32,.s X33,.l X34.a X34.n X34.c]))):=by kernel_rfl
theorem Atg:Au jn PR Azs Tryz.f30 [.p c0,.agg #[.i o1_0,.s o1_1,.s o1_2,.i o1_3]] Q=(A0 [.i o1_0,.s o1_1,.s o1_2,.i o1_3] 41 λB1=>A0 [.i 0,.b false,.s Ae,.l none 0 0] 38 λB2=>A4 λS=>wLs S B1 1 λX3=>wLs S B1 1 λX4=>Ad c0 λB5 O6=>Ep S B5 (O6+3) λX7=>J1 50 [.p c0,.s X3] λX8=>Ao true S<|A2y .bool .slc (.int .i64) PR 54 [.p X8,.s X4,.i X7] λ(X9:Bool)(X10:Sl)(X11:Int)=>st B2 1 (.b X9)<|st B2 3 (.l X10.a X10.n X10.c)<|
 st B2 0 (.i X11)<|Ax B2 0 λX12=>Ia B2 1 λX13=>BR B2 2 λX14=>AY B2 3 λX15=>st B2 0 (.i X12)<|st B2 1 (.b X13)<|st B2 2 (.s X14)<|st B2 3 (.l X15.a X15.n X15.c)<|Ax B2 0 λX16=>Ia B2 1 λX17=>BR B2 2 λX18=>AY B2 3 λX19=>Q (.agg #[.i X16,.b X17,.s X18,.l X19.a X19.n X19.c])):=by kernel_rfl
theorem ZF:Xq jn Q (us 4 ((pq r4b r4o)::us 46 []))=(Ax r4b r4o λX26=>Ia r4b (r4o+1) λX27=>BR r4b ((r4o+1)+1) λX28=>AY r4b (((r4o+1)+1)+1) λX29=>st r4b r4o (.i X26)<|st r4b (r4o+1) (.b X27)<|st r4b ((r4o+1)+1) (.s X28)<|st r4b (((r4o+1)+1)+1) (.l X29.a X29.n X29.c)<|Ax r4b r4o λX30=>Ia r4b (r4o+1) λX31=>BR r4b ((r4o+1)+1) λX32=>AY r4b (((r4o+1)+1)+1) λX33=>Q (.agg #[.i X30,.b X31,.s X32,.l X33.a X33.n X33.c])):=by kernel_rfl
theorem Pq{t33:Sl}{t34 t35:Int}:UA jn Q (m3+1) c0 r4b r4o t33 t34 t35=(Aj (decide (t35<t34)) (C7 t33.a t33.n t35 λB17 O18=>Bo B17 (O18+t35.toNat*1) λX19=>A4 λS=>Fx S r4b (r4o+3) λX20=>Ad c0 λB21 O22=>Ax B21 (O22+3) λX23=>Ao true S<|F9 55 [.p X19,.i X23] λX24=>Ao true S<|Bt 9 1 16 [.s Ae] ⟨X20.a,X20.n,X20.c⟩ X24.n (λw=>HM w X24.a (X24.n*1)) λG25=>st r4b (r4o+3) (.l G25.a G25.n G25.c)<|UA jn Q m3 c0 r4b r4o t33 t34 (IntKind.wrap .i64 (t35+1))) (Azw jn Q r4b r4o)):=by kernel_rfl
theorem ZE:Xp jn Q ((.p c0)::us 2 ((pq o3b o3o)::(pq r4b r4o)::us 46 []))=(A4 λS=>Ad c0 λB8 O9=>Ep S B8 (O9+3) λX10=>Ax o3b (o3o+3) λX11=>Ao true S<|Ad c0 λB12 O13=>st B12 (O13+3) (.i (IntKind.wrap .i64 (X10+X11)))<|Ad c0 λB14 O15=>AY B14 O15 λX16=>D3 λm=>UA jn Q m c0 r4b r4o X16 (X16.n:Int) 0):=by kernel_rfl
theorem ZD{t19:Bool}:Xo jn Q ((.p c0)::us 2 ((pq o3b o3o)::(pq r4b r4o)::us 14 ((.b t19)::us 31 [])))=(Aj t19 (st r4b r4o (.i 1)<|st r4b (r4o+1) (.b false)<|st r4b ((r4o+1)+1) (.s Ae)<|st r4b (((r4o+1)+1)+1) (.l none 0 0)<|Ax r4b r4o λX4=>Ia r4b (r4o+1) λX5=>BR r4b ((r4o+1)+1) λX6=>AY r4b (((r4o+1)+1)+1) λX7=>Q (.agg #[.i X4,.b X5,.s X6,.l X7.a X7.n X7.c])) (Azv jn Q c0 o3b o3o r4b r4o)):=by kernel_rfl
theorem Atm:Au jn PR J5 Tryz.f31 [.p c0,.agg #[.i o1_0,.s o1_1,.s o1_2,.i o1_3]] Q=(A0 [.i o1_0,.s o1_1,.s o1_2,.i o1_3] 41 λB1=>A0 [.i 0,.b false,.s Ae,.l none 0 0] 38 λB2=>A4 λS=>Ax B1 3 λX3=>Ao true S<|Aj (decide (X3<0)) (Ao true S<|ZC jn Q c0 B1 0 B2 0 true) (Ep S B1 3 λX34=>Ad c0 λB35 O36=>Ax B35 (O36+3) λX37=>Ao true S<|ZC jn Q c0 B1 0 B2 0 (decide (X34>(IntKind.wrap .i64 (1125899906842624-X37)))))):=by kernel_rfl
theorem Atu:Au jn PR Av Tryz.f32 [.p c0,.agg #[.i o1_0,.s o1_1,.s o1_2,.i o1_3]] Q=(A0 [.i o1_0,.s o1_1,.s o1_2,.i o1_3] 41 λB1=>A0 [.i 0,.b false,.s Ae,.l none 0 0] 38 λB2=>Ax B1 3 λX3=>J1 19 [.p c0,.i X3] λX4=>Aj (Option.isNone X4) (st B2 0 (.i 1)<|st B2 1 (.b false)<|st B2 2 (.s Ae)<|st B2 3 (.l none 0 0)<|Ax B2 0 λX5=>Ia B2 1 λX6=>BR B2 2 λX7=>AY B2 3 λX8=>Q (.agg #[.i X5,.b X6,.s X7,.l X8.a X8.n X8.c])) (
 Bp 56 [.p X4] λX9=>st B2 0 (.i 0)<|st B2 1 (.b (decide (X9>0)))<|st B2 2 (.s Ae)<|st B2 3 (.l none 0 0)<|Ax B2 0 λX10=>Ia B2 1 λX11=>BR B2 2 λX12=>AY B2 3 λX13=>Q (.agg #[.i X10,.b X11,.s X12,.l X13.a X13.n X13.c]))):=by kernel_rfl
theorem At0:Au jn PR Av Tryz.f33 [.p c0,.agg #[.i o1_0,.s o1_1,.s o1_2,.i o1_3]] Q=(A0 [.i o1_0,.s o1_1,.s o1_2,.i o1_3] 41 λB1=>A0 [.i 0,.b false,.s Ae,.l none 0 0] 38 λB2=>Ax B1 3 λX3=>J1 19 [.p c0,.i X3] λX4=>Aj (Option.isNone X4) (st B2 0 (.i 1)<|st B2 1 (.b false)<|st B2 2 (.s Ae)<|st B2 3 (.l none 0 0)<|Ax B2 0 λX5=>Ia B2 1 λX6=>BR B2 2 λX7=>AY B2 3 λX8=>Q (.agg #[.i X5,.b X6,.s X7,.l X8.a X8.n X8.c])) (
 EF 57 [.p X4] λX9 X10=>st B2 2 (.s X9)<|st B2 1 (.b X10)<|Ax B2 0 λX11=>Ia B2 1 λX12=>BR B2 2 λX13=>AY B2 3 λX14=>st B2 0 (.i X11)<|st B2 1 (.b X12)<|st B2 2 (.s X13)<|st B2 3 (.l X14.a X14.n X14.c)<|Ax B2 0 λX15=>Ia B2 1 λX16=>BR B2 2 λX17=>AY B2 3 λX18=>Q (.agg #[.i X15,.b X16,.s X17,.l X18.a X18.n X18.c]))):=by kernel_rfl
theorem ZH{pick5:Int}{change6:Bool}:Xy jn Q (us 4 ((pq t4b t4o)::(.i pick5)::(.b change6)::us 23 []))=(TH 61 [.i pick5] λX17=>st t4b t4o (.i 0)<|st t4b (t4o+1) (.b change6)<|st t4b ((t4o+1)+1) (.s X17)<|st t4b (((t4o+1)+1)+1) (.l none 0 0)<|Ax t4b t4o λX18=>Ia t4b (t4o+1) λX19=>BR t4b ((t4o+1)+1) λX20=>AY t4b (((t4o+1)+1)+1) λX21=>Q (.agg #[.i X18,.b X19,.s X20,.l X21.a X21.n X21.c])):=by kernel_rfl
theorem At7{p1_0:Int}{p1_1 p1_2:BA}{p1_3:Int}:Au jn PR Amr Tryz.f34 [.p c0,.agg #[.i p1_0,.s p1_1,.s p1_2,.i p1_3]] Q=(A0 [.i p1_0,.s p1_1,.s p1_2,.i p1_3] 41 λB1=>A0 [.i 0,.b false,.s Ae,.l none 0 0] 38 λB2=>A4 λS=>Ad c0 λB3 O4=>EM S B3 (O4+2) λX5=>Ad c0 λB6 O7=>Bo B6 (O7+1) λX8=>Ao true S<|λw=>Calls PR 59 #[.p X8] w λe w'=>∃X9:Int,∃X10:Int,∃X11:Int,∃X12:Int,∃X13:Int,∃X14:Int,e = .returned (.tuple #[.agg #[.i X9,.i X10,.i X11,.i X12,.i X13],.i X14])/\(
 Ao true S<|F5 58 [.p X5,.agg #[.i X9,.i X10,.i X11,.i X12,.i X13],.i X14] λX15 X16=>Aj X16 (wz 60 [.p c0,.i X15]<|ZG jn Q B2 0 X15 X16) (ZG jn Q B2 0 X15 X16)) w'):=by kernel_rfl
theorem Aul:Au jn PR Azx Tryz.f35 [.p c0,.agg #[.i o1_0,.s o1_1,.s o1_2,.i o1_3]] Q=(A0 [.i o1_0,.s o1_1,.s o1_2,.i o1_3] 41 λB1=>A0 [.i 0,.b false,.s Ae,.l none 0 0] 38 λB2=>A4 λS=>Ad c0 λB3 O4=>EM S B3 (O4+2) λX5=>Ax B1 3 λX6=>Ao true S<|Bp 62 [.p X5,.i X6] λX7=>Aj (X7==0) (Ax B1 3 λX8=>wz 60 [.p c0,.i X8]<|st B2 0 (.i X7)<|st B2 1 (.b false)<|st B2 2 (.s Ae)<|
 st B2 3 (.l none 0 0)<|Ax B2 0 λX9=>Ia B2 1 λX10=>BR B2 2 λX11=>AY B2 3 λX12=>Q (.agg #[.i X9,.b X10,.s X11,.l X12.a X12.n X12.c])) (st B2 0 (.i X7)<|st B2 1 (.b false)<|st B2 2 (.s Ae)<|st B2 3 (.l none 0 0)<|Ax B2 0 λX13=>Ia B2 1 λX14=>BR B2 2 λX15=>AY B2 3 λX16=>Q (.agg #[.i X13,.b X14,.s X15,.l X16.a X16.n X16.c]))):=by kernel_rfl
theorem ZL:XG jn Q ((.p c0)::us 2 ((pq o3b o3o)::(pq r4b r4o)::us 49 []))=(A4 λS=>Ad c0 λB19 O20=>EM S B19 (O20+1) λX21=>Ep S o3b (o3o+3) λX22=>Ad c0 λB23 O24=>AY B23 O24 λX25=>Ao true S<|wz 64 [.p X21,.i (IntKind.wrap .i64 (X22*(X25.n:Int)))]<|Ax r4b r4o λX26=>Ia r4b (r4o+1) λX27=>BR r4b ((r4o+1)+1) λX28=>AY r4b (((r4o+1)+1)+1) λX29=>st r4b r4o (.i X26)<|st r4b (r4o+1) (.b X27)<|st r4b ((r4o+1)+1) (.s X28)<|st r4b (((r4o+1)+1)+1) (.l X29.a X29.n X29.c)<|
 Ax r4b r4o λX30=>Ia r4b (r4o+1) λX31=>BR r4b ((r4o+1)+1) λX32=>AY r4b (((r4o+1)+1)+1) λX33=>Q (.agg #[.i X30,.b X31,.s X32,.l X33.a X33.n X33.c])):=by kernel_rfl
theorem Pr{t21:Sl}{t23:Int}:UH jn Q (m3+1) c0 o3b o3o r4b r4o t21 t22 t23=(Aj (decide (t23<t22)) (C7 t21.a t21.n t23 λB11 O12=>Bo B11 (O12+t23.toNat*1) λX13=>Ax o3b (o3o+3) λX14=>Gh .slc (.int .i64) PR 63 [.p X13,.i X14] λ(X15:Sl)(X16:Int)=>AY r4b (r4o+3) λX17=>Bt 9 1 16 [.s Ae] ⟨X17.a,X17.n,X17.c⟩ X15.n (λw=>HM w X15.a (X15.n*1)) λG18=>st r4b (r4o+3) (.l G18.a G18.n G18.c)<|UH jn Q m3 c0 o3b o3o r4b r4o t21 t22 (IntKind.wrap .i64 (t23+1))) (Az1 jn Q c0 o3b o3o r4b r4o)):=by kernel_rfl
theorem ZK:XF jn Q ((.p c0)::us 2 ((pq o3b o3o)::(pq r4b r4o)::us 49 []))=(Ad c0 λB8 O9=>AY B8 O9 λX10=>D3 λm=>UH jn Q m c0 o3b o3o r4b r4o X10 (X10.n:Int) 0):=by kernel_rfl
theorem ZJ{t16:Bool}:XE jn Q ((.p c0)::us 2 ((pq o3b o3o)::(pq r4b r4o)::us 11 ((.b t16)::us 37 [])))=(Aj t16 (st r4b r4o (.i 1)<|st r4b (r4o+1) (.b false)<|st r4b ((r4o+1)+1) (.s Ae)<|st r4b (((r4o+1)+1)+1) (.l none 0 0)<|Ax r4b r4o λX4=>Ia r4b (r4o+1) λX5=>BR r4b ((r4o+1)+1) λX6=>AY r4b (((r4o+1)+1)+1) λX7=>Q (.agg #[.i X4,.b X5,.s X6,.l X7.a X7.n X7.c])) (Az0 jn Q c0 o3b o3o r4b r4o)):=by kernel_rfl
theorem Auo:Au jn PR J6 Tryz.f36 [.p c0,.agg #[.i o1_0,.s o1_1,.s o1_2,.i o1_3]] Q=(A0 [.i o1_0,.s o1_1,.s o1_2,.i o1_3] 41 λB1=>A0 [.i 0,.b false,.s Ae,.l none 0 0] 38 λB2=>Ax B1 3 λX3=>Aj (decide (X3<1)) (ZI jn Q c0 B1 0 B2 0 true) (Ax B1 3 λX34=>ZI jn Q c0 B1 0 B2 0 (decide (X34>1024)))):=by kernel_rfl
theorem Auy:Au jn PR Av Tryz.f40 [.p t0] Q=(Aj (Option.isNone t0) (Q (.i 0)) (Ad t0 λB1 O2=>Bo B1 O2 λX3=>Bp 70 [.p X3] λX4=>Q (.i X4))):=by kernel_rfl
theorem Auz:Au jn PR Av Tryz.f41 [.p t0] Q=(Aj (Option.isNone t0) (Q (.l none 0 0)) (Ad t0 λB1 O2=>Bo B1 O2 λX3=>F9 71 [.p X3] λX4=>Q (.l X4.a X4.n X4.c))):=by kernel_rfl
theorem Adc:Au jn PR Av Tryz.f42 [.p m0] Q=(Aj (!Option.isNone m0) (Ad m0 λB1 O2=>Na B1 (O2+3) (Q (.b false)) λ(t_3:TypeId)(v_4:Value)=>Q (.b true)) (Q (.b false))):=by kernel_rfl
theorem Au0:Au jn PR Av Tryz.f43 [.p m0] Q=(Aj (Option.isNone m0) (Q (.i (-1))) (Ad m0 λB1 O2=>Ax B1 O2 λX3=>Q (.i X3))):=by kernel_rfl
theorem Au1:Au jn PR Av Tryz.f46 [.i rate0,.i room1] Q=(J1 73 [.i rate0] λX1=>A0 [.p X1,.i 0,.p none,.p none,.p none,.p none,.p none] 131 λB2=>wz 64 [pq B2 0,.i room1]<|Q (pq B2 0)):=by kernel_rfl
theorem Au2{reads1 writes2 kind3:Int}:Au jn PR Av Tryz.f47 [.i room0,.i reads1,.i writes2,.i kind3] Q=(D4 74 [.i room0] λX1=>Aj (!X1) (Q (.tuple #[.p none,.i 1])) (Aby 75 [.i reads1,.i writes2] λX2 X3=>Aj (X3 != 0) (Q (.tuple #[.p none,.i X3])) (Aby 76 [.i kind3,.i room0] λX4 X5=>Aj (X5 != 0) (Q (.tuple #[.p none,.i X5])) (J1 77 [] λX6=>A0 [.p X6,.p X2,.p X4,.i 0,.i 0,.i 0,.i 0,.i 0,.i 0,.l none 0 0] 79 λB7=>
 Q (.tuple #[pq B7 0,.i 0]))))):=by kernel_rfl
theorem ZM:XJ jn Q ((.i kind0)::(.i hold1)::(.p t2)::us 23 [])=(λw=>Calls PR 79 #[] w λe w'=>∃X2:Int,∃X3:Int,∃X4:Int,∃X5:Int,∃X6:Int,e = .returned (.agg #[.int .u64 X2,.int .u64 X3,.int .u64 X4,.int .u64 X5,.int .u64 X6])/\(A0 [.i kind0,.i hold1,.p t2,.int .u64 X2,.int .u64 X3,.int .u64 X4,.int .u64 X5,.int .u64 X6,.i kind0,.i 0] 143 λB7=>Q (.tuple #[pq B7 0,.i 0])) w'):=by kernel_rfl
theorem Au3:Au jn PR Anf Tryz.f48 [.i kind0,.i hold1,.p t2] Q=(D4 78 [.i kind0] λX1=>Aj (!X1) (Q (.tuple #[.p none,.i 4])) (Aj (decide (hold1<1)) (Q (.tuple #[.p none,.i 1])) (Aj (decide (hold1>256)) (Q (.tuple #[.p none,.i 1])) (Az2 jn Q kind0 hold1 t2)))):=by kernel_rfl
theorem Au4{draws0:Sl}:Au jn PR Av Tryz.f49 [.l draws0.a draws0.n draws0.c] Q=(F9 80 [.l draws0.a draws0.n draws0.c] λX1=>A0 [.l X1.a X1.n X1.c,.i 0] 147 λB2=>Q (pq B2 0)):=by kernel_rfl
theorem Au5:Au jn PR Az3 Tryz.f50 [.p c0,.s key1] Q=(A4 λS=>Ad c0 λB1 O2=>Fx S B1 O2 λX3=>Ad c0 λB4 O5=>AY B4 O5 λX6=>Ao true S<|Bp 81 [.s key1,.i (X6.n:Int)] λX7=>Ao true S<|C7 X3.a X3.n X7 λB8 O9=>Bo B8 (O9+X7.toNat*1) λX10=>Q (.p X10)):=by kernel_rfl
theorem Au6:Au jn PR Av Tryz.f51 [.p s0,.s key1,.i now2] Q=(Bp 82 [.p s0,.s key1,.i now2] λX1=>Aj (X1 != 0) (Q (.tuple #[.s Ae,.b false,.l none 0 0,.i X1])) (F9 83 [.p s0,.s key1,.i now2] λX2=>Ad s0 λB3 O4=>wz 84 [.p (some ⟨B3,(O4+3),none⟩)]<|Ad s0 λB5 O6=>Bo B5 O6 λX7=>EF 85 [.p X7,.s key1,.i now2] λX8 X9=>Aj X9 (Ad s0 λB10 O11=>wz 84 [.p (some ⟨B10,((O11+3)+1),none⟩)]<|
 Ad s0 λB12 O13=>Bo B12 (O13+1) λX14=>D4 86 [.p X14,.s key1] λX15=>Aj (!X15) (Ad s0 λB16 O17=>wz 84 [.p (some ⟨B16,((O17+3)+4),none⟩)]<|Q (.tuple #[.s X8,.b X9,.l X2.a X2.n X2.c,.i 0])) (Q (.tuple #[.s X8,.b X9,.l X2.a X2.n X2.c,.i 0]))) (Q (.tuple #[.s X8,.b X9,.l X2.a X2.n X2.c,.i 0])))):=by kernel_rfl
theorem ZO:XL jn Q (us 29 [])=(Q (.b true)):=by kernel_rfl
theorem EO{t21_0 t21_1 t21_2 t21_3 t21_4:OA}:ZP jn Q (m2+1) key1 t21_0 t21_1 t21_2 t21_3 t21_4 t22=(Aj (decide (t22<5)) (AX ((0:Int)<=t22/\t22<((5:Nat):Int))<|λw=>∃X12:OA,([.p t21_0,.p t21_1,.p t21_2,.p t21_3,.p t21_4]:List Value)[t22.toNat]? = some (.p X12)/\Cu (.p X12)=false/\(D4 88 [.p X12,.s key1] λX13=>ZP jn Q m2 key1 t21_0 t21_1 t21_2 t21_3 t21_4 (IntKind.wrap .i64 (t22+1))) w) (Az6 jn Q)):=by kernel_rfl
theorem ZN:XK jn Q ((.p p0)::(.s key1)::us 27 [])=(Ad p0 λB5 O6=>Bo B5 (O6+2) λX7=>Bo B5 ((O6+2)+1) λX8=>Bo B5 (((O6+2)+1)+1) λX9=>Bo B5 ((((O6+2)+1)+1)+1) λX10=>Bo B5 (((((O6+2)+1)+1)+1)+1) λX11=>D3 λm=>ZP jn Q m key1 X7 X8 X9 X10 X11 0):=by kernel_rfl
theorem Au7:Au jn PR Pt Tryz.f52 [.p p0,.s key1] Q=(Aj (Option.isNone p0) (Q (.b false)) (Ad p0 λB1 O2=>Bo B1 O2 λX3=>D4 87 [.p X3,.s key1] λX4=>Aj (!X4) (Q (.b false)) (Az5 jn Q p0 key1))):=by kernel_rfl
theorem ZR:XN jn Q ((.p s0)::(.s key1)::(.s val2)::(.i now3)::(.i life4)::us 9 ((.l gone14.a gone14.n gone14.c)::us 90 []))=(Bp 93 [.p s0] λX16=>Ad s0 λB17 O18=>Bo B17 (O18+2) λX19=>F9 94 [.p X19,.s key1] λX20=>Ad s0 λB21 O22=>AY B21 (O22+9) λX23=>A0 [.i 2,.s key1] 159 λB24=>Bt 159 2 24 [.i 0,.s Ae] ⟨X23.a,X23.n,X23.c⟩ 1 (λw=>HM w (some ⟨B24,0,none⟩) (1*2)) λG25=>Ad s0 λB26 O27=>st B26 (O27+9) (.l G25.a G25.n G25.c)<|
 wz 95 [.p s0,.l X20.a X20.n X20.c]<|Ad s0 λB28 O29=>Bo B28 O29 λX30=>A2k 89 [.p X30,.s key1,.s val2,.i now3,.i life4] λX31 X32=>Bt 9 1 16 [.s Ae] ⟨gone14.a,gone14.n,gone14.c⟩ X20.n (λw=>HM w X20.a (X20.n*1)) λG33=>Q (.tuple #[.l G33.a G33.n G33.c,.i 0])):=by kernel_rfl
theorem ZQ{t57:Bool}:XM jn Q ((.p s0)::(.s key1)::(.s val2)::(.i now3)::(.i life4)::us 9 ((.l gone14.a gone14.n gone14.c)::us 42 ((.b t57)::us 47 [])))=(Aj t57 (Ad s0 λB11 O12=>Bo B11 O12 λX13=>A2k 89 [.p X13,.s key1,.s val2,.i now3,.i life4] λX14 X15=>wz 92 [.p s0,.i 2,.s key1]<|Q (.tuple #[.l gone14.a gone14.n gone14.c,.i 0])) (Az7 jn Q s0 key1 val2 now3 life4 gone14)):=by kernel_rfl
theorem Au9:Au jn PR UN Tryz.f53 [.p s0,.s key1,.s val2,.i now3,.i life4] Q=(Aj (Option.isNone s0) (Q (.tuple #[.l none 0 0,.i 1])) (J1 77 [] λX1=>A2k 89 [.p X1,.s key1,.s val2,.i now3,.i life4] λX2 X3=>Aj (X3 != 0) (Q (.tuple #[.l none 0 0,.i X3])) (F9 83 [.p s0,.s key1,.i now3] λX4=>Ad s0 λB5 O6=>wz 84 [.p (some ⟨B5,((O6+3)+2),none⟩)]<|A4 λS=>Ad s0 λB7 O8=>Bo B7 O8 λX9=>
 Ao true S<|D4 90 [.p X9,.s key1] λX10=>Ao true S<|Aj X10 (Ao true S<|UM jn Q s0 key1 val2 now3 life4 X4 true) (Ad s0 λB34 O35=>EM S B34 O35 λX36=>Ad s0 λB37 O38=>EM S B37 (O38+2) λX39=>Bp 40 [.p X36] λX40=>Ao true S<|Bp 91 [.p X39] λX41=>UM jn Q s0 key1 val2 now3 life4 X4 (decide (X40<X41)))))):=by kernel_rfl
theorem Ava:Au jn PR Av Tryz.f54 [.p s0,.s key1,.i now2] Q=(Bp 82 [.p s0,.s key1,.i now2] λX1=>Aj (X1 != 0) (Q (.tuple #[.b false,.l none 0 0,.i X1])) (F9 83 [.p s0,.s key1,.i now2] λX2=>Ad s0 λB3 O4=>Bo B3 O4 λX5=>D4 96 [.p X5,.s key1] λX6=>Aj X6 (wz 92 [.p s0,.i 3,.s key1]<|Q (.tuple #[.b X6,.l X2.a X2.n X2.c,.i 0])) (Q (.tuple #[.b X6,.l X2.a X2.n X2.c,.i 0])))):=by kernel_rfl
theorem ZT:XP jn Q (us 5 ((.l gone5.a gone5.n gone5.c)::us 28 []))=(Q (.l gone5.a gone5.n gone5.c)):=by kernel_rfl
theorem Pv{t20:Sl}{t21:Int}:UO jn Q (m2+1) s0 now1 gone5 t20 t21 t22=(Aj (decide (t22<t21)) (C7 t20.a t20.n t22 λB6 O7=>BR B6 (O7+t22.toNat*1) λX8=>F9 83 [.p s0,.s X8,.i now1] λX9=>Bt 9 1 16 [.s Ae] ⟨gone5.a,gone5.n,gone5.c⟩ X9.n (λw=>HM w X9.a (X9.n*1)) λG10=>UO jn Q m2 s0 now1 G10 t20 t21 (IntKind.wrap .i64 (t22+1))) (A0a jn Q gone5)):=by kernel_rfl
theorem ZS:XO jn Q ((.p s0)::(.i now1)::us 32 [])=(Ad s0 λB2 O3=>Bo B2 O3 λX4=>F9 98 [.p X4,.i now1] λX5=>D3 λm=>UO jn Q m s0 now1 ⟨none,0,0⟩ X5 (X5.n:Int) 0):=by kernel_rfl
theorem Avb:Au jn PR Pu Tryz.f55 [.p s0,.i now1] Q=(Aj (Option.isNone s0) (Q (.l none 0 0)) (D4 97 [.i now1] λX1=>Aj (!X1) (Q (.l none 0 0)) (Az9 jn Q s0 now1))):=by kernel_rfl
theorem Avc:Au jn PR Av Tryz.f56 [.p s0] Q=(Aj (Option.isNone s0) (Q (.i 0)) (Bp 93 [.p s0] λX1=>Q (.i X1))):=by kernel_rfl
theorem Avd:Au jn PR Av Tryz.f57 [.p s0] Q=(Aj (Option.isNone s0) (Q (.tuple #[.s Ae,.b false])) (Bp 93 [.p s0] λX1=>Ad s0 λB2 O3=>Bo B2 (O3+2) λX4=>EF 99 [.p X4] λX5 X6=>Aj X6 (Ad s0 λB7 O8=>wz 84 [.p (some ⟨B7,((O8+3)+5),none⟩)]<|Q (.tuple #[.s X5,.b X6])) (Q (.tuple #[.s X5,.b X6])))):=by kernel_rfl
theorem ZV{pick8:Int}:XQ jn Q ((.p c0)::us 7 ((.i pick8)::us 72 []))=(A4 λS=>Ad c0 λB48 O49=>Ep S B48 (O49+9) λX50=>Ad c0 λB51 O52=>Ax B51 (O52+1) λX53=>Ao true S<|Aj (decide (X50<X53)) (Q (.tuple #[.i pick8,.b false])) (Bp 62 [.p c0,.i pick8] λX54=>Q (.tuple #[.i pick8,.b true]))):=by kernel_rfl
theorem Ave{ghosts1_0 ghosts1_1 ghosts1_2 ghosts1_3 ghosts1_4 all2:Int}:Au jn PR Ang Tryz.f58 [.p c0,.agg #[.i ghosts1_0,.i ghosts1_1,.i ghosts1_2,.i ghosts1_3,.i ghosts1_4],.i all2] Q=(A0 [.i ghosts1_0,.i ghosts1_1,.i ghosts1_2,.i ghosts1_3,.i ghosts1_4] 100 λB1=>Aj (Option.isNone c0) (Q (.tuple #[.i 0,.b false])) (A4 λS=>Ad c0 λB2 O3=>Ze S B2 (O3+3) λX4=>Ze S B2 ((O3+3)+1) λX5=>Ze S B2 (((O3+3)+1)+1) λX6=>Ze S B2 ((((O3+3)+1)+1)+1) λX7=>Ze S B2 (((((O3+3)+1)+1)+1)+1) λX8=>
 Ax B1 0 λX9=>Ax B1 1 λX10=>Ax B1 2 λX11=>Ax B1 3 λX12=>Ax B1 4 λX13=>Ao true S<|λw=>Calls PR 100 #[.agg #[.int .u64 X4,.int .u64 X5,.int .u64 X6,.int .u64 X7,.int .u64 X8],.agg #[.i X9,.i X10,.i X11,.i X12,.i X13],.i all2] w λe w'=>∃X14:Int,∃X15:Int,∃X16:Int,∃X17:Int,∃X18:Int,e = .returned (.agg #[.int .u64 X14,.int .u64 X15,.int .u64 X16,.int .u64 X17,.int .u64 X18])/\(Ad c0 λB19 O20=>st B19 (O20+3) (.int .u64 X14)<|st B19 ((O20+3)+1) (.int .u64 X15)<|st B19 (((O20+3)+1)+1) (.int .u64 X16)<|st B19 ((((O20+3)+1)+1)+1) (.int .u64 X17)<|
 st B19 (((((O20+3)+1)+1)+1)+1) (.int .u64 X18)<|A4 λS=>Ad c0 λB21 O22=>Ze S B21 (O22+3) λX23=>Ze S B21 ((O22+3)+1) λX24=>Ze S B21 (((O22+3)+1)+1) λX25=>Ze S B21 ((((O22+3)+1)+1)+1) λX26=>Ze S B21 (((((O22+3)+1)+1)+1)+1) λX27=>Ad c0 λB28 O29=>Bo B28 (O29+2) λX30=>Ao true S<|call1 (.int .u32) PR 102 [.p X30] λ(X31:Int)=>Ao true S<|Bp 101 [.agg #[.int .u64 X23,.int .u64 X24,.int .u64 X25,.int .u64 X26,.int .u64 X27],.int .u32 X31] λX32=>Ad c0 λB33 O34=>Ax B33 O34 λX35=>Aj (X32==X35) (
 Ad c0 λB36 O37=>st B36 (O37+8) (.i X32)<|Ad c0 λB38 O39=>st B38 (O39+9) (.i 0)<|Q (.tuple #[.i X32,.b false])) (Ad c0 λB40 O41=>Ax B40 (O41+8) λX42=>Aj (X32==X42) (Ad c0 λB43 O44=>Ax B43 (O44+9) λX45=>Ad c0 λB46 O47=>st B46 (O47+9) (.i (IntKind.wrap .i64 (X45+1)))<|ZU jn Q c0 X32) (Ad c0 λB55 O56=>st B55 (O56+8) (.i X32)<|Ad c0 λB57 O58=>st B57 (O58+9) (.i 1)<|ZU jn Q c0 X32))) w')):=by kernel_rfl
theorem ZW:XR jn Q (us 2 ((pq ghosts2b ghosts2o)::(.i all3)::us 25 []))=(Ax ghosts2b ghosts2o λX26=>Ax ghosts2b (ghosts2o+1) λX27=>Ax ghosts2b ((ghosts2o+1)+1) λX28=>Ax ghosts2b (((ghosts2o+1)+1)+1) λX29=>Ax ghosts2b ((((ghosts2o+1)+1)+1)+1) λX30=>st ghosts2b ghosts2o (.i X26)<|st ghosts2b (ghosts2o+1) (.i X27)<|st ghosts2b ((ghosts2o+1)+1) (.i X28)<|st ghosts2b (((ghosts2o+1)+1)+1) (.i X29)<|st ghosts2b ((((ghosts2o+1)+1)+1)+1) (.i X30)<|Ax ghosts2b ghosts2o λX31=>
 Ax ghosts2b (ghosts2o+1) λX32=>Ax ghosts2b ((ghosts2o+1)+1) λX33=>Ax ghosts2b (((ghosts2o+1)+1)+1) λX34=>Ax ghosts2b ((((ghosts2o+1)+1)+1)+1) λX35=>Q (.tuple #[.agg #[.i X31,.i X32,.i X33,.i X34,.i X35],.i all3])):=by kernel_rfl
theorem EP{t13_0 t13_1 t13_2 t13_3 t13_4:OA}{t14:Int}:ZX jn Q (m1+1) ghosts2b ghosts2o all3 t13_0 t13_1 t13_2 t13_3 t13_4 t14=(Aj (decide (t14<5)) (AX ((0:Int)<=t14/\t14<((5:Nat):Int))<|λw=>∃X19:OA,([.p t13_0,.p t13_1,.p t13_2,.p t13_3,.p t13_4]:List Value)[t14.toNat]? = some (.p X19)/\Cu (.p X19)=false/\(λw=>Calls PR 103 #[.p X19] w λe w'=>∃X20:Int,∃X21:Int,∃X22:Int,e = .returned (.agg #[.i X20,.i X21,.i X22])/\(A0 [.i 0,.i 0,.i 0] 165 λB23=>st B23 0 (.i X20)<|st B23 1 (.i X21)<|
 st B23 2 (.i X22)<|A4 λS=>Ep S B23 2 λX24=>Ep S B23 0 λX25=>AX ((0:Int)<=t14/\t14<((5:Nat):Int))<|st ghosts2b (ghosts2o+t14.toNat*1) (.i X24)<|Ao true S<|ZX jn Q m1 ghosts2b ghosts2o X25 t13_0 t13_1 t13_2 t13_3 t13_4 (IntKind.wrap .i64 (t14+1))) w') w) (A0c jn Q ghosts2b ghosts2o all3)):=by kernel_rfl
theorem Avf:Au jn PR UP Tryz.f59 [.p p0] Q=(A0 [.i 0,.i 0,.i 0,.i 0,.i 0] 100 λB1=>Aj (Option.isNone p0) (Ax B1 0 λX2=>Ax B1 1 λX3=>Ax B1 2 λX4=>Ax B1 3 λX5=>Ax B1 4 λX6=>st B1 0 (.i X2)<|st B1 1 (.i X3)<|st B1 2 (.i X4)<|st B1 3 (.i X5)<|st B1 4 (.i X6)<|Ax B1 0 λX7=>Ax B1 1 λX8=>Ax B1 2 λX9=>Ax B1 3 λX10=>Ax B1 4 λX11=>Q (.tuple #[.agg #[.i X7,.i X8,.i X9,.i X10,.i X11],.i 0])) (
 Ad p0 λB12 O13=>Bo B12 (O13+2) λX14=>Bo B12 ((O13+2)+1) λX15=>Bo B12 (((O13+2)+1)+1) λX16=>Bo B12 ((((O13+2)+1)+1)+1) λX17=>Bo B12 (((((O13+2)+1)+1)+1)+1) λX18=>D3 λm=>ZX jn Q m B1 0 0 X14 X15 X16 X17 X18 0)):=by kernel_rfl
theorem Pw{t9:Sl}{t11:Int}:UQ jn Q (m1+1) kind1 t9 t10 t11=(Aj (decide (t11<t10)) (C7 t9.a t9.n t11 λB4 O5=>Bo B4 (O5+t11.toNat*1) λX6=>Bp 104 [.p X6,.i kind1] λX7=>UQ jn Q m1 kind1 t9 t10 (IntKind.wrap .i64 (t11+1))) (Q (.tuple #[]))):=by kernel_rfl
theorem Avg:Au jn PR Anh Tryz.f60 [.p c0,.i kind1] Q=(Ad c0 λB1 O2=>AY B1 O2 λX3=>D3 λm=>UQ jn Q m kind1 X3 (X3.n:Int) 0):=by kernel_rfl
theorem Avh:Au jn PR Av Tryz.f61 [.i kind0] Q=(Aj (kind0==0) (Q (.s Axt)) (Aj (kind0==1) (Q (.s Ap0)) (Aj (kind0==2) (Q (.s A2b)) (Aj (kind0==3) (Q (.s YY)) (Aj (kind0==4) (Q (.s Abs)) (Q (.s Ae))))))):=by kernel_rfl
theorem Avi:Au jn PR Av Tryz.f62 [.p c0,.i kind1] Q=(Aj (Option.isNone c0) (Q (.i 1)) (D4 78 [.i kind1] λX1=>Aj (!X1) (Q (.i 4)) (Ad c0 λB2 O3=>st B2 O3 (.i kind1)<|Ad c0 λB4 O5=>st B4 (O5+8) (.i kind1)<|Ad c0 λB6 O7=>st B6 (O7+9) (.i 0)<|Q (.i 0)))):=by kernel_rfl
theorem ZY:XS jn Q ((.p s0)::(.i room1)::us 24 [])=(Bp 93 [.p s0] λX2=>Ad s0 λB3 O4=>Bo B3 (O4+2) λX5=>F9 105 [.p X5,.i room1] λX6=>wz 95 [.p s0,.l X6.a X6.n X6.c]<|Q (.tuple #[.l X6.a X6.n X6.c,.i 0])):=by kernel_rfl
theorem Avj:Au jn PR Ln Tryz.f63 [.p s0,.i room1] Q=(Aj (Option.isNone s0) (Q (.tuple #[.l none 0 0,.i 1])) (D4 74 [.i room1] λX1=>Aj (!X1) (Q (.tuple #[.l none 0 0,.i 1])) (A0d jn Q s0 room1))):=by kernel_rfl
theorem ER{t16:Int}:ZZ jn Q (m1+1) p0 t16=(Aj (decide (t16<5)) (A4 λS=>Ad p0 λB7 O8=>Ad p0 λB9 O10=>Ax B7 (O8+1) λX11=>Aby 107 [.i t16,.i X11] λX12 X13=>AX ((0:Int)<=t16/\t16<((5:Nat):Int))<|st B9 ((O10+2)+t16.toNat*1) (.p X12)<|ZZ jn Q m1 p0 (IntKind.wrap .i64 (t16+1))) (Q (.tuple #[]))):=by kernel_rfl
theorem Avk:Au jn PR Ani Tryz.f64 [.p p0,.i room1] Q=(Aj (Option.isNone p0) (Q (.tuple #[])) (Ad p0 λB1 O2=>Bo B1 O2 λX3=>Bp 106 [.p X3,.i room1] λX4=>Ad p0 λB5 O6=>st B5 (O6+1) (.i X4)<|D3 λm=>ZZ jn Q m p0 0)):=by kernel_rfl
theorem Avl:Au jn PR Av Tryz.f70 [.p x0] Q=(Aj (Option.isNone x0) (Q (.i 0)) (Ad x0 λB1 O2=>Ax B1 (O2+2) λX3=>Q (.i X3))):=by kernel_rfl
theorem Aab:XV jn Q (us 3 ((.l l3.a l3.n l3.c)::us 25 []))=(wz 112 [.l l3.a l3.n l3.c]<|Q (.l l3.a l3.n l3.c)):=by kernel_rfl
theorem P1:P0 jn Q (m1+1) l3 t11 t12 t13=(Aj (decide (t13<t12)) (C7 t11.a t11.n t13 λB4 O5=>Ax B4 (O5+t13.toNat*4) λX6=>BR B4 ((O5+t13.toNat*4)+1) λX7=>BR B4 (((O5+t13.toNat*4)+1)+1) λX8=>Ax B4 ((((O5+t13.toNat*4)+1)+1)+1) λX9=>A0 [.i 0,.s Ae,.s Ae,.i 0] 178 λB10=>st B10 0 (.i X6)<|st B10 1 (.s X7)<|st B10 2 (.s X8)<|st B10 3 (.i X9)<|Ax B10 0 λX11=>Aj (X11==2) (BR B10 1 λX12=>A0 [.s X12] 9 λB13=>Bt 9 1 16 [.s Ae] ⟨l3.a,l3.n,l3.c⟩ 1 (λw=>HM w (some ⟨B13,0,none⟩) (1*1)) λG14=>
 P0 jn Q m1 G14 t11 t12 (IntKind.wrap .i64 (t13+1))) (P0 jn Q m1 l3 t11 t12 (IntKind.wrap .i64 (t13+1)))) (A0l jn Q l3)):=by kernel_rfl
theorem Avm:Au jn PR UR Tryz.f71 [.p x0] Q=(Aj (Option.isNone x0) (Q (.l none 0 0)) (Ad x0 λB1 O2=>AY B1 (O2+1) λX3=>D3 λm=>P0 jn Q m ⟨none,0,0⟩ X3 (X3.n:Int) 0)):=by kernel_rfl
theorem Avn{n0 low1 high2:Int}:Au jn PR Av Tryz.f72 [.i n0,.i low1,.i high2] Q=(Q (.i (if high2<(if low1>n0 then low1 else n0) then high2 else (if low1>n0 then low1 else n0)))):=by kernel_rfl
theorem Avo:Au jn PR Av Tryz.f73 [.i rate0] Q=(Bp 72 [.i rate0,.i 0,.i 16777216] λX1=>A0 [.i X1,.i 0,.i 0] 181 λB2=>Q (pq B2 0)):=by kernel_rfl
theorem Avp:Au jn PR Av Tryz.f74 [.i room0] Q=(Aj (decide (room0>=1)) (Q (.b (decide (room0<=1024)))) (Q (.b false))):=by kernel_rfl
end Go.Proofs.YtjipofkjmmpjdaaGreat
namespace Go.Proofs.YtjipofkjmmpjdaaGreat
open Go.Hb
section
variable(jn:Jn)(Q:VW)
def Anm:KP:=⟨[(8,[0,1])],[(3,[0,2,3,5,6,8,9])]⟩
def XW:EW:=cE Tryz.f75 Anm jn Q [1,1] (rE Tryz.f75 Q) A5
def A0m(reads0 writes1:Int):WP:=jn 8 (XW jn Q) ((.i reads0)::(.i writes1)::us 26 [])
def US:KP:=⟨[(9,[0,1,3]),(16,[0,1])],[]⟩
def A0n:EW:=sE Tryz.f79 US jn Q [1,1,1] (rE Tryz.f79 Q) A5
def XX:EW:=cE Tryz.f79 US jn Q [1,1,1] (rE Tryz.f79 Q) A5
def A0o(t0b t0o w1b w1o:Nat):WP:=jn 16 (XX jn Q) ((pq t0b t0o)::(pq w1b w1o)::us 9 [])
def UT(m1:Nat)(t0b t0o w1b w1o:Nat)(t3:Int):WP:=CG PR US jn (bE Tryz.f79 [1,1,0,1,0,0]) (A6 0 (A0n jn Q) A5) (rE Tryz.f79 Q) m1 ((pq t0b t0o)::(pq w1b w1o)::us 1 ((.i t3)::us 7 []))
def Ano:KP:=⟨[(10,[0,1])],[]⟩
def XY:EW:=cE Tryz.f83 Ano jn Q [1,1] (rE Tryz.f83 Q) A5
def Ann(s0:OA)(key1:BA):WP:=jn 10 (XY jn Q) ((.p s0)::(.s key1)::us 36 [])
def A0p:KP:=⟨[],[(4,[0,2,3,4,5,7])]⟩
def P4:KP:=⟨[(12,[0,5,6,7]),(19,[0,5,43,44,45]),(26,[5])],[]⟩
def A0q:EW:=sE Tryz.f88 P4 jn Q [1,1,1,1,1,1,1] (rE Tryz.f88 Q) A5
def Ya:EW:=cE Tryz.f88 P4 jn Q [1,1,1,1,1,1,1] (rE Tryz.f88 Q) A5
def A0r(hit5:Bool):WP:=jn 26 (Ya jn Q) (us 5 ((.b hit5)::us 51 []))
def Aah(m2:Nat)(s0:OA)(hit5:Bool)(t43:Sl)(t44 t45:Int):WP:=CG PR P4 jn (bE Tryz.f88 [1,1,1,1,1,1,0,1,0,0]) (A6 0 (A0q jn Q) A5) (rE Tryz.f88 Q) m2 ((.p s0)::us 4 ((.b hit5)::us 37 ((.l t43.a t43.n t43.c)::(.i t44)::(.i t45)::us 11 [])))
def XZ:EW:=cE Tryz.f88 P4 jn Q [1,1,1,1] (rE Tryz.f88 Q) A5
def Aaf(s0:OA)(hit5:Bool)(went6:Sl)(back7:Bool):WP:=jn 12 (XZ jn Q) ((.p s0)::us 4 ((.b hit5)::(.l went6.a went6.n went6.c)::(.b back7)::us 49 []))
def Aal:KP:=⟨[(20,[0,1,2,3,4]),(26,[0,1,12])],[(12,[0,1,2,3,4,7,8])]⟩
def Yc:EW:=cE Tryz.f89 Aal jn Q [1,1,1,1] (rE Tryz.f89 Q) A5
def Aaj(t0:OA)(key1:BA)(v12b v12o:Nat):WP:=jn 26 (Yc jn Q) ((.p t0)::(.s key1)::us 10 ((pq v12b v12o)::us 41 []))
def Yb:EW:=cE Tryz.f89 Aal jn Q [1,1] (rE Tryz.f89 Q) A5
def A0s(t0:OA)(key1 val2:BA)(now3 life4:Int):WP:=jn 20 (Yb jn Q) ((.p t0)::(.s key1)::(.s val2)::(.i now3)::(.i life4)::us 49 [])
def UU:KP:=⟨[(9,[0,3,11,12,13]),(16,[0,3])],[(5,[0,1,2,3,4])]⟩
def A0t:EW:=sE Tryz.f93 UU jn Q [1,1,1] (rE Tryz.f93 Q) A5
def Yd:EW:=cE Tryz.f93 UU jn Q [1,1,1] (rE Tryz.f93 Q) A5
def A0u(s0:OA)(l3:Sl):WP:=jn 16 (Yd jn Q) ((.p s0)::us 2 ((.l l3.a l3.n l3.c)::us 33 []))
def UV(m1:Nat)(s0:OA)(l3 t11:Sl)(t12 t13:Int):WP:=CG PR UU jn (bE Tryz.f93 [1,1,0,1,0,0]) (A6 0 (A0t jn Q) A5) (rE Tryz.f93 Q) m1 ((.p s0)::us 2 ((.l l3.a l3.n l3.c)::us 7 ((.l t11.a t11.n t11.c)::(.i t12)::(.i t13)::us 23 [])))
def Lo:KP:=⟨[(15,[0,1,5]),(16,[0,1,5]),(20,[0,1,5])],[(6,[0,2,3,4,5,6,7,8,10,11])]⟩
def Aan:EW:=sE Tryz.f94 Lo jn Q [1,1,1,1,1] (rE Tryz.f94 Q) A5
def A0v(m1:Nat):EW:=Ib PR Lo jn (bE Tryz.f94 [1,1,1,1,0,0,0]) (A6 0 (Aan jn Q) A5) (rE Tryz.f94 Q) m1
def Ye(m1:Nat):EW:=cE Tryz.f94 Lo jn Q [1,1,1,1,0,0,0,1] (A0v jn Q m1) (A6 0 (Aan jn Q) A5)
def Anp(m1:Nat)(m0:OA)(key1:BA)(gone5:Sl):WP:=jn 16 (Ye jn Q m1) ((.p m0)::(.s key1)::us 3 ((.l gone5.a gone5.n gone5.c)::us 45 []))
def Yf:EW:=cE Tryz.f94 Lo jn Q [1,1,1,1,1] (rE Tryz.f94 Q) A5
def P7(m0:OA)(key1:BA)(gone5:Sl):WP:=jn 20 (Yf jn Q) ((.p m0)::(.s key1)::us 3 ((.l gone5.a gone5.n gone5.c)::us 45 []))
def UW(m1:Nat)(m0:OA)(key1:BA)(gone5:Sl):WP:=CG PR Lo jn (bE Tryz.f94 [1,1,1,1,0,0,0]) (A6 0 (Aan jn Q) A5) (rE Tryz.f94 Q) m1 ((.p m0)::(.s key1)::us 3 ((.l gone5.a gone5.n gone5.c)::us 45 []))
def Anq:KP:=⟨[(5,[0,6,7,8])],[]⟩
def PA(m1:Nat)(s0:OA)(t6:Sl)(t7 t8:Int):WP:=CG PR Anq jn (bE Tryz.f95 [1,0,0]) (A6 0 (rE Tryz.f95 Q) A5) (rE Tryz.f95 Q) m1 ((.p s0)::us 5 ((.l t6.a t6.n t6.c)::(.i t7)::(.i t8)::us 15 []))
def UX:KP:=⟨[(9,[0,1,5,11,12,13]),(20,[5])],[]⟩
def A0w:EW:=sE Tryz.f98 UX jn Q [1,1,1] (rE Tryz.f98 Q) A5
def Yg:EW:=cE Tryz.f98 UX jn Q [1,1,1] (rE Tryz.f98 Q) A5
def A0x(l5:Sl):WP:=jn 20 (Yg jn Q) (us 5 ((.l l5.a l5.n l5.c)::us 29 []))
def PC(m1:Nat)(t0:OA)(now1:Int)(l5 t11:Sl)(t12 t13:Int):WP:=CG PR UX jn (bE Tryz.f98 [1,1,0,1,0,0]) (A6 0 (A0w jn Q) A5) (rE Tryz.f98 Q) m1 ((.p t0)::(.i now1)::us 3 ((.l l5.a l5.n l5.c)::us 5 ((.l t11.a t11.n t11.c)::(.i t12)::(.i t13)::us 21 [])))
def H8:KP:=⟨[(11,[2,3,4,6,14]),(18,[3,6]),(23,[3,6,8,32]),(30,[3,6])],[(6,[0,1,2,3,4,5,7,11])]⟩
def Aqy:EW:=sE Tryz.f100 H8 jn Q [1,1,1] (rE Tryz.f100 Q) A5
def Aiq:EW:=sE Tryz.f100 H8 jn Q [1,1,1,1,1] (rE Tryz.f100 Q) A5
def R1:EW:=cE Tryz.f100 H8 jn Q [1,1,1,1,1] (rE Tryz.f100 Q) A5
def Aq0(w3b w3o t6b t6o:Nat):WP:=jn 30 (R1 jn Q) (us 3 ((pq w3b w3o)::us 2 ((pq t6b t6o)::us 39 [])))
def N3(m3:Nat)(w3b w3o t6b t6o:Nat)(t8 t32:Int):WP:=CG PR H8 jn (bE Tryz.f100 [1,1,1,1,0,1,0,0]) (A6 2 (Aiq jn Q) A5) (rE Tryz.f100 Q) m3 (us 3 ((pq w3b w3o)::us 2 ((pq t6b t6o)::us 1 ((.int .u64 t8)::us 23 ((.i t32)::us 13 [])))))
def R0:EW:=cE Tryz.f100 H8 jn Q [1,1,1] (rE Tryz.f100 Q) A5
def Aqz(w3b w3o t6b t6o:Nat):WP:=jn 18 (R0 jn Q) (us 3 ((pq w3b w3o)::us 2 ((pq t6b t6o)::us 39 [])))
def N2(m1:Nat)(all2:Int)(w3b w3o ghosts4b ghosts4o t6b t6o:Nat)(t14:Int):WP:=CG PR H8 jn (bE Tryz.f100 [1,1,0,1,0,0]) (A6 0 (Aqy jn Q) A5) (rE Tryz.f100 Q) m1 (us 2 ((.i all2)::(pq w3b w3o)::(pq ghosts4b ghosts4o)::us 1 ((pq t6b t6o)::us 7 ((.i t14)::us 31 []))))
def N4:KP:=⟨[(9,[1,5,8,9]),(20,[])],[]⟩
def Aq1:EW:=sE Tryz.f101 N4 jn Q [1,1,1] (rE Tryz.f101 Q) A5
def R2:EW:=cE Tryz.f101 N4 jn Q [1,1,1] (rE Tryz.f101 Q) A5
def Aq2:WP:=jn 20 (R2 jn Q) (us 22 [])
def N5(m1:Nat)(draw1 sum5 t8_0 t8_1 t8_2 t8_3 t8_4 t9:Int):WP:=CG PR N4 jn (bE Tryz.f101 [1,1,0,1,0,0]) (A6 0 (Aq1 jn Q) A5) (rE Tryz.f101 Q) m1 (us 1 ((.int .u32 draw1)::us 3 ((.int .u64 sum5)::us 2 ((.agg #[.int .u64 t8_0,.int .u64 t8_1,.int .u64 t8_2,.int .u64 t8_3,.int .u64 t8_4])::(.i t9)::us 12 []))))
def Aq3:KP:=⟨[],[(4,[0,1,2,3,4,5,6,8,9]),(6,[0,1,2,3,4,5,6,8,9,11])]⟩
def N6:KP:=⟨[(10,[0,1,8]),(16,[0,1])],[]⟩
def Ab9:EW:=sE Tryz.f104 N6 jn Q [1,1] (rE Tryz.f104 Q) A5
def R4:EW:=cE Tryz.f104 N6 jn Q [1,1] (rE Tryz.f104 Q) A5
def Aq4(s0:OA)(kind1:Int):WP:=jn 16 (R4 jn Q) ((.p s0)::(.i kind1)::us 29 [])
def R3:EW:=cE Tryz.f104 N6 jn Q [1,0,0,1,1,1] (Ab9 jn Q) (A6 0 (Ab9 jn Q) A5)
def Aca(s0:OA)(kind1:Int)(t8:Bool):WP:=jn 10 (R3 jn Q) ((.p s0)::(.i kind1)::us 6 ((.b t8)::us 22 []))
def N7:KP:=⟨[(15,[0,5]),(20,[0,5])],[(6,[0,2,3,4,5,6]),(9,[0,1,2,3,4,5,6,7,8,9,10,11,15,16,17,18,19])]⟩
def Aq5:EW:=sE Tryz.f105 N7 jn Q [1,1,1,1,1,1] (rE Tryz.f105 Q) A5
def R5:EW:=cE Tryz.f105 N7 jn Q [1,1,1,1,1,1] (rE Tryz.f105 Q) A5
def Acb(m0:OA)(gone5:Sl):WP:=jn 20 (R5 jn Q) ((.p m0)::us 4 ((.l gone5.a gone5.n gone5.c)::us 48 []))
def N8(m1:Nat)(m0:OA)(gone5:Sl):WP:=CG PR N7 jn (bE Tryz.f105 [1,1,1,1,1,0,0,0]) (A6 0 (Aq5 jn Q) A5) (rE Tryz.f105 Q) m1 ((.p m0)::us 4 ((.l gone5.a gone5.n gone5.c)::us 48 []))
def Aq6:KP:=⟨[],[(3,[0,2,3,4,5,6,7,8,9])]⟩
def N9:KP:=⟨[(9,[1,2,3,5]),(18,[1,2,3])],[(5,[0,1,2,3,4,6]),(8,[0,1,2,5,6,7])]⟩
def Aq8:EW:=sE Tryz.f115 N9 jn Q [1,1,1] (rE Tryz.f115 Q) A5
def R6:EW:=cE Tryz.f115 N9 jn Q [1,1,1] (rE Tryz.f115 Q) A5
def Acd(w1b w1o t2b t2o:Nat)(best3:Int):WP:=jn 18 (R6 jn Q) (us 1 ((pq w1b w1o)::(pq t2b t2o)::(.i best3)::us 22 []))
def Ki(m1:Nat)(w1b w1o t2b t2o:Nat)(best3 t5:Int):WP:=CG PR N9 jn (bE Tryz.f115 [1,1,0,1,0,0]) (A6 0 (Aq8 jn Q) A5) (rE Tryz.f115 Q) m1 (us 1 ((pq w1b w1o)::(pq t2b t2o)::(.i best3)::us 1 ((.i t5)::us 20 [])))
def NA:KP:=⟨[(9,[1,5,14,15]),(16,[5])],[]⟩
def Aq9:EW:=sE Tryz.f117 NA jn Q [1,1,1] (rE Tryz.f117 Q) A5
def R7:EW:=cE Tryz.f117 NA jn Q [1,1,1] (rE Tryz.f117 Q) A5
def Ara(h5:Int):WP:=jn 16 (R7 jn Q) (us 5 ((.int .u64 h5)::us 22 []))
def NB(m1:Nat)(s1:BA)(h5 t14 t15:Int):WP:=CG PR NA jn (bE Tryz.f117 [1,1,0,1,0,0]) (A6 0 (Aq9 jn Q) A5) (rE Tryz.f117 Q) m1 (us 1 ((.s s1)::us 3 ((.int .u64 h5)::us 8 ((.i t14)::(.i t15)::us 12 []))))
def Kj:KP:=⟨[(8,[0]),(11,[0,14,15]),(22,[])],[]⟩
def Arb:EW:=sE Tryz.f118 Kj jn Q [1,1,1] (rE Tryz.f118 Q) A5
def R9:EW:=cE Tryz.f118 Kj jn Q [1,1,1] (rE Tryz.f118 Q) A5
def Ard:WP:=jn 22 (R9 jn Q) (us 49 [])
def Ct(m2:Nat)(s0:BA)(t14 t15:Int):WP:=CG PR Kj jn (bE Tryz.f118 [1,1,0,1,0,0]) (A6 0 (Arb jn Q) A5) (rE Tryz.f118 Q) m2 ((.s s0)::us 13 ((.i t14)::(.i t15)::us 33 []))
def R8:EW:=cE Tryz.f118 Kj jn Q [1,1] (rE Tryz.f118 Q) A5
def Arc(s0:BA):WP:=jn 8 (R8 jn Q) ((.s s0)::us 48 [])
def Ec:KP:=⟨[(12,[4])],[]⟩
def RA:EW:=cE Tryz.f120 Ec jn Q [1,1] (rE Tryz.f120 Q) A5
def Ace(t4b t4o:Nat):WP:=jn 12 (RA jn Q) (us 4 ((pq t4b t4o)::us 22 []))
def Acf:KP:=⟨[(8,[0,2])],[]⟩
def RB:EW:=cE Tryz.f125 Acf jn Q [1,1] (rE Tryz.f125 Q) A5
def Ub(c0:OA)(gone2:Bool):WP:=jn 8 (RB jn Q) ((.p c0)::us 1 ((.b gone2)::us 29 []))
def Are:KP:=⟨[],[(4,[0,1,2,3,4,5,6,7,9]),(5,[0,1,2,3,5,6,7,8,9]),(7,[0,1,2,3,4,5,6,10,11,12,13,14])]⟩
def IQ:KP:=⟨[],[(5,[0,1,2,3,4,6,7]),(8,[0,1,2,3,4,5,6,7,9,10])]⟩
def Acg:KP:=⟨[(8,[0,1,2])],[]⟩
def RC:EW:=cE Tryz.f128 Acg jn Q [1,1] (rE Tryz.f128 Q) A5
def Uc(f0:OA)(kind1:Int)(key2:BA):WP:=jn 8 (RC jn Q) ((.p f0)::(.i kind1)::(.s key2)::us 21 [])
def NC:KP:=⟨[(13,[0,3,4]),(20,[3])],[]⟩
def Arf:EW:=sE Tryz.f129 NC jn Q [1,1,1,1] (rE Tryz.f129 Q) A5
def RD:EW:=cE Tryz.f129 NC jn Q [1,1,1,1] (rE Tryz.f129 Q) A5
def Arh(all3:Sl):WP:=jn 20 (RD jn Q) (us 3 ((.l all3.a all3.n all3.c)::us 21 []))
def Kk(m1:Nat)(f0:OA)(all3:Sl)(l4:OA):WP:=CG PR NC jn (bE Tryz.f129 [1,1,1,0,1,0,0]) (A6 0 (Arf jn Q) A5) (rE Tryz.f129 Q) m1 ((.p f0)::us 2 ((.l all3.a all3.n all3.c)::(.p l4)::us 20 []))
def Arj:KP:=⟨[],[(10,[0,1,2,3,4]),(12,[0,1,2,3,4])]⟩
def RE:EW:=cE Tryz.f132 Ln jn Q [1,1] (rE Tryz.f132 Q) A5
def ND(m0:OA)(key1:BA):WP:=jn 8 (RE jn Q) ((.p m0)::(.s key1)::us 28 [])
def Ark:KP:=⟨[],[(3,[0,2,3,4,5,7,8])]⟩
def NF:KP:=⟨[(7,[1,5,6]),(16,[1])],[]⟩
def Arl:EW:=sE Tryz.f138 NF jn Q [1,1] (rE Tryz.f138 Q) A5
def RF:EW:=cE Tryz.f138 NF jn Q [1,1] (rE Tryz.f138 Q) A5
def Arm(w1b w1o:Nat):WP:=jn 16 (RF jn Q) (us 1 ((pq w1b w1o)::us 17 []))
def NG(m1:Nat)(w1b w1o:Nat)(t5_0 t5_1 t5_2 t5_3 t5_4 t6:Int):WP:=CG PR NF jn (bE Tryz.f138 [1,0,1,0,0]) (A6 0 (Arl jn Q) A5) (rE Tryz.f138 Q) m1 (us 1 ((pq w1b w1o)::us 3 ((.agg #[.int .u64 t5_0,.int .u64 t5_1,.int .u64 t5_2,.int .u64 t5_3,.int .u64 t5_4])::(.i t6)::us 12 [])))
def NH:KP:=⟨[(9,[3,5,6]),(14,[3])],[]⟩
def Aro:EW:=sE Tryz.f140 NH jn Q [1,1,1] (rE Tryz.f140 Q) A5
def RG:EW:=cE Tryz.f140 NH jn Q [1,1,1] (rE Tryz.f140 Q) A5
def Arp(x3:Int):WP:=jn 14 (RG jn Q) (us 3 ((.int .u64 x3)::us 9 []))
def NI(m1:Nat)(x3 t5 t6:Int):WP:=CG PR NH jn (bE Tryz.f140 [1,1,0,1,0,0]) (A6 0 (Aro jn Q) A5) (rE Tryz.f140 Q) m1 (us 3 ((.int .u64 x3)::us 1 ((.i t5)::(.i t6)::us 6 [])))
def NJ:KP:=⟨[(9,[3,6,7]),(16,[3])],[]⟩
def Arq:EW:=sE Tryz.f142 NJ jn Q [1,1,1] (rE Tryz.f142 Q) A5
def RH:EW:=cE Tryz.f142 NJ jn Q [1,1,1] (rE Tryz.f142 Q) A5
def Arr(sum3:Int):WP:=jn 16 (RH jn Q) (us 3 ((.int .u64 sum3)::us 11 []))
def NK(m1:Nat)(sum3 t6_0 t6_1 t6_2 t6_3 t6_4 t7:Int):WP:=CG PR NJ jn (bE Tryz.f142 [1,1,0,1,0,0]) (A6 0 (Arq jn Q) A5) (rE Tryz.f142 Q) m1 (us 3 ((.int .u64 sum3)::us 2 ((.agg #[.int .u64 t6_0,.int .u64 t6_1,.int .u64 t6_2,.int .u64 t6_3,.int .u64 t6_4])::(.i t7)::us 7 [])))
def NL:KP:=⟨[(7,[0,3]),(14,[3])],[]⟩
def Ars:EW:=sE Tryz.f145 NL jn Q [1,1,1] (rE Tryz.f145 Q) A5
def RI:EW:=cE Tryz.f145 NL jn Q [1,1,1] (rE Tryz.f145 Q) A5
def Art(n3:Int):WP:=jn 14 (RI jn Q) (us 3 ((.i n3)::us 13 []))
def IR(m1:Nat)(m0:OA)(n3:Int):WP:=CG PR NL jn (bE Tryz.f145 [1,1,0,0,0]) (A6 0 (Ars jn Q) A5) (rE Tryz.f145 Q) m1 ((.p m0)::us 2 ((.i n3)::us 13 []))
def Kl:KP:=⟨[(13,[8,21,22,23]),(20,[8])],[]⟩
def Ach:EW:=sE Tryz.f146 Kl jn Q [1,1,1,1] (rE Tryz.f146 Q) A5
def Arv(m1:Nat)(t21:Sl)(t22 t23:Int):WP:=CG PR Kl jn (bE Tryz.f146 [1,1,1,0,1,0,0]) (A6 0 (Ach jn Q) A5) (rE Tryz.f146 Q) m1 (us 8 ((.nilIface)::us 12 ((.l t21.a t21.n t21.c)::(.i t22)::(.i t23)::us 8 [])))
def RJ:EW:=cE Tryz.f146 Kl jn Q [1,1,1,1] (rE Tryz.f146 Q) A5
def Aru(e8_t:TypeId)(e8_v:Value):WP:=jn 20 (RJ jn Q) (us 8 ((.iface e8_t e8_v)::us 23 []))
def NM(m3:Nat)(e8_t:TypeId)(e8_v:Value)(t21:Sl)(t22 t23:Int):WP:=CG PR Kl jn (bE Tryz.f146 [1,1,1,0,1,0,0]) (A6 0 (Ach jn Q) A5) (rE Tryz.f146 Q) m3 (us 8 ((.iface e8_t e8_v)::us 12 ((.l t21.a t21.n t21.c)::(.i t22)::(.i t23)::us 8 [])))
def AA:KP:=⟨[(8,[0,1,6,7]),(11,[0,1,6,7]),(14,[0,1,6,7,8,35]),(18,[0,1,6,7,8,50]),(22,[0,1,6,7,8,61])],[(2,[0,1,2,3,4,6,7,8,9,10,12])]⟩
def Aci(m1:Nat):EW:=Ib PR AA jn (bE Tryz.f158 [1,1,1,0,0]) (A6 0 (rE Tryz.f158 Q) A5) (rE Tryz.f158 Q) m1
def Km(m1:Nat):EW:=sE Tryz.f158 AA jn Q [1,1,1,0,0,1] (Aci jn Q m1) (A6 0 (rE Tryz.f158 Q) A5)
def Arx(m1:Nat):Nat->EW:=A6 1 (Km jn Q m1) (A6 0 (rE Tryz.f158 Q) A5)
def Uf(m1:Nat):Nat->EW:=A6 2 (Km jn Q m1) (Arx jn Q m1)
def RM(m1:Nat):EW:=cE Tryz.f158 AA jn Q [1,1,1,0,0,1] (Aci jn Q m1) (A6 0 (rE Tryz.f158 Q) A5)
def Ui(m1:Nat)(x0:OA)(key1:BA)(free6 i7:Int):WP:=jn 8 (RM jn Q m1) ((.p x0)::(.s key1)::us 4 ((.i free6)::(.i i7)::us 71 []))
def RN(m1:Nat):EW:=cE Tryz.f158 AA jn Q [1,1,1,0,0,0,0,1,0,1,1,1,1,1] (Km jn Q m1) (Uf jn Q m1)
def Uj(m1:Nat)(x0:OA)(key1:BA)(free6 i7:Int)(p8b p8o:Nat)(t61:Bool):WP:=jn 22 (RN jn Q m1) ((.p x0)::(.s key1)::us 4 ((.i free6)::(.i i7)::(pq p8b p8o)::us 52 ((.b t61)::us 17 [])))
def RL(m1:Nat):EW:=cE Tryz.f158 AA jn Q [1,1,1,0,0,0,0,1,0,1,1,1] (Km jn Q m1) (Uf jn Q m1)
def Uh(m1:Nat)(x0:OA)(key1:BA)(free6 i7:Int)(p8b p8o:Nat)(t50:Bool):WP:=jn 18 (RL jn Q m1) ((.p x0)::(.s key1)::us 4 ((.i free6)::(.i i7)::(pq p8b p8o)::us 41 ((.b t50)::us 28 [])))
def RK(m1:Nat):EW:=cE Tryz.f158 AA jn Q [1,1,1,0,0,0,0,1,0,1] (Km jn Q m1) (Uf jn Q m1)
def Ug(m1:Nat)(x0:OA)(key1:BA)(free6 i7:Int)(p8b p8o:Nat)(t35:Bool):WP:=jn 14 (RK jn Q m1) ((.p x0)::(.s key1)::us 4 ((.i free6)::(.i i7)::(pq p8b p8o)::us 26 ((.b t35)::us 43 [])))
def NN(m1:Nat)(x0:OA)(key1:BA)(free6 i7:Int):WP:=CG PR AA jn (bE Tryz.f158 [1,1,1,0,0]) (A6 0 (rE Tryz.f158 Q) A5) (rE Tryz.f158 Q) m1 ((.p x0)::(.s key1)::us 4 ((.i free6)::(.i i7)::us 71 []))
def Arz:KP:=⟨[],[(8,[0,1,2,3,4,5,6,7,9,10])]⟩
def Ed:KP:=⟨[(8,[0,1,2,7])],[(3,[0,1,2,3,4,5,7,8])]⟩
def RO:EW:=cE Tryz.f166 Ed jn Q [1,1] (rE Tryz.f166 Q) A5
def Acj(x0:OA)(i1:Int)(key2:BA)(v7b v7o:Nat):WP:=jn 8 (RO jn Q) ((.p x0)::(.i i1)::(.s key2)::us 4 ((pq v7b v7o)::us 32 []))
def Dx:KP:=⟨[(9,[0,28,29,30])],[]⟩
def Kn(m1:Nat)(x0:OA)(t28:Sl)(t29 t30:Int):WP:=CG PR Dx jn (bE Tryz.f167 [1,1,1,0,0]) (A6 0 (rE Tryz.f167 Q) A5) (rE Tryz.f167 Q) m1 ((.p x0)::us 27 ((.l t28.a t28.n t28.c)::(.i t29)::(.i t30)::us 21 []))
def Kp:KP:=⟨[(8,[0,3,4,13]),(10,[0,3,13])],[(1,[0,1,2,4,5,6,8,9]),(2,[0,1,2,3,4,5,6,7,8,9,10,11,12,13,14,15,17,18,19])]⟩
def Ko:EW:=sE Tryz.f168 Kp jn Q [1,1,1] (rE Tryz.f168 Q) A5
def Ar0:EW:=sE Tryz.f168 Kp jn Q [1,1,0,0,1] (Ko jn Q) (A6 0 (Ko jn Q) A5)
def RQ:EW:=cE Tryz.f168 Kp jn Q [1,1,0,0,1] (Ko jn Q) (A6 0 (Ko jn Q) A5)
def NP(f0:OA)(r3 t13:Bool):WP:=jn 10 (RQ jn Q) ((.p f0)::us 2 ((.b r3)::us 9 ((.b t13)::us 32 [])))
def RP:EW:=cE Tryz.f168 Kp jn Q [1,1,0,0,0,1] (Ar0 jn Q) (A6 0 (Ko jn Q) A5)
def NO(f0:OA)(r3 w4 t13:Bool):WP:=jn 8 (RP jn Q) ((.p f0)::us 2 ((.b r3)::(.b w4)::us 8 ((.b t13)::us 32 [])))
def CO:KP:=⟨[(9,[2,3,6,7]),(14,[2,3])],[(4,[0,1,5])]⟩
def Ar1:EW:=sE Tryz.f184 CO jn Q [1,1,1] (rE Tryz.f184 Q) A5
def Aez:EW:=cE Tryz.f184 CO jn Q [1,1,1] (rE Tryz.f184 Q) A5
def Ar2(m1:Nat)(t2b t2o r3b r3o:Nat)(t6 t7:Int):WP:=CG PR CO jn (bE Tryz.f184 [1,1,0,1,0,0]) (A6 0 (Ar1 jn Q) A5) (rE Tryz.f184 Q) m1 (us 2 ((pq t2b t2o)::(pq r3b r3o)::us 2 ((.i t6)::(.i t7)::us 9 [])))
def Ar3:EW:=sE Tryz.f186 CO jn Q [1,1,1] (rE Tryz.f186 Q) A5
def Ae0:EW:=cE Tryz.f186 CO jn Q [1,1,1] (rE Tryz.f186 Q) A5
def Ar4(m1:Nat)(t2b t2o r3b r3o:Nat)(t6 t7:Int):WP:=CG PR CO jn (bE Tryz.f186 [1,1,0,1,0,0]) (A6 0 (Ar3 jn Q) A5) (rE Tryz.f186 Q) m1 (us 2 ((pq t2b t2o)::(pq r3b r3o)::us 2 ((.i t6)::(.i t7)::us 9 [])))
def Ar5:EW:=sE Tryz.f187 CO jn Q [1,1,1] (rE Tryz.f187 Q) A5
def Ae1:EW:=cE Tryz.f187 CO jn Q [1,1,1] (rE Tryz.f187 Q) A5
def Ar6(m1:Nat)(t2b t2o r3b r3o:Nat)(t6 t7:Int):WP:=CG PR CO jn (bE Tryz.f187 [1,1,0,1,0,0]) (A6 0 (Ar5 jn Q) A5) (rE Tryz.f187 Q) m1 (us 2 ((pq t2b t2o)::(pq r3b r3o)::us 2 ((.i t6)::(.i t7)::us 9 [])))
def Gj:KP:=⟨[(7,[0,3]),(10,[3])],[]⟩
def Ar7:EW:=sE Tryz.f188 Gj jn Q [1,1,1] (rE Tryz.f188 Q) A5
def RR:EW:=cE Tryz.f188 Gj jn Q [1,1,1] (rE Tryz.f188 Q) A5
def Ar8(n3:Int):WP:=jn 10 (RR jn Q) (us 3 ((.i n3)::us 13 []))
def NQ(m1:Nat)(room0 n3:Int):WP:=CG PR Gj jn (bE Tryz.f188 [1,1,0,0,0]) (A6 0 (Ar7 jn Q) A5) (rE Tryz.f188 Q) m1 ((.i room0)::us 2 ((.i n3)::us 13 []))
end
variable{jn:Jn}{Q:VW}{key1 key2 val2 s1:BA}{m1 w1b w1o w3b w3o t6b t6o p8b p8o t0b t0o m2 m3 t2b t2o:Nat}{m0 s0 x0 t0 f0 l0 g0 c0:OA}{room0 kind1 kind0 room1 w0_0 w0_1 w0_2 w0_3 w0_4 free6 i7 seed0 n3 now2 now1 t14 reads0 writes1 n1 now3 life4 t12 t13 t7 t8 all2 draw1 best3 t5 h0 h5 t15 t6 a0 x3 sum3 h1 i1:Int}{gone5 l3 t11 l5 all3:Sl}{hit5 gone2 r3:Bool}{e8_t:TypeId}{e8_v:Value}
theorem Aac:XW jn Q ((.i reads0)::(.i writes1)::us 26 [])=(A4 λS=>VM [
 (Agt PR 182 (.i reads0) λB1=>Agt PR 182 (.i writes1) λB2=>A0 [.chan (some B1),.i 0,.s Ae,.i 0,.b false,.chan (some B2),.i 0,.s Ae,.i 0,.b false,.i 0,.i 0] 188 λB3=>Q (.tuple #[pq B3 0,.i 0])),
 (Agt PR 182 (.i writes1) λB4=>Agt PR 182 (.i reads0) λB5=>A0 [.chan (some B5),.i 0,.s Ae,.i 0,.b false,.chan (some B4),.i 0,.s Ae,.i 0,.b false,.i 0,.i 0] 188 λB6=>Q (.tuple #[pq B6 0,.i 0]))]):=by kernel_rfl
theorem Avq:Au jn PR Anm Tryz.f75 [.i reads0,.i writes1] Q=(Aj (decide (reads0<0)) (Q (.tuple #[.p none,.i 1])) (Aj (decide (reads0>256)) (Q (.tuple #[.p none,.i 1])) (Aj (decide (writes1<1)) (Q (.tuple #[.p none,.i 1])) (Aj (decide (writes1>256)) (Q (.tuple #[.p none,.i 1])) (A0m jn Q reads0 writes1))))):=by kernel_rfl
theorem Avr:Au jn PR Av Tryz.f76 [.i kind0,.i room1] Q=(Pb (.int .i64) PR 113 [.i kind0,.i room1] (λ(X1:Int)=>Aj (X1 != 0) (Q (.tuple #[.p none,.i X1])) (C9)) λ(t_2:TypeId)(v_3:Value)(X1:Int)=>Aj (X1 != 0) (Q (.tuple #[.p none,.i X1])) (
 EE PR t_2 v_3 "Room" fun f_4 r_5 =>Bp f_4 [r_5] fun X6=>A0 [.i kind0,.i X6,.iface t_2 v_3,.nilIface] 124 fun B7=>Q (.tuple #[pq B7 0,.i 0]))):=by kernel_rfl
theorem Avs:Au jn PR Av Tryz.f77 [] Q=(J1 114 [.int .u64 0] λX1=>A0 [.p X1] 118 λB2=>Q (pq B2 0)):=by kernel_rfl
theorem Avt:Au jn PR Av Tryz.f78 [.i kind0] Q=(Aj (decide (kind0>=0)) (Q (.b (decide (kind0<5)))) (Q (.b false))):=by kernel_rfl
theorem Aad:XX jn Q ((pq t0b t0o)::(pq w1b w1o)::us 9 [])=(D1 w1b w1o λX3=>D1 w1b (w1o+1) λX4=>D1 w1b ((w1o+1)+1) λX5=>D1 w1b (((w1o+1)+1)+1) λX6=>D1 w1b ((((w1o+1)+1)+1)+1) λX7=>λw=>Calls PR 115 #[.agg #[.int .u64 X3,.int .u64 X4,.int .u64 X5,.int .u64 X6,.int .u64 X7]] w λe w'=>∃X8:Int,∃X9:Int,∃X10:Int,∃X11:Int,∃X12:Int,e = .returned (.agg #[.int .u64 X8,.int .u64 X9,.int .u64 X10,.int .u64 X11,.int .u64 X12])/\(st t0b t0o (.int .u64 X8)<|st t0b (t0o+1) (.int .u64 X9)<|st t0b ((t0o+1)+1) (.int .u64 X10)<|
 st t0b (((t0o+1)+1)+1) (.int .u64 X11)<|st t0b ((((t0o+1)+1)+1)+1) (.int .u64 X12)<|D1 t0b t0o λX13=>D1 t0b (t0o+1) λX14=>D1 t0b ((t0o+1)+1) λX15=>D1 t0b (((t0o+1)+1)+1) λX16=>D1 t0b ((((t0o+1)+1)+1)+1) λX17=>Q (.agg #[.int .u64 X13,.int .u64 X14,.int .u64 X15,.int .u64 X16,.int .u64 X17])) w'):=by kernel_rfl
theorem P2{t3:Int}:UT jn Q (m1+1) t0b t0o w1b w1o t3=(Aj (decide (t3<5)) (AX ((0:Int)<=t3/\t3<((5:Nat):Int))<|st w1b (w1o+t3.toNat*1) (.int .u64 858993459)<|UT jn Q m1 t0b t0o w1b w1o (IntKind.wrap .i64 (t3+1))) (A0o jn Q t0b t0o w1b w1o)):=by kernel_rfl
theorem Avu:Au jn PR US Tryz.f79 [] Q=(A0 [.int .u64 0,.int .u64 0,.int .u64 0,.int .u64 0,.int .u64 0] 140 λB1=>A0 [.int .u64 0,.int .u64 0,.int .u64 0,.int .u64 0,.int .u64 0] 140 λB2=>D3 λm=>UT jn Q m B1 0 B2 0 0):=by kernel_rfl
theorem Avv{s0:Sl}:Au jn PR Av Tryz.f80 [.l s0.a s0.n s0.c] Q=(Aj (Option.isNone s0.a) (Q (.l none 0 0)) (A0 [] 145 λB1=>Bt 145 1 4 [.int .u32 0] ⟨(some ⟨B1,0,none⟩),0,0⟩ s0.n (λw=>HM w s0.a (s0.n*1)) λG2=>Q (.l G2.a G2.n G2.c))):=by kernel_rfl
theorem Avw{key0:BA}:Au jn PR Av Tryz.f81 [.s key0,.i n1] Q=(Zf 117 [.int .u64 31,.s key0] λX1=>Bp 72 [.i n1,.i 1,.i 8] λX2=>Bp 116 [.int .u64 X1,.i X2] λX3=>Q (.i X3)):=by kernel_rfl
theorem Avx:Au jn PR Av Tryz.f82 [.p s0,.s key1,.i now2] Q=(Aj (Option.isNone s0) (Q (.i 1)) (D4 118 [.s key1] λX1=>Aj (!X1) (Q (.i 2)) (D4 97 [.i now2] λX2=>Aj (!X2) (Q (.i 1)) (Q (.i 0))))):=by kernel_rfl
theorem Aae:XY jn Q ((.p s0)::(.s key1)::us 36 [])=(A0 [.s key1] 9 λB10=>wz 95 [.p s0,.l (some ⟨B10,0,none⟩) 1 1]<|wz 92 [.p s0,.i 3,.s key1]<|A0 [.s key1] 9 λB11=>Q (.l (some ⟨B11,0,none⟩) 1 1)):=by kernel_rfl
theorem Avy:Au jn PR Ano Tryz.f83 [.p s0,.s key1,.i now2] Q=(Ad s0 λB1 O2=>Bo B1 O2 λX3=>EF 85 [.p X3,.s key1,.i now2] λX4 X5=>Aj X5 (Q (.l none 0 0)) (Ad s0 λB6 O7=>Bo B6 O7 λX8=>D4 90 [.p X8,.s key1] λX9=>Aj (!X9) (Q (.l none 0 0)) (Ann jn Q s0 key1))):=by kernel_rfl
theorem Avz{n0:OA}:Au jn PR Av Tryz.f84 [.p n0] Q=(Ad n0 λB1 O2=>Ax B1 O2 λX3=>Bp 119 [.i X3,.i 1099511627776] λX4=>Ad n0 λB5 O6=>st B5 O6 (.i X4)<|Q (.tuple #[])):=by kernel_rfl
theorem Av0:Au jn PR Av Tryz.f85 [.p t0,.s key1,.i now2] Q=(Aj (Option.isNone t0) (Q (.tuple #[.s Ae,.b false])) (Ad t0 λB1 O2=>Bo B1 O2 λX3=>λw=>Calls PR 120 #[.p X3,.s key1] w λe w'=>∃X4:BA,∃X5:Int,∃X6:Bool,e = .returned (.tuple #[.agg #[.s X4,.i X5],.b X6])/\(A0 [.s Ae,.i 0] 120 λB7=>st B7 0 (.s X4)<|st B7 1 (.i X5)<|Aj (!X6) (Q (.tuple #[.s Ae,.b false])) (BR B7 0 λX8=>Ax B7 1 λX9=>D4 121 [.agg #[.s X8,.i X9],.i now2] λX10=>
 Aj X10 (Q (.tuple #[.s Ae,.b false])) (BR B7 0 λX11=>Q (.tuple #[.s X11,.b true])))) w')):=by kernel_rfl
theorem Av1:Au jn PR Av Tryz.f86 [.p f0,.s key1] Q=(Aj (Option.isNone f0) (Q (.b false)) (Ad f0 λB1 O2=>D4 122 [.p f0,pq B1 O2,.i 1,.s key1] λX3=>Aj (!X3) (Ad f0 λB4 O5=>Ax B4 (O5+11) λX6=>Ad f0 λB7 O8=>st B7 (O8+11) (.i (IntKind.wrap .i64 (X6+1)))<|Q (.b X3)) (Q (.b X3)))):=by kernel_rfl
theorem Av2:Au jn PR A0p Tryz.f87 [.p s0,.s key1] Q=(Aj (Option.isNone s0) (Q (.b false)) (Ad s0 λB1 O2=>Ax B1 (O2+1) λX3=>Bp 119 [.i X3,.i 1099511627776] λX4=>Ad s0 λB5 O6=>st B5 (O6+1) (.i X4)<|A4 λS=>Ad s0 λB7 O8=>Ep S B7 O8 λX9=>Zf 117 [.int .u64 21,.s key1] λX10=>Ao true S<|D4 123 [.int .u64 X10,.i X9] λX11=>Aj (!X11) (Q (.b false)) (Ad s0 λB12 O13=>Ax B12 (O13+2) λX14=>Bp 119 [.i X14,.i 1099511627776] λX15=>
 Ad s0 λB16 O17=>st B16 (O17+2) (.i X15)<|Q (.b true)))):=by kernel_rfl
theorem P3:Ya jn Q (us 5 ((.b hit5)::us 51 []))=(Q (.b hit5)):=by kernel_rfl
theorem J7{t43:Sl}{t44 t45:Int}:Aah jn Q (m2+1) s0 hit5 t43 t44 t45=(Aj (decide (t45<t44)) (C7 t43.a t43.n t45 λB17 O18=>BR B17 (O18+t45.toNat*1) λX19=>Ad s0 λB20 O21=>Bo B20 (O21+2) λX22=>EF 126 [.p X22,.s X19] λX23 X24=>Aah jn Q m2 s0 hit5 t43 t44 (IntKind.wrap .i64 (t45+1))) (A0r jn Q hit5)):=by kernel_rfl
theorem Aag{went6:Sl}{back7:Bool}:XZ jn Q ((.p s0)::us 4 ((.b hit5)::(.l went6.a went6.n went6.c)::(.b back7)::us 49 []))=(Ad s0 λB13 O14=>wz 125 [.p (some ⟨B13,(O14+3),none⟩),.b hit5,.b back7]<|Ad s0 λB15 O16=>wz 125 [.p (some ⟨B15,(O16+6),none⟩),.b hit5,.b back7]<|D3 λm=>Aah jn Q m s0 hit5 went6 (went6.n:Int) 0):=by kernel_rfl
theorem Av3:Au jn PR P4 Tryz.f88 [.p s0,.s key1] Q=(Aj (Option.isNone s0) (Q (.b false)) (Ad s0 λB1 O2=>Na B1 (O2+1) (C9) λ(t_3:TypeId)(v_4:Value)=>
 EE PR t_3 v_4 "Access" fun f_5 r_6 =>A2l f_5 [r_6,.s key1] fun X7 X8=>Aj (!X7) (Ad s0 fun B9 O10=>Bo B9 (O10+2) fun X11=>D4 124 [.p X11,.s key1] fun X12=>Aaf jn Q s0 X7 X8 X12) (Aaf jn Q s0 X7 X8 false))):=by kernel_rfl
theorem Aak{v12b v12o:Nat}:Yc jn Q ((.p t0)::(.s key1)::us 10 ((pq v12b v12o)::us 41 []))=(A4 λS=>Ad t0 λB3 O4=>EM S B3 O4 λX5=>BR v12b v12o λX6=>Ax v12b (v12o+1) λX7=>Ao true S<|D4 127 [.p X5,.s key1,.agg #[.s X6,.i X7]] λX8=>Q (.tuple #[.b X8,.i 0])):=by kernel_rfl
theorem Aai:Yb jn Q ((.p t0)::(.s key1)::(.s val2)::(.i now3)::(.i life4)::us 49 [])=(A0 [.s Ae,.i 0] 120 λB2=>st B2 0 (.s val2)<|st B2 1 (.i 0)<|Aj (decide (life4>0)) (st B2 1 (.i (IntKind.wrap .i64 (now3+life4)))<|Aaj jn Q t0 key1 B2 0) (Aaj jn Q t0 key1 B2 0)):=by kernel_rfl
theorem Av4:Au jn PR Aal Tryz.f89 [.p t0,.s key1,.s val2,.i now3,.i life4] Q=(Aj (Option.isNone t0) (Q (.tuple #[.b false,.i 1])) (D4 118 [.s key1] λX1=>Aj (!X1) (Q (.tuple #[.b false,.i 2])) (Aj (decide ((val2.size:Int)>64)) (Q (.tuple #[.b false,.i 3])) (Aj (decide (now3<0)) (Q (.tuple #[.b false,.i 1])) (Aj (decide (now3>1125899906842624)) (Q (.tuple #[.b false,.i 1])) (Aj (decide (life4<0)) (Q (.tuple #[.b false,.i 1])) (Aj (decide (life4>1099511627776)) (Q (.tuple #[.b false,.i 1])) (
 A0s jn Q t0 key1 val2 now3 life4)))))))):=by kernel_rfl
theorem Av5:Au jn PR Av Tryz.f90 [.p t0,.s key1] Q=(Aj (Option.isNone t0) (Q (.b false)) (Ad t0 λB1 O2=>Bo B1 O2 λX3=>λw=>Calls PR 120 #[.p X3,.s key1] w λe w'=>∃X4:BA,∃X5:Int,∃X6:Bool,e = .returned (.tuple #[.agg #[.s X4,.i X5],.b X6])/\(A0 [.s Ae,.i 0] 120 λB7=>st B7 0 (.s X4)<|st B7 1 (.i X5)<|Q (.b X6)) w')):=by kernel_rfl
theorem Av6:Au jn PR Av Tryz.f91 [.p m0] Q=(Aj (Option.isNone m0) (Q (.i 0)) (Ad m0 λB1 O2=>Ax B1 (O2+1) λX3=>Q (.i X3))):=by kernel_rfl
theorem Av7:Au jn PR Av Tryz.f92 [.p s0,.i kind1,.s key2] Q=(Ad s0 λB1 O2=>Bo B1 (O2+1) λX3=>D4 128 [.p X3,.i kind1,.s key2] λX4=>Aj (!X4) (Bp 93 [.p s0] λX5=>Ad s0 λB6 O7=>Bo B6 (O7+1) λX8=>D4 128 [.p X8,.i kind1,.s key2] λX9=>Q (.tuple #[])) (Q (.tuple #[]))):=by kernel_rfl
theorem Aam:Yd jn Q ((.p s0)::us 2 ((.l l3.a l3.n l3.c)::us 33 []))=(Ad s0 λB16 O17=>AY B16 (O17+9) λX18=>Bt 159 2 24 [.i 0,.s Ae] ⟨X18.a,X18.n,X18.c⟩ l3.n (λw=>HM w l3.a (l3.n*2)) λG19=>Ad s0 λB20 O21=>st B20 (O21+9) (.l G19.a G19.n G19.c)<|Q (.i (l3.n:Int))):=by kernel_rfl
theorem P5:UV jn Q (m1+1) s0 l3 t11 t12 t13=(Aj (decide (t13<t12)) (C7 t11.a t11.n t13 λB5 O6=>Ax B5 (O6+t13.toNat*2) λX7=>BR B5 ((O6+t13.toNat*2)+1) λX8=>A0 [.i 0,.s Ae] 159 λB9=>st B9 0 (.i X7)<|st B9 1 (.s X8)<|A4 λS=>Ad s0 λB10 O11=>EM S B10 (O11+2) λX12=>Ax B9 0 λX13=>BR B9 1 λX14=>Ao true S<|F9 130 [.p X12,.agg #[.i X13,.s X14]] λX15=>wz 95 [.p s0,.l X15.a X15.n X15.c]<|UV jn Q m1 s0 l3 t11 t12 (IntKind.wrap .i64 (t13+1))) (
 A0u jn Q s0 l3)):=by kernel_rfl
theorem Av8:Au jn PR UU Tryz.f93 [.p s0] Q=(Ad s0 λB1 O2=>Bo B1 (O2+1) λX3=>F9 129 [.p X3] λX4=>D3 λm=>UV jn Q m s0 X4 X4 (X4.n:Int) 0):=by kernel_rfl
theorem Aao:Ye jn Q m1 ((.p m0)::(.s key1)::us 3 ((.l gone5.a gone5.n gone5.c)::us 45 []))=(EF 135 [.p m0] λX8 X9=>A0 [.s X8] 9 λB10=>Bt 9 1 16 [.s Ae] ⟨gone5.a,gone5.n,gone5.c⟩ 1 (λw=>HM w (some ⟨B10,0,none⟩) (1*1)) λG11=>UW jn Q m1 m0 key1 G11):=by kernel_rfl
theorem P8:Yf jn Q ((.p m0)::(.s key1)::us 3 ((.l gone5.a gone5.n gone5.c)::us 45 []))=(Ad m0 λB12 O13=>Na B12 (O13+2) (C9) λ(t_14:TypeId)(v_15:Value)=>
 EE PR t_14 v_15 "Access" fun f_16 r_17 =>A2l f_16 [r_17,.s key1] fun X18 X19=>Bt 9 1 16 [.s Ae] ⟨gone5.a,gone5.n,gone5.c⟩ X19.n (fun w=>HM w X19.a (X19.n*1)) fun G20=>Q (.l G20.a G20.n G20.c)):=by kernel_rfl
theorem P9:UW jn Q (m1+1) m0 key1 gone5=(A4 λS=>Ad m0 λB3 O4=>Ep S B3 (O4+1) λX5=>Bp 133 [.p m0] λX6=>Ao true S<|Aj (decide (X6>=X5)) (Bp 134 [.p m0] λX7=>Aj (decide (X7>0)) (Anp jn Q m1 m0 key1 gone5) (P7 jn Q m0 key1 gone5)) (P7 jn Q m0 key1 gone5)):=by kernel_rfl
theorem Av9:Au jn PR Lo Tryz.f94 [.p m0,.s key1] Q=(Aj (Option.isNone m0) (Q (.l none 0 0)) (D4 131 [.p m0,.s key1] λX1=>Aj X1 (F9 132 [.p m0,.s key1] λX2=>Q (.l X2.a X2.n X2.c)) (D3 λm=>UW jn Q m m0 key1 ⟨none,0,0⟩))):=by kernel_rfl
theorem PB{t6:Sl}:PA jn Q (m1+1) s0 t6 t7 t8=(Aj (decide (t8<t7)) (C7 t6.a t6.n t8 λB1 O2=>BR B1 (O2+t8.toNat*1) λX3=>Ad s0 λB4 O5=>Bo B4 O5 λX6=>D4 96 [.p X6,.s X3] λX7=>Aj X7 (Ad s0 λB8 O9=>wz 84 [.p (some ⟨B8,((O9+3)+3),none⟩)]<|PA jn Q m1 s0 t6 t7 (IntKind.wrap .i64 (t8+1))) (PA jn Q m1 s0 t6 t7 (IntKind.wrap .i64 (t8+1)))) (Q (.tuple #[]))):=by kernel_rfl
theorem Awa{keys1:Sl}:Au jn PR Anq Tryz.f95 [.p s0,.l keys1.a keys1.n keys1.c] Q=(D3 λm=>PA jn Q m s0 keys1 (keys1.n:Int) 0):=by kernel_rfl
theorem Awb:Au jn PR Av Tryz.f96 [.p t0,.s key1] Q=(Aj (Option.isNone t0) (Q (.b false)) (Ad t0 λB1 O2=>Bo B1 O2 λX3=>λw=>Calls PR 136 #[.p X3,.s key1] w λe w'=>∃X4:BA,∃X5:Int,∃X6:Bool,e = .returned (.tuple #[.agg #[.s X4,.i X5],.b X6])/\(A0 [.s Ae,.i 0] 120 λB7=>st B7 0 (.s X4)<|st B7 1 (.i X5)<|Q (.b X6)) w')):=by kernel_rfl
theorem Awc{now0:Int}:Au jn PR Av Tryz.f97 [.i now0] Q=(Aj (decide (now0>=0)) (Q (.b (decide (now0<=1125899906842624)))) (Q (.b false))):=by kernel_rfl
theorem Aap:Yg jn Q (us 5 ((.l l5.a l5.n l5.c)::us 29 []))=(Q (.l l5.a l5.n l5.c)):=by kernel_rfl
theorem PD:PC jn Q (m1+1) t0 now1 l5 t11 t12 t13=(Aj (decide (t13<t12)) (C7 t11.a t11.n t13 λB2 O3=>BR B2 (O3+t13.toNat*1) λX4=>Ad t0 λB5 O6=>Bo B5 O6 λX7=>λw=>Calls PR 120 #[.p X7,.s X4] w λe w'=>∃X8:BA,∃X9:Int,∃X10:Bool,e = .returned (.tuple #[.agg #[.s X8,.i X9],.b X10])/\(A0 [.s Ae,.i 0] 120 λB11=>st B11 0 (.s X8)<|st B11 1 (.i X9)<|BR B11 0 λX12=>Ax B11 1 λX13=>D4 121 [.agg #[.s X12,.i X13],.i now1] λX14=>
 Aj X14 (A0 [.s X4] 9 λB15=>Bt 9 1 16 [.s Ae] ⟨l5.a,l5.n,l5.c⟩ 1 (λw=>HM w (some ⟨B15,0,none⟩) (1*1)) λG16=>PC jn Q m1 t0 now1 G16 t11 t12 (IntKind.wrap .i64 (t13+1))) (PC jn Q m1 t0 now1 l5 t11 t12 (IntKind.wrap .i64 (t13+1)))) w') (A0x jn Q l5)):=by kernel_rfl
theorem Awd:Au jn PR UX Tryz.f98 [.p t0,.i now1] Q=(F9 41 [.p t0] λX1=>D3 λm=>PC jn Q m t0 now1 ⟨none,0,0⟩ X1 (X1.n:Int) 0):=by kernel_rfl
theorem Adn:Au jn PR Av Tryz.f99 [.p m0] Q=(D4 42 [.p m0] λX1=>Aj (!X1) (Q (.tuple #[.s Ae,.b false])) (Ad m0 λB2 O3=>Na B2 (O3+3) (C9) λ(t_4:TypeId)(v_5:Value)=>
 EE PR t_4 v_5 "Keys" fun f_6 r_7 =>F9 f_6 [r_7] fun X8=>Aj ((X8.n:Int) == 0) (Ad m0 fun B9 O10=>st B9 (O10+3) .nilIface <|Q (.tuple #[.s Ae,.b false])) (C7 X8.a X8.n 0 fun B11 O12=>BR B11 (O12+((0:Int)).toNat * 1) fun X13=>wz 137 [.p m0,.s X13] <|C7 X8.a X8.n 0 fun B14 O15=>BR B14 (O15+((0:Int)).toNat * 1) fun X16=>Q (.tuple #[.s X16,.b true])))):=by kernel_rfl
theorem Wh:R1 jn Q (us 3 ((pq w3b w3o)::us 2 ((pq t6b t6o)::us 39 [])))=(D1 w3b w3o λX33=>D1 w3b (w3o+1) λX34=>D1 w3b ((w3o+1)+1) λX35=>D1 w3b (((w3o+1)+1)+1) λX36=>D1 w3b ((((w3o+1)+1)+1)+1) λX37=>λw=>Calls PR 115 #[.agg #[.int .u64 X33,.int .u64 X34,.int .u64 X35,.int .u64 X36,.int .u64 X37]] w λe w'=>∃X38:Int,∃X39:Int,∃X40:Int,∃X41:Int,∃X42:Int,e = .returned (.agg #[.int .u64 X38,.int .u64 X39,.int .u64 X40,.int .u64 X41,.int .u64 X42])/\(st t6b t6o (.int .u64 X38)<|st t6b (t6o+1) (.int .u64 X39)<|
 st t6b ((t6o+1)+1) (.int .u64 X40)<|st t6b (((t6o+1)+1)+1) (.int .u64 X41)<|st t6b ((((t6o+1)+1)+1)+1) (.int .u64 X42)<|D1 t6b t6o λX43=>D1 t6b (t6o+1) λX44=>D1 t6b ((t6o+1)+1) λX45=>D1 t6b (((t6o+1)+1)+1) λX46=>D1 t6b ((((t6o+1)+1)+1)+1) λX47=>Q (.agg #[.int .u64 X43,.int .u64 X44,.int .u64 X45,.int .u64 X46,.int .u64 X47])) w'):=by kernel_rfl
theorem LK{t32:Int}:N3 jn Q (m3+1) w3b w3o t6b t6o t8 t32=(Aj (decide (t32<5)) (AX ((0:Int)<=t32/\t32<((5:Nat):Int))<|D1 w3b (w3o+t32.toNat*1) λX31=>Zf 143 [.int .u64 X31,.int .u64 4294967296,.int .u64 t8] λX32=>AX ((0:Int)<=t32/\t32<((5:Nat):Int))<|st w3b (w3o+t32.toNat*1) (.int .u64 (if X32>42949672 then X32 else 42949672))<|N3 jn Q m3 w3b w3o t6b t6o t8 (IntKind.wrap .i64 (t32+1))) (Aq0 jn Q w3b w3o t6b t6o)):=by kernel_rfl
theorem Wg:R0 jn Q (us 3 ((pq w3b w3o)::us 2 ((pq t6b t6o)::us 39 [])))=(D1 w3b w3o λX25=>D1 w3b (w3o+1) λX26=>D1 w3b ((w3o+1)+1) λX27=>D1 w3b (((w3o+1)+1)+1) λX28=>D1 w3b ((((w3o+1)+1)+1)+1) λX29=>Zf 142 [.agg #[.int .u64 X25,.int .u64 X26,.int .u64 X27,.int .u64 X28,.int .u64 X29]] λX30=>D3 λm=>N3 jn Q m w3b w3o t6b t6o X30 0):=by kernel_rfl
theorem LJ{ghosts4b ghosts4o:Nat}:N2 jn Q (m1+1) all2 w3b w3o ghosts4b ghosts4o t6b t6o t14=(Aj (decide (t14<5)) (A4 λS=>AX ((0:Int)<=t14/\t14<((5:Nat):Int))<|Ze S w3b (w3o+t14.toNat*1) λX20=>AX ((0:Int)<=t14/\t14<((5:Nat):Int))<|Ax ghosts4b (ghosts4o+t14.toNat*1) λX21=>Ao true S<|Bp 141 [.i X21,.i all2] λX22=>Ao true S<|Zf 140 [.i X22] λX23=>Ao true S<|Zf 139 [.int .u64 X20,.int .u64 X23] λX24=>AX ((0:Int)<=t14/\t14<((5:Nat):Int))<|
 st w3b (w3o+t14.toNat*1) (.int .u64 X24)<|N2 jn Q m1 all2 w3b w3o ghosts4b ghosts4o t6b t6o (IntKind.wrap .i64 (t14+1))) (Aqz jn Q w3b w3o t6b t6o)):=by kernel_rfl
theorem Air{ghosts1_0 ghosts1_1 ghosts1_2 ghosts1_3 ghosts1_4:Int}:Au jn PR H8 Tryz.f100 [.agg #[.int .u64 w0_0,.int .u64 w0_1,.int .u64 w0_2,.int .u64 w0_3,.int .u64 w0_4],.agg #[.i ghosts1_0,.i ghosts1_1,.i ghosts1_2,.i ghosts1_3,.i ghosts1_4],.i all2] Q=(A0 [.int .u64 w0_0,.int .u64 w0_1,.int .u64 w0_2,.int .u64 w0_3,.int .u64 w0_4] 140 λB1=>A0 [.i ghosts1_0,.i ghosts1_1,.i ghosts1_2,.i ghosts1_3,.i ghosts1_4] 100 λB2=>A0 [.int .u64 0,.int .u64 0,.int .u64 0,.int .u64 0,.int .u64 0] 140 λB3=>D1 B1 0 λX4=>D1 B1 1 λX5=>
 D1 B1 2 λX6=>D1 B1 3 λX7=>D1 B1 4 λX8=>D4 138 [.agg #[.int .u64 X4,.int .u64 X5,.int .u64 X6,.int .u64 X7,.int .u64 X8]] λX9=>Aj (!X9) (λw=>Calls PR 79 #[] w λe w'=>∃X10:Int,∃X11:Int,∃X12:Int,∃X13:Int,∃X14:Int,e = .returned (.agg #[.int .u64 X10,.int .u64 X11,.int .u64 X12,.int .u64 X13,.int .u64 X14])/\(st B3 0 (.int .u64 X10)<|st B3 1 (.int .u64 X11)<|st B3 2 (.int .u64 X12)<|st B3 3 (.int .u64 X13)<|st B3 4 (.int .u64 X14)<|D1 B3 0 λX15=>D1 B3 1 λX16=>D1 B3 2 λX17=>D1 B3 3 λX18=>D1 B3 4 λX19=>
 Q (.agg #[.int .u64 X15,.int .u64 X16,.int .u64 X17,.int .u64 X18,.int .u64 X19])) w') (D3 λm=>N2 jn Q m all2 B1 0 B2 0 B3 0 0)):=by kernel_rfl
theorem Wi:R2 jn Q (us 22 [])=(Q (.i 4)):=by kernel_rfl
theorem LL{sum5 t8_0 t8_1 t8_2 t8_3 t8_4 t9:Int}:N5 jn Q (m1+1) draw1 sum5 t8_0 t8_1 t8_2 t8_3 t8_4 t9=(Aj (decide (t9<5)) (AX ((0:Int)<=t9/\t9<((5:Nat):Int))<|λw=>∃X7:Int,([.int .u64 t8_0,.int .u64 t8_1,.int .u64 t8_2,.int .u64 t8_3,.int .u64 t8_4]:List Value)[t9.toNat]? = some (.int .u64 X7)/\Cu (.int .u64 X7)=false/\(Aj (decide ((IntKind.wrap .u64 (sum5+X7))>(IntKind.wrap .u64 draw1))) (Q (.i t9)) (N5 jn Q m1 draw1 (IntKind.wrap .u64 (sum5+X7)) t8_0 t8_1 t8_2 t8_3 t8_4 (IntKind.wrap .i64 (t9+1)))) w) (Aq2 jn Q)):=by kernel_rfl
theorem Ais:Au jn PR N4 Tryz.f101 [.agg #[.int .u64 w0_0,.int .u64 w0_1,.int .u64 w0_2,.int .u64 w0_3,.int .u64 w0_4],.int .u32 draw1] Q=(A0 [.int .u64 w0_0,.int .u64 w0_1,.int .u64 w0_2,.int .u64 w0_3,.int .u64 w0_4] 140 λB1=>D1 B1 0 λX2=>D1 B1 1 λX3=>D1 B1 2 λX4=>D1 B1 3 λX5=>D1 B1 4 λX6=>D3 λm=>N5 jn Q m draw1 0 X2 X3 X4 X5 X6 0):=by kernel_rfl
theorem Ait:Au jn PR Aq3 Tryz.f102 [.p t0] Q=(Aj (Option.isNone t0) (Q (.int .u32 0)) (Ad t0 λB1 O2=>Ax B1 (O2+1) λX3=>Ad t0 λB4 O5=>st B4 (O5+1) (.i (IntKind.wrap .i64 (X3+1)))<|A4 λS=>Ad t0 λB6 O7=>Ep S B6 (O7+1) λX8=>Ad t0 λB9 O10=>AY B9 O10 λX11=>Ao true S<|Aj (decide (X8>(X11.n:Int))) (Q (.int .u32 0)) (A4 λS=>Ad t0 λB12 O13=>Fx S B12 O13 λX14=>Ad t0 λB15 O16=>Ax B15 (O16+1) λX17=>Ao true S<|C7 X14.a X14.n (IntKind.wrap .i64 (X17-1)) λB18 O19=>ld (.int .u32) B18 (O19+((IntKind.wrap .i64 (X17-(1:Int)))).toNat*1) λ(X20:Int)=>
 Q (.int .u32 X20)))):=by kernel_rfl
theorem Aiu:Au jn PR Av Tryz.f103 [.p s0] Q=(A0 [.i 0,.i 0,.i 0] 165 λB1=>Aj (Option.isNone s0) (st B1 0 (.i 0)<|st B1 1 (.i 0)<|st B1 2 (.i 0)<|Ax B1 0 λX2=>Ax B1 1 λX3=>Ax B1 2 λX4=>Q (.agg #[.i X2,.i X3,.i X4])) (Ad s0 λB5 O6=>Ax B5 (O6+3) λX7=>Ax B5 ((O6+3)+1) λX8=>Ax B5 (((O6+3)+1)+1) λX9=>A0 [.i 0,.i 0,.i 0] 165 λB10=>st B10 0 (.i X7)<|st B10 1 (.i X8)<|st B10 2 (.i X9)<|Ad s0 λB11 O12=>
 st B11 (O12+3) (.i 0)<|st B11 ((O12+3)+1) (.i 0)<|st B11 (((O12+3)+1)+1) (.i 0)<|Ax B10 0 λX13=>Ax B10 1 λX14=>Ax B10 2 λX15=>st B1 0 (.i X13)<|st B1 1 (.i X14)<|st B1 2 (.i X15)<|Ax B1 0 λX16=>Ax B1 1 λX17=>Ax B1 2 λX18=>Q (.agg #[.i X16,.i X17,.i X18]))):=by kernel_rfl
theorem Wk:R4 jn Q ((.p s0)::(.i kind1)::us 29 [])=(Bp 93 [.p s0] λX5=>Ad s0 λB6 O7=>Bo B6 (O7+2) λX8=>Bp 144 [.p X8,.i kind1] λX9=>Q (.i X9)):=by kernel_rfl
theorem Wj{t8:Bool}:R3 jn Q ((.p s0)::(.i kind1)::us 6 ((.b t8)::us 22 []))=(Aj t8 (Q (.i 4)) (Ad s0 λB1 O2=>Bo B1 (O2+2) λX3=>Bp 43 [.p X3] λX4=>Aj (kind1==X4) (Q (.i 8)) (Aq4 jn Q s0 kind1))):=by kernel_rfl
theorem Aiv:Au jn PR N6 Tryz.f104 [.p s0,.i kind1] Q=(Aj (Option.isNone s0) (Q (.i 1)) (Aj (decide (kind1<0)) (Aca jn Q s0 kind1 true) (Aca jn Q s0 kind1 (decide (kind1>=5))))):=by kernel_rfl
theorem Wl:R5 jn Q ((.p m0)::us 4 ((.l gone5.a gone5.n gone5.c)::us 48 []))=(A4 λS=>Ad m0 λB13 O14=>Ep S B13 O14 λX15=>Ad m0 λB16 O17=>Ep S B16 (O17+1) λX18=>Ad m0 λB19 O20=>Na B19 (O20+2) (Ao true S<|C9) λ(t_21:TypeId)(v_22:Value)=>Ao true S<|
 EE PR t_21 v_22 "Keys" fun f_23 r_24 =>F9 f_23 [r_24] fun X25=>Ao true S <|Pb (.int .i64) PR 146 [.i X15,.i X18,.l X25.a X25.n X25.c] (fun (X26:Int)=>Ad m0 fun B29 O30=>st B29 (O30+2) .nilIface <|Q (.l gone5.a gone5.n gone5.c)) fun (t_27:TypeId) (v_28:Value) (X26:Int)=>Ad m0 fun B31 O32=>st B31 (O32+2) (.iface t_27 v_28) <|Q (.l gone5.a gone5.n gone5.c)):=by kernel_rfl
theorem LN:N8 jn Q (m1+1) m0 gone5=(A4 λS=>Ad m0 λB5 O6=>Ep S B5 (O6+1) λX7=>Bp 133 [.p m0] λX8=>Ao true S<|Aj (decide (X8>X7)) (EF 135 [.p m0] λX9 X10=>A0 [.s X9] 9 λB11=>Bt 9 1 16 [.s Ae] ⟨gone5.a,gone5.n,gone5.c⟩ 1 (λw=>HM w (some ⟨B11,0,none⟩) (1*1)) λG12=>N8 jn Q m1 m0 G12) (Acb jn Q m0 gone5)):=by kernel_rfl
theorem Aiw:Au jn PR N7 Tryz.f105 [.p m0,.i room1] Q=(Aj (Option.isNone m0) (Q (.l none 0 0)) (Bp 72 [.i room1,.i 1,.i 1024] λX1=>Ad m0 λB2 O3=>st B2 (O3+1) (.i X1)<|Bp 145 [.p m0] λX4=>D3 λm=>N8 jn Q m m0 ⟨none,0,0⟩)):=by kernel_rfl
theorem Aix{c1:Int}:Au jn PR Aq6 Tryz.f106 [.p s0,.i c1] Q=(Aj (Option.isNone s0) (Q (.i 0)) (A4 λS=>Ad s0 λB1 O2=>Ep S B1 O2 λX3=>Bp 72 [.i c1,.i 0,.i 1024] λX4=>Ao true S<|AX ((16777216:Int)≠0)<|Q (.i (if (IntKind.wrap .i64 (Int.tdiv (IntKind.wrap .i64 (X4*X3)) 16777216))>1 then (IntKind.wrap .i64 (Int.tdiv (IntKind.wrap .i64 (X4*X3)) 16777216)) else 1)))):=by kernel_rfl
theorem Aiy:Au jn PR Av Tryz.f107 [.i kind0,.i room1] Q=(Pb (.int .i64) PR 113 [.i kind0,.i room1] (λ(X1:Int)=>Aj (X1 != 0) (Q (.tuple #[.p none,.i X1])) (J1 147 [.i room1] λX4=>A0 [.i kind0,.nilIface,.p X4,.i 0,.i 0,.i 0,.i 0,.i 0,.i 0] 203 λB5=>Q (.tuple #[pq B5 0,.i 0]))) λ(t_2:TypeId)(v_3:Value)(X1:Int)=>Aj (X1 != 0) (Q (.tuple #[.p none,.i X1])) (J1 147 [.i room1] λX6=>A0 [.i kind0,.iface t_2 v_3,.p X6,.i 0,.i 0,.i 0,.i 0,.i 0,.i 0] 203 λB7=>
 Q (.tuple #[pq B7 0,.i 0]))):=by kernel_rfl
theorem Aiz:Au jn PR Av Tryz.f113 [.i kind0,.i room1] Q=(Aj (kind0==0) (J1 151 [.i room1] λX1=>Q (.tuple #[.iface 223 (.p X1),.i 0])) (Aj (kind0==1) (J1 152 [.i room1] λX2=>Q (.tuple #[.iface 225 (.p X2),.i 0])) (Aj (kind0==2) (J1 153 [.i room1] λX3=>Q (.tuple #[.iface 227 (.p X3),.i 0])) (Aj (kind0==3) (J1 154 [.i room1] λX4=>Q (.tuple #[.iface 229 (.p X4),.i 0])) (Aj (kind0==4) (J1 155 [.i room1] λX5=>
 Q (.tuple #[.iface 231 (.p X5),.i 0])) (Q (.tuple #[.nilIface,.i 4]))))))):=by kernel_rfl
theorem Ai0:Au jn PR Av Tryz.f114 [.int .u64 seed0] Q=(Hi 178 48 [.i 0,.s Ae,.s Ae,.i 0] 8 8 λG1=>A0 [.int .u64 seed0,.l G1.a G1.n G1.c,.i 0,.i 0] 176 λB2=>Q (pq B2 0)):=by kernel_rfl
theorem Wm:R6 jn Q (us 1 ((pq w1b w1o)::(pq t2b t2o)::(.i best3)::us 22 []))=(A4 λS=>AX ((0:Int)<=best3/\best3<((5:Nat):Int))<|Ze S w1b (w1o+best3.toNat*1) λX5=>D1 w1b w1o λX6=>D1 w1b (w1o+1) λX7=>D1 w1b ((w1o+1)+1) λX8=>D1 w1b (((w1o+1)+1)+1) λX9=>D1 w1b ((((w1o+1)+1)+1)+1) λX10=>Ao true S<|Zf 142 [.agg #[.int .u64 X6,.int .u64 X7,.int .u64 X8,.int .u64 X9,.int .u64 X10]] λX11=>Ao true S<|AX ((0:Int)<=best3/\best3<((5:Nat):Int))<|
 st w1b (w1o+best3.toNat*1) (.int .u64 (IntKind.wrap .u64 (X5+(IntKind.wrap .u64 (4294967296-X11)))))<|D1 w1b w1o λX12=>D1 w1b (w1o+1) λX13=>D1 w1b ((w1o+1)+1) λX14=>D1 w1b (((w1o+1)+1)+1) λX15=>D1 w1b ((((w1o+1)+1)+1)+1) λX16=>st t2b t2o (.int .u64 X12)<|st t2b (t2o+1) (.int .u64 X13)<|st t2b ((t2o+1)+1) (.int .u64 X14)<|st t2b (((t2o+1)+1)+1) (.int .u64 X15)<|st t2b ((((t2o+1)+1)+1)+1) (.int .u64 X16)<|D1 t2b t2o λX17=>D1 t2b (t2o+1) λX18=>D1 t2b ((t2o+1)+1) λX19=>D1 t2b (((t2o+1)+1)+1) λX20=>D1 t2b ((((t2o+1)+1)+1)+1) λX21=>
 Q (.agg #[.int .u64 X17,.int .u64 X18,.int .u64 X19,.int .u64 X20,.int .u64 X21])):=by kernel_rfl
theorem LO:Ki jn Q (m1+1) w1b w1o t2b t2o best3 t5=(Aj (decide (t5<5)) (A4 λS=>AX ((0:Int)<=t5/\t5<((5:Nat):Int))<|Ze S w1b (w1o+t5.toNat*1) λX3=>AX ((0:Int)<=best3/\best3<((5:Nat):Int))<|D1 w1b (w1o+best3.toNat*1) λX4=>Ao true S<|Aj (decide (X3>X4)) (Ki jn Q m1 w1b w1o t2b t2o t5 (IntKind.wrap .i64 (t5+1))) (Ki jn Q m1 w1b w1o t2b t2o best3 (IntKind.wrap .i64 (t5+1)))) (Acd jn Q w1b w1o t2b t2o best3)):=by kernel_rfl
theorem Ai1:Au jn PR N9 Tryz.f115 [.agg #[.int .u64 w0_0,.int .u64 w0_1,.int .u64 w0_2,.int .u64 w0_3,.int .u64 w0_4]] Q=(A0 [.int .u64 w0_0,.int .u64 w0_1,.int .u64 w0_2,.int .u64 w0_3,.int .u64 w0_4] 140 λB1=>A0 [.int .u64 0,.int .u64 0,.int .u64 0,.int .u64 0,.int .u64 0] 140 λB2=>D3 λm=>Ki jn Q m B1 0 B2 0 0 0):=by kernel_rfl
theorem Ai2:Au jn PR Av Tryz.f116 [.int .u64 h0,.i n1] Q=(Aj (decide (n1<1)) (Q (.i 0)) (AX ((IntKind.wrap .u64 n1)≠0)<|Q (.i (IntKind.wrap .i64 (Int.tmod h0 (IntKind.wrap .u64 n1)))))):=by kernel_rfl
theorem Wn:R7 jn Q (us 5 ((.int .u64 h5)::us 22 []))=(Q (.int .u64 h5)):=by kernel_rfl
theorem LP:NB jn Q (m1+1) s1 h5 t14 t15=(Aj (decide (t15<t14)) (AX ((0:Int)<=t15/\t15<(s1.size:Int))<|Zf 156 [.int .u64 (IntKind.wrap .u64 ((bits .xor .u64 h5 (IntKind.wrap .u64 (AU s1 t15.toNat)))+11400714819323198485))] λX2=>NB jn Q m1 s1 X2 t14 (IntKind.wrap .i64 (t15+1))) (Ara jn Q h5)):=by kernel_rfl
theorem Ai3:Au jn PR NA Tryz.f117 [.int .u64 seed0,.s s1] Q=(Zf 156 [.int .u64 (bits .xor .u64 seed0 (IntKind.wrap .u64 (s1.size:Int)))] λX1=>D3 λm=>NB jn Q m s1 X1 (s1.size:Int) 0):=by kernel_rfl
theorem Wp:R9 jn Q (us 49 [])=(Q (.b true)):=by kernel_rfl
theorem LQ{s0:BA}:Ct jn Q (m2+1) s0 t14 t15=(Aj (decide (t15<t14)) (AX ((0:Int)<=t15/\t15<(s0.size:Int))<|Aj (decide ((AU s0 t15.toNat)<97)) (Aj (decide ((AU s0 t15.toNat)<65)) (Aj (decide ((AU s0 t15.toNat)<48)) (Bp 157 [.s CZ,.int .u8 (AU s0 t15.toNat)] λX1=>Aj (decide (X1<0)) (Q (.b false)) (Ct jn Q m2 s0 t14 (IntKind.wrap .i64 (t15+1)))) (Aj (decide ((AU s0 t15.toNat)>57)) (Bp 157 [.s CZ,.int .u8 (AU s0 t15.toNat)] λX2=>Aj (decide (X2<0)) (Q (.b false)) (Ct jn Q m2 s0 t14 (IntKind.wrap .i64 (t15+1)))) (
 Ct jn Q m2 s0 t14 (IntKind.wrap .i64 (t15+1))))) (Aj (decide ((AU s0 t15.toNat)>90)) (Aj (decide ((AU s0 t15.toNat)<48)) (Bp 157 [.s CZ,.int .u8 (AU s0 t15.toNat)] λX3=>Aj (decide (X3<0)) (Q (.b false)) (Ct jn Q m2 s0 t14 (IntKind.wrap .i64 (t15+1)))) (Aj (decide ((AU s0 t15.toNat)>57)) (Bp 157 [.s CZ,.int .u8 (AU s0 t15.toNat)] λX4=>Aj (decide (X4<0)) (Q (.b false)) (Ct jn Q m2 s0 t14 (IntKind.wrap .i64 (t15+1)))) (Ct jn Q m2 s0 t14 (IntKind.wrap .i64 (t15+1))))) (Ct jn Q m2 s0 t14 (IntKind.wrap .i64 (t15+1))))) (Aj (decide ((AU s0 t15.toNat)>122)) (
 Aj (decide ((AU s0 t15.toNat)<65)) (Aj (decide ((AU s0 t15.toNat)<48)) (Bp 157 [.s CZ,.int .u8 (AU s0 t15.toNat)] λX5=>Aj (decide (X5<0)) (Q (.b false)) (Ct jn Q m2 s0 t14 (IntKind.wrap .i64 (t15+1)))) (Aj (decide ((AU s0 t15.toNat)>57)) (Bp 157 [.s CZ,.int .u8 (AU s0 t15.toNat)] λX6=>Aj (decide (X6<0)) (Q (.b false)) (Ct jn Q m2 s0 t14 (IntKind.wrap .i64 (t15+1)))) (Ct jn Q m2 s0 t14 (IntKind.wrap .i64 (t15+1))))) (Aj (decide ((AU s0 t15.toNat)>90)) (Aj (decide ((AU s0 t15.toNat)<48)) (Bp 157 [.s CZ,.int .u8 (AU s0 t15.toNat)] λX7=>
 Aj (decide (X7<0)) (Q (.b false)) (Ct jn Q m2 s0 t14 (IntKind.wrap .i64 (t15+1)))) (Aj (decide ((AU s0 t15.toNat)>57)) (Bp 157 [.s CZ,.int .u8 (AU s0 t15.toNat)] λX8=>Aj (decide (X8<0)) (Q (.b false)) (Ct jn Q m2 s0 t14 (IntKind.wrap .i64 (t15+1)))) (Ct jn Q m2 s0 t14 (IntKind.wrap .i64 (t15+1))))) (Ct jn Q m2 s0 t14 (IntKind.wrap .i64 (t15+1))))) (Ct jn Q m2 s0 t14 (IntKind.wrap .i64 (t15+1))))) (Ard jn Q)):=by kernel_rfl
theorem Wo{s0:BA}:R8 jn Q ((.s s0)::us 48 [])=(D3 λm=>Ct jn Q m s0 (s0.size:Int) 0):=by kernel_rfl
theorem Ai4{s0:BA}:Au jn PR Kj Tryz.f118 [.s s0] Q=(Aj (decide ((s0.size:Int)<1)) (Q (.b false)) (Aj (decide ((s0.size:Int)>24)) (Q (.b false)) (Arc jn Q s0))):=by kernel_rfl
theorem Ai5{n0 most1:Int}:Au jn PR Av Tryz.f119 [.i n0,.i most1] Q=(Aj (decide (n0>=most1)) (Q (.i n0)) (Q (.i (IntKind.wrap .i64 (n0+1))))):=by kernel_rfl
theorem Wq{t4b t4o:Nat}:RA jn Q (us 4 ((pq t4b t4o)::us 22 []))=(A0 [.s Ae,.i 0] 120 λB13=>BR B13 0 λX14=>Ax B13 1 λX15=>st t4b t4o (.s X14)<|st t4b (t4o+1) (.i X15)<|BR t4b t4o λX16=>Ax t4b (t4o+1) λX17=>Q (.tuple #[.agg #[.s X16,.i X17],.b false])):=by kernel_rfl
theorem Ai6:Au jn PR Ec Tryz.f120 [.p x0,.s key1] Q=(A0 [.s Ae,.i 0] 120 λB1=>Aj (!Option.isNone x0) (F5 158 [.p x0,.s key1] λX2 X3=>Aj X3 (Ad x0 λB4 O5=>AY B4 (O5+1) λX6=>C7 X6.a X6.n X2 λB7 O8=>BR B7 ((O8+X2.toNat*4)+2) λX9=>Ax B7 (((O8+X2.toNat*4)+2)+1) λX10=>st B1 0 (.s X9)<|st B1 1 (.i X10)<|BR B1 0 λX11=>Ax B1 1 λX12=>Q (.tuple #[.agg #[.s X11,.i X12],.b true])) (Ace jn Q B1 0)) (Ace jn Q B1 0)):=by kernel_rfl
theorem Ai7{v0_0:BA}{v0_1:Int}:Au jn PR Av Tryz.f121 [.agg #[.s v0_0,.i v0_1],.i now1] Q=(A0 [.s v0_0,.i v0_1] 120 λB1=>Ax B1 1 λX2=>Aj (X2 != 0) (Ax B1 1 λX3=>Q (.b (decide (X3<=now1)))) (Q (.b false))):=by kernel_rfl
theorem Ai8{rate1:Int}:Au jn PR Av Tryz.f123 [.int .u64 h0,.i rate1] Q=(AX ((16777216:Int)≠0)<|Q (.b (decide ((IntKind.wrap .i64 (Int.tmod h0 16777216))<rate1)))):=by kernel_rfl
theorem Ai9:Au jn PR Av Tryz.f124 [.p g0,.s key1] Q=(Aj (Option.isNone g0) (Q (.b false)) (Ad g0 λB1 O2=>Bo B1 (O2+2) λX3=>F5 159 [.p X3,.s key1] λX4 X5=>Aj X5 (Ad g0 λB6 O7=>Bo B6 (O7+1) λX8=>EF 160 [.p X8,.i X4] λX9 X10=>Q (.b X5)) (Q (.b X5)))):=by kernel_rfl
theorem Wr:RB jn Q ((.p c0)::us 1 ((.b gone2)::us 29 []))=(Aj gone2 (Ad c0 λB13 O14=>Ax B13 (O14+2) λX15=>Bp 119 [.i X15,.i 1099511627776] λX16=>Ad c0 λB17 O18=>st B17 (O18+2) (.i X16)<|Q (.tuple #[])) (Q (.tuple #[]))):=by kernel_rfl
theorem Aja{hit1:Bool}:Au jn PR Acf Tryz.f125 [.p c0,.b hit1,.b gone2] Q=(Ad c0 λB1 O2=>Ax B1 O2 λX3=>Bp 119 [.i X3,.i 1099511627776] λX4=>Ad c0 λB5 O6=>st B5 O6 (.i X4)<|Aj hit1 (Ad c0 λB7 O8=>Ax B7 (O8+1) λX9=>Bp 119 [.i X9,.i 1099511627776] λX10=>Ad c0 λB11 O12=>st B11 (O12+1) (.i X10)<|Ub jn Q c0 gone2) (Ub jn Q c0 gone2)):=by kernel_rfl
theorem Ajb:Au jn PR Are Tryz.f126 [.p g0,.s key1] Q=(Aj (Option.isNone g0) (Q (.tuple #[.s Ae,.b false])) (D4 124 [.p g0,.s key1] λX1=>A4 λS=>Ad g0 λB2 O3=>EM S B2 (O3+2) λX4=>Ad g0 λB5 O6=>Bo B5 (O6+1) λX7=>Ao true S<|Bp 162 [.p X7,.s key1] λX8=>Ao true S<|D4 161 [.p X4,.s key1,.i X8] λX9=>A4 λS=>Ad g0 λB10 O11=>EM S B10 (O11+1) λX12=>Ad g0 λB13 O14=>Ep S B13 O14 λX15=>Bp 163 [.p X12] λX16=>
 Ao true S<|Aj (decide (X16<=X15)) (Q (.tuple #[.s Ae,.b false])) (A4 λS=>Ad g0 λB17 O18=>EM S B17 (O18+1) λX19=>Ad g0 λB20 O21=>Bo B20 (O21+1) λX22=>Ao true S<|Bp 165 [.p X22] λX23=>Ao true S<|EF 164 [.p X19,.i X23] λX24 X25=>D4 124 [.p g0,.s X24] λX26=>Q (.tuple #[.s X24,.b X25])))):=by kernel_rfl
theorem Ajc{v2_0:BA}{v2_1:Int}:Au jn PR IQ Tryz.f127 [.p x0,.s key1,.agg #[.s v2_0,.i v2_1]] Q=(A0 [.s v2_0,.i v2_1] 120 λB1=>Aj (Option.isNone x0) (Q (.b false)) (F5 158 [.p x0,.s key1] λX2 X3=>Aj X3 (A4 λS=>Ad x0 λB4 O5=>Fx S B4 (O5+1) λX6=>BR B1 0 λX7=>Ax B1 1 λX8=>Ao true S<|C7 X6.a X6.n X2 λB9 O10=>st B9 ((O10+X2.toNat*4)+2) (.s X7)<|st B9 (((O10+X2.toNat*4)+2)+1) (.i X8)<|Q (.b false)) (BR B1 0 λX11=>Ax B1 1 λX12=>
 wz 166 [.p x0,.i X2,.s key1,.agg #[.s X11,.i X12]]<|A4 λS=>Ad x0 λB13 O14=>Ep S B13 (O14+3) λX15=>Ad x0 λB16 O17=>AY B16 (O17+1) λX18=>Ao true S<|Aj (decide ((IntKind.wrap .i64 (2*X15))>(X18.n:Int))) (wz 167 [.p x0]<|Q (.b true)) (Q (.b true))))):=by kernel_rfl
theorem Ws:RC jn Q ((.p f0)::(.i kind1)::(.s key2)::us 21 [])=(Ad f0 λB1 O2=>D4 122 [.p f0,.p (some ⟨B1,(O2+5),none⟩),.i kind1,.s key2] λX3=>Q (.b X3)):=by kernel_rfl
theorem Ajd:Au jn PR Acg Tryz.f128 [.p f0,.i kind1,.s key2] Q=(Aj (Option.isNone f0) (Q (.b false)) (Aj (kind1 != 2) (Aj (kind1 != 3) (Q (.b false)) (Uc jn Q f0 kind1 key2)) (Uc jn Q f0 kind1 key2))):=by kernel_rfl
theorem Wt:RD jn Q (us 3 ((.l all3.a all3.n all3.c)::us 21 []))=(Q (.l all3.a all3.n all3.c)):=by kernel_rfl
theorem LR{l4:OA}:Kk jn Q (m1+1) f0 all3 l4=(Aj (!Option.isNone l4) (Ad l4 λB2 O3=>Ax B2 (O3+1) λX4=>BR B2 ((O3+1)+1) λX5=>A0 [.i X4,.s X5] 159 λB6=>Bt 159 2 24 [.i 0,.s Ae] ⟨all3.a,all3.n,all3.c⟩ 1 (λw=>HM w (some ⟨B6,0,none⟩) (1*2)) λG7=>Ad l4 λB8 O9=>st B8 (O9+4) (.b false)<|J1 168 [.p f0] λX10=>Kk jn Q m1 f0 G7 X10) (Arh jn Q all3)):=by kernel_rfl
theorem Aje:Au jn PR NC Tryz.f129 [.p f0] Q=(Aj (Option.isNone f0) (Q (.l none 0 0)) (J1 168 [.p f0] λX1=>D3 λm=>Kk jn Q m f0 ⟨none,0,0⟩ X1)):=by kernel_rfl
theorem Ajg{e1_0:Int}{e1_1:BA}:Au jn PR Arj Tryz.f130 [.p m0,.agg #[.i e1_0,.s e1_1]] Q=(A0 [.i e1_0,.s e1_1] 159 λB1=>Aj (Option.isNone m0) (Q (.l none 0 0)) (Ax B1 0 λX2=>Aj (X2==1) (BR B1 1 λX3=>D4 131 [.p m0,.s X3] λX4=>Aj X4 (BR B1 1 λX5=>F9 132 [.p m0,.s X5] λX6=>Q (.l X6.a X6.n X6.c)) (Q (.l none 0 0))) (Aj (X2==2) (BR B1 1 λX7=>F9 94 [.p m0,.s X7] λX8=>Q (.l X8.a X8.n X8.c)) (Aj (X2==3) (A4 λS=>Ad m0 λB9 O10=>
 Aoi S B9 (O10+2) (BR B1 1 λX13=>Ao true S<|C9) λ(t_11:TypeId)(v_12:Value)=>BR B1 1 λX14=>Ao true S<|
 EE PR t_11 v_12 "Remove" fun f_15 r_16 =>D4 f_15 [r_16,.s X14] fun X17=>D4 42 [.p m0] fun X18=>Aj X18 (A4 fun S=>Ad m0 fun B19 O20=>Aoi S B19 (O20+3) (BR B1 1 fun X23=>Ao true S <|C9) fun (t_21:TypeId) (v_22:Value)=>BR B1 1 fun X24=>Ao true S <|
 EE PR t_21 v_22 "Remove" fun f_25 r_26 =>D4 f_25 [r_26,.s X24] fun X27=>Q (.l none 0 0)) (Q (.l none 0 0))) (Q (.l none 0 0)))))):=by kernel_rfl
theorem Ajh:Au jn PR Av Tryz.f131 [.p m0,.s key1] Q=(Aj (!Option.isNone m0) (Ad m0 λB1 O2=>Na B1 (O2+2) (C9) λ(t_3:TypeId)(v_4:Value)=>
 EE PR t_3 v_4 "Has" fun f_5 r_6 =>D4 f_5 [r_6,.s key1] fun X7=>Aj X7 (Q (.b true)) (D4 42 [.p m0] fun X8=>Aj X8 (Ad m0 fun B9 O10=>Na B9 (O10+3) (C9) fun (t_11:TypeId) (v_12:Value)=>
 EE PR t_11 v_12 "Has" fun f_13 r_14 =>D4 f_13 [r_14,.s key1] fun X15=>Q (.b X15)) (Q (.b false)))) (Q (.b false))):=by kernel_rfl
theorem LS:RE jn Q ((.p m0)::(.s key1)::us 28 [])=(Ad m0 λB9 O10=>Na B9 (O10+2) (C9) λ(t_11:TypeId)(v_12:Value)=>
 EE PR t_11 v_12 "Access" fun f_13 r_14 =>A2l f_13 [r_14,.s key1] fun X15 X16=>Q (.l X16.a X16.n X16.c)):=by kernel_rfl
theorem Aji:Au jn PR Ln Tryz.f132 [.p m0,.s key1] Q=(D4 42 [.p m0] λX1=>Aj X1 (Ad m0 λB2 O3=>Na B2 (O3+3) (C9) λ(t_4:TypeId)(v_5:Value)=>
 EE PR t_4 v_5 "Has" fun f_6 r_7 =>D4 f_6 [r_7,.s key1] fun X8=>Aj X8 (wz 137 [.p m0,.s key1] <|ND jn Q m0 key1) (ND jn Q m0 key1)) (ND jn Q m0 key1)):=by kernel_rfl
theorem Wv:Au jn PR Ark Tryz.f133 [.p m0] Q=(Aj (Option.isNone m0) (Q (.i 0)) (A4 λS=>Ad m0 λB1 O2=>Aoi S B1 (O2+2) (Bp 134 [.p m0] λX5=>Ao true S<|C9) λ(t_3:TypeId)(v_4:Value)=>Bp 134 [.p m0] λX6=>Ao true S<|
 EE PR t_3 v_4 "Len" fun f_7 r_8 =>Bp f_7 [r_8] fun X9=>Q (.i (IntKind.wrap .i64 (X6+X9))))):=by kernel_rfl
theorem Ww:Au jn PR Av Tryz.f134 [.p m0] Q=(D4 42 [.p m0] λX1=>Aj (!X1) (Q (.i 0)) (Ad m0 λB2 O3=>Na B2 (O3+3) (C9) λ(t_4:TypeId)(v_5:Value)=>
 EE PR t_4 v_5 "Len" fun f_6 r_7 =>Bp f_6 [r_7] fun X8=>Q (.i X8))):=by kernel_rfl
theorem Wx:Au jn PR Av Tryz.f135 [.p m0] Q=(Aj (Option.isNone m0) (Q (.tuple #[.s Ae,.b false])) (Bp 134 [.p m0] λX1=>Aj (decide (X1>0)) (Ad m0 λB2 O3=>Na B2 (O3+3) (C9) λ(t_4:TypeId)(v_5:Value)=>
 EE PR t_4 v_5 "Evict" fun f_6 r_7 =>EF f_6 [r_7] fun X8 X9=>Q (.tuple #[.s X8,.b X9])) (Ad m0 fun B10 O11=>Na B10 (O11+2) (C9) fun (t_12:TypeId) (v_13:Value)=>
 EE PR t_12 v_13 "Evict" fun f_14 r_15 =>EF f_14 [r_15] fun X16 X17=>Q (.tuple #[.s X16,.b X17])))):=by kernel_rfl
theorem Ajj:Au jn PR Av Tryz.f136 [.p x0,.s key1] Q=(A0 [.s Ae,.i 0] 120 λB1=>λw=>Calls PR 120 #[.p x0,.s key1] w λe w'=>∃X2:BA,∃X3:Int,∃X4:Bool,e = .returned (.tuple #[.agg #[.s X2,.i X3],.b X4])/\(A0 [.s Ae,.i 0] 120 λB5=>st B5 0 (.s X2)<|st B5 1 (.i X3)<|Aj X4 (F5 158 [.p x0,.s key1] λX6 X7=>Ad x0 λB8 O9=>AY B8 (O9+1) λX10=>C7 X10.a X10.n X6 λB11 O12=>st B11 (O12+X6.toNat*4) (.i 1)<|st B11 ((O12+X6.toNat*4)+1) (.s Ae)<|
 st B11 (((O12+X6.toNat*4)+1)+1) (.s Ae)<|st B11 ((((O12+X6.toNat*4)+1)+1)+1) (.i 0)<|Ad x0 λB13 O14=>Ax B13 (O14+2) λX15=>Ad x0 λB16 O17=>st B16 (O17+2) (.i (IntKind.wrap .i64 (X15-1)))<|BR B5 0 λX18=>Ax B5 1 λX19=>st B1 0 (.s X18)<|st B1 1 (.i X19)<|BR B1 0 λX20=>Ax B1 1 λX21=>Q (.tuple #[.agg #[.s X20,.i X21],.b X4])) (BR B5 0 λX22=>Ax B5 1 λX23=>st B1 0 (.s X22)<|st B1 1 (.i X23)<|BR B1 0 λX24=>Ax B1 1 λX25=>Q (.tuple #[.agg #[.s X24,.i X25],.b X4]))) w'):=by kernel_rfl
theorem Ajk:Au jn PR Av Tryz.f137 [.p m0,.s key1] Q=(Ad m0 λB1 O2=>Na B1 (O2+3) (C9) λ(t_3:TypeId)(v_4:Value)=>
 EE PR t_3 v_4 "Remove" fun f_5 r_6 =>D4 f_5 [r_6,.s key1] fun X7=>Ad m0 fun B8 O9=>Na B8 (O9+2) (C9) fun (t_10:TypeId) (v_11:Value)=>
 EE PR t_10 v_11 "Load" fun f_12 r_13 =>D4 f_12 [r_13,.s key1] fun X14=>Q (.tuple #[])):=by kernel_rfl
theorem Wy:RF jn Q (us 1 ((pq w1b w1o)::us 17 []))=(D1 w1b w1o λX8=>D1 w1b (w1o+1) λX9=>D1 w1b ((w1o+1)+1) λX10=>D1 w1b (((w1o+1)+1)+1) λX11=>D1 w1b ((((w1o+1)+1)+1)+1) λX12=>Zf 142 [.agg #[.int .u64 X8,.int .u64 X9,.int .u64 X10,.int .u64 X11,.int .u64 X12]] λX13=>Q (.b (X13==4294967296))):=by kernel_rfl
theorem LU{t5_0 t5_1 t5_2 t5_3 t5_4:Int}:NG jn Q (m1+1) w1b w1o t5_0 t5_1 t5_2 t5_3 t5_4 t6=(Aj (decide (t6<5)) (AX ((0:Int)<=t6/\t6<((5:Nat):Int))<|λw=>∃X7:Int,([.int .u64 t5_0,.int .u64 t5_1,.int .u64 t5_2,.int .u64 t5_3,.int .u64 t5_4]:List Value)[t6.toNat]? = some (.int .u64 X7)/\Cu (.int .u64 X7)=false/\(Aj (decide (X7<42949672)) (Q (.b false)) (Aj (decide (X7>4294967296)) (Q (.b false)) (NG jn Q m1 w1b w1o t5_0 t5_1 t5_2 t5_3 t5_4 (IntKind.wrap .i64 (t6+1))))) w) (Arm jn Q w1b w1o)):=by kernel_rfl
theorem Ajl:Au jn PR NF Tryz.f138 [.agg #[.int .u64 w0_0,.int .u64 w0_1,.int .u64 w0_2,.int .u64 w0_3,.int .u64 w0_4]] Q=(A0 [.int .u64 w0_0,.int .u64 w0_1,.int .u64 w0_2,.int .u64 w0_3,.int .u64 w0_4] 140 λB1=>D1 B1 0 λX2=>D1 B1 1 λX3=>D1 B1 2 λX4=>D1 B1 3 λX5=>D1 B1 4 λX6=>D3 λm=>NG jn Q m B1 0 X2 X3 X4 X5 X6 0):=by kernel_rfl
theorem Ajm{b1:Int}:Au jn PR Av Tryz.f139 [.int .u64 a0,.int .u64 b1] Q=(Zf 143 [.int .u64 a0,.int .u64 b1,.int .u64 4294967296] λX1=>Q (.int .u64 X1)):=by kernel_rfl
theorem Wz:RG jn Q (us 3 ((.int .u64 x3)::us 9 []))=(Q (.int .u64 x3)):=by kernel_rfl
theorem LV:NI jn Q (m1+1) x3 t5 t6=(Aj (decide (t6<t5)) (AX ((10:Int)≠0)<|NI jn Q m1 (IntKind.wrap .u64 (Int.tdiv (IntKind.wrap .u64 (x3*9)) 10)) t5 (IntKind.wrap .i64 (t6+1))) (Arp jn Q x3)):=by kernel_rfl
theorem Ajn{k0:Int}:Au jn PR NH Tryz.f140 [.i k0] Q=(Bp 72 [.i k0,.i 0,.i 15] λX1=>D3 λm=>NI jn Q m 4294967296 X1 0):=by kernel_rfl
theorem Ajo{ghosts0 all1:Int}:Au jn PR Av Tryz.f141 [.i ghosts0,.i all1] Q=(Bp 72 [.i ghosts0,.i 0,.i 1099511627776] λX1=>Bp 72 [.i all1,.i 0,.i 1099511627776] λX2=>Aj (X2==0) (Q (.i 0)) (AX (X2≠0)<|Q (.i (if 15<(IntKind.wrap .i64 (Int.tdiv (IntKind.wrap .i64 (16*X1)) X2)) then 15 else (IntKind.wrap .i64 (Int.tdiv (IntKind.wrap .i64 (16*X1)) X2)))))):=by kernel_rfl
theorem W1:RH jn Q (us 3 ((.int .u64 sum3)::us 11 []))=(Q (.int .u64 sum3)):=by kernel_rfl
theorem LY{t6_0 t6_1 t6_2 t6_3 t6_4:Int}:NK jn Q (m1+1) sum3 t6_0 t6_1 t6_2 t6_3 t6_4 t7=(Aj (decide (t7<5)) (AX ((0:Int)<=t7/\t7<((5:Nat):Int))<|λw=>∃X7:Int,([.int .u64 t6_0,.int .u64 t6_1,.int .u64 t6_2,.int .u64 t6_3,.int .u64 t6_4]:List Value)[t7.toNat]? = some (.int .u64 X7)/\Cu (.int .u64 X7)=false/\(NK jn Q m1 (IntKind.wrap .u64 (sum3+X7)) t6_0 t6_1 t6_2 t6_3 t6_4 (IntKind.wrap .i64 (t7+1))) w) (Arr jn Q sum3)):=by kernel_rfl
theorem Ajp:Au jn PR NJ Tryz.f142 [.agg #[.int .u64 w0_0,.int .u64 w0_1,.int .u64 w0_2,.int .u64 w0_3,.int .u64 w0_4]] Q=(A0 [.int .u64 w0_0,.int .u64 w0_1,.int .u64 w0_2,.int .u64 w0_3,.int .u64 w0_4] 140 λB1=>D1 B1 0 λX2=>D1 B1 1 λX3=>D1 B1 2 λX4=>D1 B1 3 λX5=>D1 B1 4 λX6=>D3 λm=>NK jn Q m 0 X2 X3 X4 X5 X6 0):=by kernel_rfl
theorem Ajq{num1 den2:Int}:Au jn PR Av Tryz.f143 [.int .u64 a0,.int .u64 num1,.int .u64 den2] Q=(Gh (.int .u64) (.int .u64) PR 169 [.int .u64 a0,.int .u64 num1] λ(X1:Int)(X2:Int)=>Aj (decide (X1>=den2)) (Q (.int .u64 18446744073709551615)) (Gh (.int .u64) (.int .u64) PR 170 [.int .u64 X1,.int .u64 X2,.int .u64 den2] λ(X3:Int)(X4:Int)=>Q (.int .u64 X3))):=by kernel_rfl
theorem Ajr:Au jn PR Av Tryz.f144 [.p m0,.i kind1] Q=(Aj (Option.isNone m0) (Q (.i 1)) (Ad m0 λB1 O2=>Ax B1 (O2+1) λX3=>Pb (.int .i64) PR 113 [.i kind1,.i X3] (λ(X4:Int)=>Aj (X4 != 0) (Q (.i X4)) (Bp 145 [.p m0] λX7=>Ad m0 λB8 O9=>Na B8 (O9+2) (Ad m0 λB12 O13=>st B12 O13 (.i kind1)<|Ad m0 λB14 O15=>st B14 (O15+2) .nilIface<|Ad m0 λB16 O17=>st B16 (O17+3) .nilIface<|Q (.i 0)) λ(t_10:TypeId)(v_11:Value)=>Ad m0 λB18 O19=>st B18 O19 (.i kind1)<|Ad m0 λB20 O21=>
 st B20 (O21+2) .nilIface<|Ad m0 λB22 O23=>st B22 (O23+3) (.iface t_10 v_11)<|Q (.i 0))) λ(t_5:TypeId)(v_6:Value)(X4:Int)=>Aj (X4 != 0) (Q (.i X4)) (Bp 145 [.p m0] λX24=>Ad m0 λB25 O26=>Na B25 (O26+2) (Ad m0 λB29 O30=>st B29 O30 (.i kind1)<|Ad m0 λB31 O32=>st B31 (O32+2) (.iface t_5 v_6)<|Ad m0 λB33 O34=>st B33 (O34+3) .nilIface<|Q (.i 0)) λ(t_27:TypeId)(v_28:Value)=>Ad m0 λB35 O36=>st B35 O36 (.i kind1)<|Ad m0 λB37 O38=>st B37 (O38+2) (.iface t_5 v_6)<|Ad m0 λB39 O40=>st B39 (O40+3) (.iface t_27 v_28)<|Q (.i 0)))):=by kernel_rfl
theorem W2:RI jn Q (us 3 ((.i n3)::us 13 []))=(Q (.i n3)):=by kernel_rfl
theorem Ir:IR jn Q (m1+1) m0 n3=(D4 42 [.p m0] λX1=>Aj X1 (EF 99 [.p m0] λX2 X3=>Aj X3 (IR jn Q m1 m0 (IntKind.wrap .i64 (n3+1))) (IR jn Q m1 m0 n3)) (Art jn Q n3)):=by kernel_rfl
theorem Ajs:Au jn PR NL Tryz.f145 [.p m0] Q=(D3 λm=>IR jn Q m m0 0):=by kernel_rfl
theorem W3:RJ jn Q (us 8 ((.iface e8_t e8_v)::us 23 []))=(Q (.tuple #[.iface e8_t e8_v,.i 0])):=by kernel_rfl
theorem LZ{t21:Sl}{t22 t23:Int}:NM jn Q (m3+1) e8_t e8_v t21 t22 t23=(Aj (decide (t23<t22)) (C7 t21.a t21.n t23 λB7 O8=>BR B7 (O8+t23.toNat*1) λX9=>
 EE PR e8_t e8_v "Load" fun f_10 r_11 =>D4 f_10 [r_11,.s X9] fun X12=>NM jn Q m3 e8_t e8_v t21 t22 (IntKind.wrap .i64 (t23+1))) (Aru jn Q e8_t e8_v)):=by kernel_rfl
theorem Ajt{keys2:Sl}:Au jn PR Kl Tryz.f146 [.i kind0,.i room1,.l keys2.a keys2.n keys2.c] Q=(Pb (.int .i64) PR 113 [.i kind0,.i room1] (λ(X1:Int)=>Aj (X1 != 0) (Q (.tuple #[.nilIface,.i X1])) (D3 λm=>Arv jn Q m keys2 (keys2.n:Int) 0)) λ(t_2:TypeId)(v_3:Value)(X1:Int)=>Aj (X1 != 0) (Q (.tuple #[.nilIface,.i X1])) (D3 λm=>NM jn Q m t_2 v_3 keys2 (keys2.n:Int) 0)):=by kernel_rfl
theorem Aju:Au jn PR Av Tryz.f147 [.i room0] Q=(Bp 72 [.i room0,.i 1,.i 1024] λX1=>J1 171 [] λX2=>J1 172 [.int .u64 0] λX3=>A0 [.i X1,.p X2,.p X3] 238 λB4=>Q (pq B4 0)):=by kernel_rfl
theorem Ajv:Au jn PR Av Tryz.f151 [.i room0] Q=(λw=>Calls PR 184 #[.i 4] w λe w'=>∃X1:Sl,∃X2:OA,e = .returned (.agg #[.l X1.a X1.n X1.c,.p X2])/\(A0 [.l X1.a X1.n X1.c,.p X2,.i (if (if 1024<room0 then 1024 else room0)>1 then (if 1024<room0 then 1024 else room0) else 1),.i 0] 266 λB3=>Q (pq B3 0)) w'):=by kernel_rfl
theorem Ajw:Au jn PR Av Tryz.f152 [.i room0] Q=(AX ((10:Int)≠0)<|J1 171 [] λX1=>J1 171 [] λX2=>J1 185 [.int .u64 0] λX3=>A0 [.i (if (if 1024<room0 then 1024 else room0)>1 then (if 1024<room0 then 1024 else room0) else 1),.i (IntKind.wrap .i64 ((if (if 1024<room0 then 1024 else room0)>1 then (if 1024<room0 then 1024 else room0) else 1)-(if (IntKind.wrap .i64 (Int.tdiv (if (if 1024<room0 then 1024 else room0)>1 then (if 1024<room0 then 1024 else room0) else 1) 10))>1 then (IntKind.wrap .i64 (Int.tdiv (if (if 1024<room0 then 1024 else room0)>1 then (if 1024<room0 then 1024 else room0) else 1) 10)) else 1))),.p X1,.p X2,.p X3,.i 0,.i 0] 272 λB4=>
 Q (pq B4 0)):=by kernel_rfl
theorem Ajx:Au jn PR Av Tryz.f153 [.i room0] Q=(λw=>Calls PR 186 #[.i 3] w λe w'=>∃X1:Sl,∃X2:OA,e = .returned (.agg #[.l X1.a X1.n X1.c,.p X2])/\(AX ((4:Int)≠0)<|AX ((2:Int)≠0)<|A0 [.l X1.a X1.n X1.c,.p X2,.i (if (if 1024<room0 then 1024 else room0)>1 then (if 1024<room0 then 1024 else room0) else 1),.i (if (IntKind.wrap .i64 (Int.tdiv (if (if 1024<room0 then 1024 else room0)>1 then (if 1024<room0 then 1024 else room0) else 1) 4))>1 then (IntKind.wrap .i64 (Int.tdiv (if (if 1024<room0 then 1024 else room0)>1 then (if 1024<room0 then 1024 else room0) else 1) 4)) else 1),.i (if (IntKind.wrap .i64 (Int.tdiv (if (if 1024<room0 then 1024 else room0)>1 then (if 1024<room0 then 1024 else room0) else 1) 2))>1 then (IntKind.wrap .i64 (Int.tdiv (if (if 1024<room0 then 1024 else room0)>1 then (if 1024<room0 then 1024 else room0) else 1) 2)) else 1)] 278 λB3=>
 Q (pq B3 0)) w'):=by kernel_rfl
theorem Ajy:Au jn PR Av Tryz.f154 [.i room0] Q=(AX ((8:Int)≠0)<|λw=>Calls PR 187 #[.i 3] w λe w'=>∃X1:Sl,∃X2:OA,e = .returned (.agg #[.l X1.a X1.n X1.c,.p X2])/\(AX ((5:Int)≠0)<|J1 188 [.i (if (if 1024<room0 then 1024 else room0)>1 then (if 1024<room0 then 1024 else room0) else 1)] λX3=>J1 189 [.i (if (if 1024<room0 then 1024 else room0)>1 then (if 1024<room0 then 1024 else room0) else 1)] λX4=>A0 [.l X1.a X1.n X1.c,.p X2,.i (if (if 1024<room0 then 1024 else room0)>1 then (if 1024<room0 then 1024 else room0) else 1),.i (if (IntKind.wrap .i64 (Int.tdiv (if (if 1024<room0 then 1024 else room0)>1 then (if 1024<room0 then 1024 else room0) else 1) 8))>1 then (IntKind.wrap .i64 (Int.tdiv (if (if 1024<room0 then 1024 else room0)>1 then (if 1024<room0 then 1024 else room0) else 1) 8)) else 1),.i (IntKind.wrap .i64 ((if (if 1024<room0 then 1024 else room0)>1 then (if 1024<room0 then 1024 else room0) else 1)-(if (IntKind.wrap .i64 (Int.tdiv (if (if 1024<room0 then 1024 else room0)>1 then (if 1024<room0 then 1024 else room0) else 1) 8))>1 then (IntKind.wrap .i64 (Int.tdiv (if (if 1024<room0 then 1024 else room0)>1 then (if 1024<room0 then 1024 else room0) else 1) 8)) else 1))),.i (IntKind.wrap .i64 (Int.tdiv (IntKind.wrap .i64 ((IntKind.wrap .i64 ((if (if 1024<room0 then 1024 else room0)>1 then (if 1024<room0 then 1024 else room0) else 1)-(if (IntKind.wrap .i64 (Int.tdiv (if (if 1024<room0 then 1024 else room0)>1 then (if 1024<room0 then 1024 else room0) else 1) 8))>1 then (IntKind.wrap .i64 (Int.tdiv (if (if 1024<room0 then 1024 else room0)>1 then (if 1024<room0 then 1024 else room0) else 1) 8)) else 1)))*4)) 5)),.p X3,.p X4] 288 λB5=>
 Q (pq B5 0)) w'):=by kernel_rfl
theorem Ajz:Au jn PR Av Tryz.f155 [.i room0] Q=(AX ((10:Int)≠0)<|λw=>Calls PR 190 #[.i 3] w λe w'=>∃X1:Sl,∃X2:OA,e = .returned (.agg #[.l X1.a X1.n X1.c,.p X2])/\(J1 172 [.int .u64 0] λX3=>A0 [.l X1.a X1.n X1.c,.p X2,.i (if (if 1024<room0 then 1024 else room0)>1 then (if 1024<room0 then 1024 else room0) else 1),.i (if (IntKind.wrap .i64 (Int.tdiv (if (if 1024<room0 then 1024 else room0)>1 then (if 1024<room0 then 1024 else room0) else 1) 10))>1 then (IntKind.wrap .i64 (Int.tdiv (if (if 1024<room0 then 1024 else room0)>1 then (if 1024<room0 then 1024 else room0) else 1) 10)) else 1),.i (if (IntKind.wrap .i64 ((if (if 1024<room0 then 1024 else room0)>1 then (if 1024<room0 then 1024 else room0) else 1)-(if (IntKind.wrap .i64 (Int.tdiv (if (if 1024<room0 then 1024 else room0)>1 then (if 1024<room0 then 1024 else room0) else 1) 10))>1 then (IntKind.wrap .i64 (Int.tdiv (if (if 1024<room0 then 1024 else room0)>1 then (if 1024<room0 then 1024 else room0) else 1) 10)) else 1)))>1 then (IntKind.wrap .i64 ((if (if 1024<room0 then 1024 else room0)>1 then (if 1024<room0 then 1024 else room0) else 1)-(if (IntKind.wrap .i64 (Int.tdiv (if (if 1024<room0 then 1024 else room0)>1 then (if 1024<room0 then 1024 else room0) else 1) 10))>1 then (IntKind.wrap .i64 (Int.tdiv (if (if 1024<room0 then 1024 else room0)>1 then (if 1024<room0 then 1024 else room0) else 1) 10)) else 1))) else 1),.p X3] 294 λB4=>
 Q (pq B4 0)) w'):=by kernel_rfl
theorem Aj0{x0:Int}:Au jn PR Av Tryz.f156 [.int .u64 x0] Q=(AX ((0:Int)<=(30:Int))<|AX ((0:Int)<=(27:Int))<|AX ((0:Int)<=(31:Int))<|Q (.int .u64 (bits .xor .u64 (IntKind.wrap .u64 ((bits .xor .u64 (IntKind.wrap .u64 ((bits .xor .u64 x0 (C8 .u64 x0 30))*13787848793156543929)) (C8 .u64 (IntKind.wrap .u64 ((bits .xor .u64 x0 (C8 .u64 x0 30))*13787848793156543929)) 27))*10723151780598845931)) (C8 .u64 (IntKind.wrap .u64 ((bits .xor .u64 (IntKind.wrap .u64 ((bits .xor .u64 x0 (C8 .u64 x0 30))*13787848793156543929)) (C8 .u64 (IntKind.wrap .u64 ((bits .xor .u64 x0 (C8 .u64 x0 30))*13787848793156543929)) 27))*10723151780598845931)) 31)))):=by kernel_rfl
theorem W7:RM jn Q m1 ((.p x0)::(.s key1)::us 4 ((.i free6)::(.i i7)::us 71 []))=(Ad x0 λB23 O24=>AY B23 (O24+1) λX25=>AX ((X25.n:Int)≠0)<|NN jn Q m1 x0 key1 free6 (Int.tmod (IntKind.wrap .i64 (i7+1)) (X25.n:Int))):=by kernel_rfl
theorem W8{t61:Bool}:RN jn Q m1 ((.p x0)::(.s key1)::us 4 ((.i free6)::(.i i7)::(pq p8b p8o)::us 52 ((.b t61)::us 17 [])))=(Aj t61 (Q (.tuple #[.i i7,.b false])) (Ad (some ⟨p8b,p8o,none⟩) λB29 O30=>Ax B29 O30 λX31=>Aj (X31==0) (Q (.tuple #[.i free6,.b false])) (Ui jn Q m1 x0 key1 free6 i7))):=by kernel_rfl
theorem W6{t50:Bool}:RL jn Q m1 ((.p x0)::(.s key1)::us 4 ((.i free6)::(.i i7)::(pq p8b p8o)::us 41 ((.b t50)::us 28 [])))=(Aj t50 (Ui jn Q m1 x0 key1 i7 i7) (Ad (some ⟨p8b,p8o,none⟩) λB26 O27=>Ax B26 O27 λX28=>Aj (X28==0) (Uj jn Q m1 x0 key1 free6 i7 p8b p8o (decide (free6<0))) (Uj jn Q m1 x0 key1 free6 i7 p8b p8o false))):=by kernel_rfl
theorem W5{t35:Bool}:RK jn Q m1 ((.p x0)::(.s key1)::us 4 ((.i free6)::(.i i7)::(pq p8b p8o)::us 26 ((.b t35)::us 43 [])))=(Aj t35 (Q (.tuple #[.i i7,.b true])) (Ad (some ⟨p8b,p8o,none⟩) λB20 O21=>Ax B20 O21 λX22=>Aj (X22==1) (Uh jn Q m1 x0 key1 free6 i7 p8b p8o (decide (free6<0))) (Uh jn Q m1 x0 key1 free6 i7 p8b p8o false))):=by kernel_rfl
theorem W9:NN jn Q (m1+1) x0 key1 free6 i7=(Ad x0 λB9 O10=>AY B9 (O10+1) λX11=>C7 X11.a X11.n i7 λB12 O13=>Ad (some ⟨B12,(O13+i7.toNat*4),none⟩) λB14 O15=>Ax B14 O15 λX16=>Aj (X16==2) (Ad (some ⟨B12,(O13+i7.toNat*4),none⟩) λB17 O18=>BR B17 (O18+1) λX19=>Ug jn Q m1 x0 key1 free6 i7 B12 (O13+i7.toNat*4) (sEq X19 key1)) (Ug jn Q m1 x0 key1 free6 i7 B12 (O13+i7.toNat*4) false)):=by kernel_rfl
theorem Aj1:Au jn PR AA Tryz.f158 [.p x0,.s key1] Q=(A4 λS=>Ad x0 λB1 O2=>Ze S B1 O2 λX3=>Ad x0 λB4 O5=>Fx S B4 (O5+1) λX6=>Zf 117 [.int .u64 X3,.s key1] λX7=>Ao true S<|Bp 116 [.int .u64 X7,.i (X6.n:Int)] λX8=>D3 λm=>NN jn Q m x0 key1 (-1) X8):=by kernel_rfl
theorem Aj2:Au jn PR Av Tryz.f159 [.p x0,.s key1] Q=(F5 192 [.p x0,.s key1] λX1 X2=>Aj X2 (F5 193 [.p x0,.s key1] λX3 X4=>Ad x0 λB5 O6=>AY B5 (O6+1) λX7=>C7 X7.a X7.n X3 λB8 O9=>st B8 (O9+X3.toNat*3) (.i 1)<|st B8 ((O9+X3.toNat*3)+1) (.s Ae)<|st B8 (((O9+X3.toNat*3)+1)+1) (.i 0)<|Ad x0 λB10 O11=>Ax B10 (O11+2) λX12=>Ad x0 λB13 O14=>st B13 (O14+2) (.i (IntKind.wrap .i64 (X12-1)))<|Q (.tuple #[.i X1,.b X2])) (
 Q (.tuple #[.i X1,.b X2]))):=by kernel_rfl
theorem Aj3:Au jn PR Av Tryz.f160 [.p l0,.i h1] Q=(EF 164 [.p l0,.i h1] λX1 X2=>Aj X2 (wz 194 [.p l0,.i h1]<|Ad l0 λB3 O4=>AY B3 O4 λX5=>C7 X5.a X5.n h1 λB6 O7=>st B6 (O7+h1.toNat*4) (.s Ae)<|st B6 ((O7+h1.toNat*4)+1) (.i 0)<|st B6 (((O7+h1.toNat*4)+1)+1) (.i 0)<|st B6 ((((O7+h1.toNat*4)+1)+1)+1) (.b false)<|Ad l0 λB8 O9=>AY B8 (O9+1) λX10=>A0 [.i h1] 3 λB11=>Bt 3 1 8 [.i 0] ⟨X10.a,X10.n,X10.c⟩ 1 (λw=>HM w (some ⟨B11,0,none⟩) (1*1)) λG12=>
 Ad l0 λB13 O14=>st B13 (O14+1) (.l G12.a G12.n G12.c)<|Ad l0 λB15 O16=>Ax B15 (O16+2) λX17=>Ad l0 λB18 O19=>st B18 (O19+2) (.i (IntKind.wrap .i64 (X17-1)))<|Q (.tuple #[.s X1,.b X2])) (Q (.tuple #[.s X1,.b X2]))):=by kernel_rfl
theorem Aj4{v2:Int}:Au jn PR Arz Tryz.f161 [.p x0,.s key1,.i v2] Q=(Aj (Option.isNone x0) (Q (.b false)) (F5 193 [.p x0,.s key1] λX1 X2=>Aj X2 (Ad x0 λB3 O4=>AY B3 (O4+1) λX5=>C7 X5.a X5.n X1 λB6 O7=>st B6 ((O7+X1.toNat*3)+2) (.i v2)<|Q (.b false)) (wz 195 [.p x0,.i X1,.s key1,.i v2]<|A4 λS=>Ad x0 λB8 O9=>Ep S B8 (O9+3) λX10=>Ad x0 λB11 O12=>AY B11 (O12+1) λX13=>Ao true S<|Aj (decide ((IntKind.wrap .i64 (2*X10))>(X13.n:Int))) (
 wz 196 [.p x0]<|Q (.b true)) (Q (.b true))))):=by kernel_rfl
theorem Aj5{v1:BA}:Au jn PR Av Tryz.f162 [.p l0,.s v1] Q=(Aj (Option.isNone l0) (Q (.i 0)) (Bp 197 [.p l0,.s v1] λX1=>Ad l0 λB2 O3=>AY B2 O3 λX4=>C7 X4.a X4.n 0 λB5 O6=>Ax B5 ((O6+((0:Int)).toNat*4)+1) λX7=>wz 198 [.p l0,.i X1,.i X7,.i 0]<|Q (.i X1))):=by kernel_rfl
theorem Aj6:Au jn PR Av Tryz.f163 [.p l0] Q=(Aj (Option.isNone l0) (Q (.i 0)) (Ad l0 λB1 O2=>Ax B1 (O2+2) λX3=>Q (.i X3))):=by kernel_rfl
theorem Aj7:Au jn PR Av Tryz.f164 [.p l0,.i h1] Q=(D4 199 [.p l0,.i h1] λX1=>Aj (!X1) (Q (.tuple #[.s Ae,.b false])) (Ad l0 λB2 O3=>AY B2 O3 λX4=>C7 X4.a X4.n h1 λB5 O6=>BR B5 (O6+h1.toNat*4) λX7=>Q (.tuple #[.s X7,.b true]))):=by kernel_rfl
theorem Aj8:Au jn PR Av Tryz.f165 [.p l0] Q=(Aj (Option.isNone l0) (Q (.i 0)) (Ad l0 λB1 O2=>AY B1 O2 λX3=>C7 X3.a X3.n 0 λB4 O5=>Ax B4 ((O5+((0:Int)).toNat*4)+2) λX6=>Q (.i X6))):=by kernel_rfl
theorem Ma{v7b v7o:Nat}:RO jn Q ((.p x0)::(.i i1)::(.s key2)::us 4 ((pq v7b v7o)::us 32 []))=(A4 λS=>Ad x0 λB13 O14=>Fx S B13 (O14+1) λX15=>BR v7b v7o λX16=>Ax v7b (v7o+1) λX17=>Ao true S<|C7 X15.a X15.n i1 λB18 O19=>st B18 (O19+i1.toNat*4) (.i 2)<|st B18 ((O19+i1.toNat*4)+1) (.s key2)<|st B18 (((O19+i1.toNat*4)+1)+1) (.s X16)<|st B18 ((((O19+i1.toNat*4)+1)+1)+1) (.i X17)<|Ad x0 λB20 O21=>Ax B20 (O21+2) λX22=>Ad x0 λB23 O24=>st B23 (O24+2) (.i (IntKind.wrap .i64 (X22+1)))<|
 Q (.tuple #[])):=by kernel_rfl
theorem Aj9{v3_0:BA}{v3_1:Int}:Au jn PR Ed Tryz.f166 [.p x0,.i i1,.s key2,.agg #[.s v3_0,.i v3_1]] Q=(A0 [.s v3_0,.i v3_1] 120 λB1=>Ad x0 λB2 O3=>AY B2 (O3+1) λX4=>C7 X4.a X4.n i1 λB5 O6=>Ax B5 (O6+i1.toNat*4) λX7=>Aj (X7==0) (Ad x0 λB8 O9=>Ax B8 (O9+3) λX10=>Ad x0 λB11 O12=>st B11 (O12+3) (.i (IntKind.wrap .i64 (X10+1)))<|Acj jn Q x0 i1 key2 B1 0) (Acj jn Q x0 i1 key2 B1 0)):=by kernel_rfl
theorem Mb{t28:Sl}{t29 t30:Int}:Kn jn Q (m1+1) x0 t28 t29 t30=(Aj (decide (t30<t29)) (C7 t28.a t28.n t30 λB14 O15=>Ax B14 (O15+t30.toNat*4) λX16=>BR B14 ((O15+t30.toNat*4)+1) λX17=>BR B14 (((O15+t30.toNat*4)+1)+1) λX18=>Ax B14 ((((O15+t30.toNat*4)+1)+1)+1) λX19=>A0 [.i 0,.s Ae,.s Ae,.i 0] 178 λB20=>st B20 0 (.i X16)<|st B20 1 (.s X17)<|st B20 2 (.s X18)<|st B20 3 (.i X19)<|Ax B20 0 λX21=>Aj (X21==2) (BR B20 1 λX22=>F5 158 [.p x0,.s X22] λX23 X24=>
 BR B20 1 λX25=>BR B20 2 λX26=>Ax B20 3 λX27=>wz 166 [.p x0,.i X23,.s X25,.agg #[.s X26,.i X27]]<|Kn jn Q m1 x0 t28 t29 (IntKind.wrap .i64 (t30+1))) (Kn jn Q m1 x0 t28 t29 (IntKind.wrap .i64 (t30+1)))) (Q (.tuple #[]))):=by kernel_rfl
theorem Aka:Au jn PR Dx Tryz.f167 [.p x0] Q=(Ad x0 λB1 O2=>AY B1 (O2+1) λX3=>Ad x0 λB4 O5=>Ax B4 (O5+2) λX6=>Hi 178 48 [.i 0,.s Ae,.s Ae,.i 0] (if (IntKind.wrap .i64 (4*(IntKind.wrap .i64 (X6+1))))>8 then (IntKind.wrap .i64 (4*(IntKind.wrap .i64 (X6+1)))) else 8) (if (IntKind.wrap .i64 (4*(IntKind.wrap .i64 (X6+1))))>8 then (IntKind.wrap .i64 (4*(IntKind.wrap .i64 (X6+1)))) else 8) λG7=>Ad x0 λB8 O9=>st B8 (O9+1) (.l G7.a G7.n G7.c)<|Ad x0 λB10 O11=>st B10 (O11+2) (.i 0)<|Ad x0 λB12 O13=>st B12 (O13+3) (.i 0)<|D3 λm=>Kn jn Q m x0 X3 (X3.n:Int) 0):=by kernel_rfl
theorem WD{t13:Bool}:RQ jn Q ((.p f0)::us 2 ((.b r3)::us 9 ((.b t13)::us 32 [])))=(Aj t13 (Ad f0 λB13 O14=>Q (.p (some ⟨B13,(O14+5),none⟩))) (Aj r3 (Ad f0 λB15 O16=>Q (pq B15 O16)) (Q (.p none)))):=by kernel_rfl
theorem WC{w4 t13:Bool}:RP jn Q ((.p f0)::us 2 ((.b r3)::(.b w4)::us 8 ((.b t13)::us 32 [])))=(Aj t13 (NP jn Q f0 r3 t13) (Aj w4 (NP jn Q f0 r3 (!r3)) (NP jn Q f0 r3 false))):=by kernel_rfl
theorem Akb:Au jn PR Kp Tryz.f168 [.p f0] Q=(A4 λS=>Ad f0 λB1 O2=>Ad f0 λB3 O4=>D4 200 [pq B1 O2] λX5=>D4 200 [.p (some ⟨B3,(O4+5),none⟩)] λX6=>A4 λS=>Aj X5 (Aj X6 (Ad f0 λB7 O8=>Ep S B7 (((O8+5)+1)+2) λX9=>Ad f0 λB10 O11=>Ax B10 ((O11+1)+2) λX12=>Ao true S<|NO jn Q f0 X5 X6 (decide (X9<X12))) (Ao true S<|NO jn Q f0 X5 X6 false)) (Ao true S<|NO jn Q f0 X5 X6 false)):=by kernel_rfl
theorem Akc{x0 y1:Int}:Au jn PR Av Tryz.f169 [.int .u64 x0,.int .u64 y1] Q=(AX ((0:Int)<=(32:Int))<|AX ((0:Int)<=(32:Int))<|AX ((0:Int)<=(32:Int))<|AX ((0:Int)<=(32:Int))<|AX ((0:Int)<=(32:Int))<|Q (.tuple #[.int .u64 (IntKind.wrap .u64 ((IntKind.wrap .u64 ((IntKind.wrap .u64 ((C8 .u64 x0 32)*(C8 .u64 y1 32)))+(C8 .u64 (IntKind.wrap .u64 ((IntKind.wrap .u64 ((C8 .u64 x0 32)*(bits .and .u64 y1 4294967295)))+(C8 .u64 (IntKind.wrap .u64 ((bits .and .u64 x0 4294967295)*(bits .and .u64 y1 4294967295))) 32))) 32)))+(C8 .u64 (IntKind.wrap .u64 ((bits .and .u64 (IntKind.wrap .u64 ((IntKind.wrap .u64 ((C8 .u64 x0 32)*(bits .and .u64 y1 4294967295)))+(C8 .u64 (IntKind.wrap .u64 ((bits .and .u64 x0 4294967295)*(bits .and .u64 y1 4294967295))) 32))) 4294967295)+(IntKind.wrap .u64 ((bits .and .u64 x0 4294967295)*(C8 .u64 y1 32))))) 32))),.int .u64 (IntKind.wrap .u64 (x0*y1))])):=by kernel_rfl
theorem Akd:Au jn PR Av Tryz.f171 [] Q=(Hi 302 40 [.s Ae,.i 0,.i 0,.b false] 1 1 λG1=>A0 [.l G1.a G1.n G1.c,.l none 0 0,.i 0] 305 λB2=>Q (pq B2 0)):=by kernel_rfl
theorem Ake:Au jn PR Av Tryz.f172 [.int .u64 seed0] Q=(Hi 297 32 [.i 0,.s Ae,.i 0] 8 8 λG1=>A0 [.int .u64 seed0,.l G1.a G1.n G1.c,.i 0,.i 0] 300 λB2=>Q (pq B2 0)):=by kernel_rfl
theorem Akf:Au jn PR Av Tryz.f185 [.int .u64 seed0] Q=(Hi 387 48 [.i 0,.s Ae,.i 0,.i 0,.i 0] 8 8 λG1=>A0 [.int .u64 seed0,.l G1.a G1.n G1.c,.i 0,.i 0] 320 λB2=>Q (pq B2 0)):=by kernel_rfl
theorem Mc:RR jn Q (us 3 ((.i n3)::us 13 []))=(AX ((2:Int)≠0)<|Hi 5 1 [.int .u8 0] (IntKind.wrap .i64 (Int.tdiv (IntKind.wrap .i64 (4*n3)) 2)) (IntKind.wrap .i64 (Int.tdiv (IntKind.wrap .i64 (4*n3)) 2)) λG2=>A0 [.i n3,.l G2.a G2.n G2.c,.i 0] 329 λB3=>Q (pq B3 0)):=by kernel_rfl
theorem Md:NQ jn Q (m1+1) room0 n3=(Bp 72 [.i room0,.i 1,.i 1024] λX1=>Aj (decide (n3<X1)) (NQ jn Q m1 room0 (IntKind.wrap .i64 (n3*2))) (Ar8 jn Q n3)):=by kernel_rfl
theorem Akg:Au jn PR Gj Tryz.f188 [.i room0] Q=(D3 λm=>NQ jn Q m room0 8):=by kernel_rfl
end Go.Proofs.YtjipofkjmmpjdaaGreat
namespace Go.Proofs.YtjipofkjmmpjdaaGreat
open Go.Hb
section
variable(jn:Jn)(Q:VW)
def Ar9:EW:=sE Tryz.f189 Gj jn Q [1,1,1] (rE Tryz.f189 Q) A5
def RS:EW:=cE Tryz.f189 Gj jn Q [1,1,1] (rE Tryz.f189 Q) A5
def Ack(n3:Int):WP:=jn 10 (RS jn Q) (us 3 ((.i n3)::us 13 []))
def NR(m1:Nat)(room0 n3:Int):WP:=CG PR Gj jn (bE Tryz.f189 [1,1,0,0,0]) (A6 0 (Ar9 jn Q) A5) (rE Tryz.f189 Q) m1 ((.i room0)::us 2 ((.i n3)::us 13 []))
def Asb:EW:=sE Tryz.f190 CO jn Q [1,1,1] (rE Tryz.f190 Q) A5
def Ae2:EW:=cE Tryz.f190 CO jn Q [1,1,1] (rE Tryz.f190 Q) A5
def Asc(m1:Nat)(t2b t2o r3b r3o:Nat)(t6 t7:Int):WP:=CG PR CO jn (bE Tryz.f190 [1,1,0,1,0,0]) (A6 0 (Asb jn Q) A5) (rE Tryz.f190 Q) m1 (us 2 ((pq t2b t2o)::(pq r3b r3o)::us 2 ((.i t6)::(.i t7)::us 9 [])))
def Acl(m1:Nat):EW:=Ib PR AA jn (bE Tryz.f193 [1,1,1,0,0]) (A6 0 (rE Tryz.f193 Q) A5) (rE Tryz.f193 Q) m1
def Kq(m1:Nat):EW:=sE Tryz.f193 AA jn Q [1,1,1,0,0,1] (Acl jn Q m1) (A6 0 (rE Tryz.f193 Q) A5)
def Asd(m1:Nat):Nat->EW:=A6 1 (Kq jn Q m1) (A6 0 (rE Tryz.f193 Q) A5)
def Un(m1:Nat):Nat->EW:=A6 2 (Kq jn Q m1) (Asd jn Q m1)
def RW(m1:Nat):EW:=cE Tryz.f193 AA jn Q [1,1,1,0,0,1] (Acl jn Q m1) (A6 0 (rE Tryz.f193 Q) A5)
def Uq(m1:Nat)(x0:OA)(key1:BA)(free6 i7:Int):WP:=jn 8 (RW jn Q m1) ((.p x0)::(.s key1)::us 4 ((.i free6)::(.i i7)::us 71 []))
def RX(m1:Nat):EW:=cE Tryz.f193 AA jn Q [1,1,1,0,0,0,0,1,0,1,1,1,1,1] (Kq jn Q m1) (Un jn Q m1)
def Ur(m1:Nat)(x0:OA)(key1:BA)(free6 i7:Int)(p8b p8o:Nat)(t61:Bool):WP:=jn 22 (RX jn Q m1) ((.p x0)::(.s key1)::us 4 ((.i free6)::(.i i7)::(pq p8b p8o)::us 52 ((.b t61)::us 17 [])))
def RU(m1:Nat):EW:=cE Tryz.f193 AA jn Q [1,1,1,0,0,0,0,1,0,1,1,1] (Kq jn Q m1) (Un jn Q m1)
def Up(m1:Nat)(x0:OA)(key1:BA)(free6 i7:Int)(p8b p8o:Nat)(t50:Bool):WP:=jn 18 (RU jn Q m1) ((.p x0)::(.s key1)::us 4 ((.i free6)::(.i i7)::(pq p8b p8o)::us 41 ((.b t50)::us 28 [])))
def RT(m1:Nat):EW:=cE Tryz.f193 AA jn Q [1,1,1,0,0,0,0,1,0,1] (Kq jn Q m1) (Un jn Q m1)
def Uo(m1:Nat)(x0:OA)(key1:BA)(free6 i7:Int)(p8b p8o:Nat)(t35:Bool):WP:=jn 14 (RT jn Q m1) ((.p x0)::(.s key1)::us 4 ((.i free6)::(.i i7)::(pq p8b p8o)::us 26 ((.b t35)::us 43 [])))
def NS(m1:Nat)(x0:OA)(key1:BA)(free6 i7:Int):WP:=CG PR AA jn (bE Tryz.f193 [1,1,1,0,0]) (A6 0 (rE Tryz.f193 Q) A5) (rE Tryz.f193 Q) m1 ((.p x0)::(.s key1)::us 4 ((.i free6)::(.i i7)::us 71 []))
def Ase:KP:=⟨[],[(0,[0,1,2,3,4,5,6,7,8,9,10,12,13,14,16,17]),(1,[0,1,2,3,4,5,6,7,9,10,11,12,13,15,16])]⟩
def Acn:KP:=⟨[(6,[0,1,2,3])],[]⟩
def RY:EW:=cE Tryz.f195 Acn jn Q [1] (rE Tryz.f195 Q) A5
def Acm(x0:OA)(i1:Int)(key2:BA)(v3:Int):WP:=jn 6 (RY jn Q) ((.p x0)::(.i i1)::(.s key2)::(.i v3)::us 36 [])
def Kr(m1:Nat)(x0:OA)(t28:Sl)(t29 t30:Int):WP:=CG PR Dx jn (bE Tryz.f196 [1,1,1,0,0]) (A6 0 (rE Tryz.f196 Q) A5) (rE Tryz.f196 Q) m1 ((.p x0)::us 27 ((.l t28.a t28.n t28.c)::(.i t29)::(.i t30)::us 21 []))
def Acp:KP:=⟨[(16,[0,1,5])],[]⟩
def RZ:EW:=cE Tryz.f197 Acp jn Q [1,1,1] (rE Tryz.f197 Q) A5
def Aco(l0:OA)(v1:BA)(h5:Int):WP:=jn 16 (RZ jn Q) ((.p l0)::(.s v1)::us 3 ((.i h5)::us 57 []))
def Asf:KP:=⟨[],[(0,[0,1,2,3,4,5,6,7,9,10,11,12,13,15,16]),(1,[0,1,2,3,4,5,6,7,9,10,11,12,13,15,16])]⟩
def NT:KP:=⟨[(9,[0,3,4]),(14,[3])],[]⟩
def Asj:EW:=sE Tryz.f244 NT jn Q [1,1,1] (rE Tryz.f244 Q) A5
def Sa:EW:=cE Tryz.f244 NT jn Q [1,1,1] (rE Tryz.f244 Q) A5
def Asl(all3:Sl):WP:=jn 14 (Sa jn Q) (us 3 ((.l all3.a all3.n all3.c)::us 20 []))
def NU(m1:Nat)(l0:OA)(all3:Sl)(h4:Int):WP:=CG PR NT jn (bE Tryz.f244 [1,1,0,1,0,0]) (A6 0 (Asj jn Q) A5) (rE Tryz.f244 Q) m1 ((.p l0)::us 2 ((.l all3.a all3.n all3.c)::(.i h4)::us 19 []))
def NV:KP:=⟨[(24,[0,1,16,26]),(40,[0,1,6])],[(14,[0,1,2,3,4,5,6,7,8,9,10,11,12,15,16,17,18,21,22,23,24,25,26]),(17,[0,1,2,3,4,5,6,7,8,11,12,13,14,17,18,19,20,21,22])]⟩
def Acq:EW:=sE Tryz.f246 NV jn Q [1,1,1,1,1] (rE Tryz.f246 Q) A5
def Sc:EW:=cE Tryz.f246 NV jn Q [1,1,1,1,1] (rE Tryz.f246 Q) A5
def Ff(e0:OA)(key1:BA)(gone6:Sl):WP:=jn 40 (Sc jn Q) ((.p e0)::(.s key1)::us 4 ((.l gone6.a gone6.n gone6.c)::us 93 []))
def Sb:EW:=cE Tryz.f246 NV jn Q [1,1,1,1,0,1,0,1] (Acq jn Q) (A6 0 (Acq jn Q) A5)
def Us(e0:OA)(key1:BA)(t16:Int)(t26:Bool):WP:=jn 24 (Sb jn Q) ((.p e0)::(.s key1)::us 14 ((.i t16)::us 9 ((.b t26)::us 73 [])))
def Gl:KP:=⟨[(8,[0,1]),(11,[0]),(14,[0]),(15,[0]),(18,[])],[(1,[0,1,2,3,4,6,7,8,10,11,12,13,14,15]),(4,[0,1,2,3,6,7,8,9,10]),(5,[0,1,2,3,4,5,6]),(6,[0,1,2,3,6,7,8,9,10,11]),(7,[0,1,2,3,4,5,6])]⟩
def Asm:EW:=sE Tryz.f252 Gl jn Q [1,1,1,1] (rE Tryz.f252 Q) A5
def Akx:EW:=sE Tryz.f252 Gl jn Q [1,1,1,1,1] (rE Tryz.f252 Q) A5
def Sf:EW:=cE Tryz.f252 Gl jn Q [1,1,1,1,1] (rE Tryz.f252 Q) A5
def Asp:WP:=jn 18 (Sf jn Q) (us 70 [])
def NX(m4:Nat)(e0:OA):WP:=CG PR Gl jn (bE Tryz.f252 [1,1,1,1,0,0,0]) (A6 2 (Akx jn Q) A5) (rE Tryz.f252 Q) m4 ((.p e0)::us 69 [])
def Se:EW:=cE Tryz.f252 Gl jn Q [1,1,1,1] (rE Tryz.f252 Q) A5
def Aso(e0:OA):WP:=jn 14 (Se jn Q) ((.p e0)::us 69 [])
def NW(m2:Nat)(e0:OA):WP:=CG PR Gl jn (bE Tryz.f252 [1,1,1,0,0,0]) (A6 0 (Asm jn Q) A5) (rE Tryz.f252 Q) m2 ((.p e0)::us 69 [])
def Sd:EW:=cE Tryz.f252 Gl jn Q [1,1] (rE Tryz.f252 Q) A5
def Asn(e0:OA)(key1:BA):WP:=jn 8 (Sd jn Q) ((.p e0)::(.s key1)::us 68 [])
def NY:KP:=⟨[],[(2,[0,1,2,3,4,6,7,9,11])]⟩
def Bl:KP:=⟨[(9,[2,5,8,9,10]),(16,[5])],[]⟩
def Asq:EW:=sE Tryz.f258 Bl jn Q [1,1,1] (rE Tryz.f258 Q) A5
def Ae3:EW:=cE Tryz.f258 Bl jn Q [1,1,1] (rE Tryz.f258 Q) A5
def Asr(m1:Nat)(r2b r2o:Nat)(n5:Int)(t8:Sl)(t9 t10:Int):WP:=CG PR Bl jn (bE Tryz.f258 [1,1,0,1,0,0]) (A6 0 (Asq jn Q) A5) (rE Tryz.f258 Q) m1 (us 2 ((pq r2b r2o)::us 2 ((.i n5)::us 2 ((.l t8.a t8.n t8.c)::(.i t9)::(.i t10)::us 13 []))))
def Ass:KP:=⟨[],[(1,[0,1,2,3,6,7,8,9,10])]⟩
def Uu:KP:=⟨[(6,[0,4])],[(1,[0,1,2,3,6,7,8,9,10,11,12,13,14,15,18,19,20,21,22,23,24]),(2,[0,1,2,3,4,5,6]),(3,[0,1,2,3,6,7,8,9,10,11]),(7,[0,1,2,3,6,7,8,9,10,11]),(9,[0,1,2,3,6,7,8,9,10,11,12]),(10,[0,1,2,3,4,5,6])]⟩
def Acr:EW:=sE Tryz.f260 Uu jn Q [1,1] (rE Tryz.f260 Q) A5
def Sg:EW:=cE Tryz.f260 Uu jn Q [1,0,0,1] (Acr jn Q) (A6 0 (Acr jn Q) A5)
def Ut(e0:OA)(t4:Bool):WP:=jn 6 (Sg jn Q) ((.p e0)::us 3 ((.b t4)::us 96 []))
def Acs:KP:=⟨[(10,[0,5,6])],[]⟩
def Si:EW:=cE Tryz.f261 Acs jn Q [1,1,1] (rE Tryz.f261 Q) A5
def Uv(e0:OA)(from5 to6:Int):WP:=jn 10 (Si jn Q) ((.p e0)::us 4 ((.i from5)::(.i to6)::us 17 []))
def Ast:EW:=sE Tryz.f262 Bl jn Q [1,1,1] (rE Tryz.f262 Q) A5
def Ae4:EW:=cE Tryz.f262 Bl jn Q [1,1,1] (rE Tryz.f262 Q) A5
def Asu(m1:Nat)(r2b r2o:Nat)(l5 t8:Sl)(t9 t10:Int):WP:=CG PR Bl jn (bE Tryz.f262 [1,1,0,1,0,0]) (A6 0 (Ast jn Q) A5) (rE Tryz.f262 Q) m1 (us 2 ((pq r2b r2o)::us 2 ((.l l5.a l5.n l5.c)::us 2 ((.l t8.a t8.n t8.c)::(.i t9)::(.i t10)::us 13 []))))
def NZ:KP:=⟨[],[(3,[0,1,2,3,4,5,6])]⟩
def Oa:KP:=⟨[],[(1,[0,1,2,3,4,5,7,8,12,13,14,15,16])]⟩
def Ae5:EW:=cE Tryz.f265 Ec jn Q [1,1] (rE Tryz.f265 Q) A5
def Acu(m1:Nat):EW:=Ib PR AA jn (bE Tryz.f268 [1,1,1,0,0]) (A6 0 (rE Tryz.f268 Q) A5) (rE Tryz.f268 Q) m1
def Ks(m1:Nat):EW:=sE Tryz.f268 AA jn Q [1,1,1,0,0,1] (Acu jn Q m1) (A6 0 (rE Tryz.f268 Q) A5)
def Asv(m1:Nat):Nat->EW:=A6 1 (Ks jn Q m1) (A6 0 (rE Tryz.f268 Q) A5)
def Uw(m1:Nat):Nat->EW:=A6 2 (Ks jn Q m1) (Asv jn Q m1)
def Ae8(m1:Nat):EW:=cE Tryz.f268 AA jn Q [1,1,1,0,0,1] (Acu jn Q m1) (A6 0 (rE Tryz.f268 Q) A5)
def Ae9(m1:Nat):EW:=cE Tryz.f268 AA jn Q [1,1,1,0,0,0,0,1,0,1,1,1,1,1] (Ks jn Q m1) (Uw jn Q m1)
def Ae7(m1:Nat):EW:=cE Tryz.f268 AA jn Q [1,1,1,0,0,0,0,1,0,1,1,1] (Ks jn Q m1) (Uw jn Q m1)
def Ae6(m1:Nat):EW:=cE Tryz.f268 AA jn Q [1,1,1,0,0,0,0,1,0,1] (Ks jn Q m1) (Uw jn Q m1)
def Asw(m1:Nat)(x0:OA)(key1:BA)(free6 i7:Int):WP:=CG PR AA jn (bE Tryz.f268 [1,1,1,0,0]) (A6 0 (rE Tryz.f268 Q) A5) (rE Tryz.f268 Q) m1 ((.p x0)::(.s key1)::us 4 ((.i free6)::(.i i7)::us 71 []))
def Afa:EW:=cE Tryz.f269 Ed jn Q [1,1] (rE Tryz.f269 Q) A5
def Asx(m1:Nat)(x0:OA)(t28:Sl)(t29 t30:Int):WP:=CG PR Dx jn (bE Tryz.f270 [1,1,1,0,0]) (A6 0 (rE Tryz.f270 Q) A5) (rE Tryz.f270 Q) m1 ((.p x0)::us 27 ((.l t28.a t28.n t28.c)::(.i t29)::(.i t30)::us 21 []))
def H9:KP:=⟨[(14,[0,1,6,22]),(28,[0,1,6]),(38,[0,1,6,8]),(40,[0,1,6,8,88])],[(14,[0,2,3,4,5,6]),(18,[0,1,2,3,4,5,6,8,9,10,12,13])]⟩
def Acv:EW:=sE Tryz.f271 H9 jn Q [1,1,1,1] (rE Tryz.f271 Q) A5
def Ak4:EW:=sE Tryz.f271 H9 jn Q [1,1,1,1,1,1,1] (rE Tryz.f271 Q) A5
def Sn:EW:=cE Tryz.f271 H9 jn Q [1,1,1,1,1,1,0,1] (Ak4 jn Q) A5
def Uy(e0:OA)(key1:BA)(n6b n6o:Nat)(gone8:Sl)(t88:Bool):WP:=jn 40 (Sn jn Q) ((.p e0)::(.s key1)::us 4 ((pq n6b n6o)::us 1 ((.l gone8.a gone8.n gone8.c)::us 79 ((.b t88)::us 13 []))))
def Sm:EW:=cE Tryz.f271 H9 jn Q [1,1,1,1,1,1] (rE Tryz.f271 Q) A5
def Ux(e0:OA)(key1:BA)(n6b n6o:Nat)(gone8:Sl):WP:=jn 38 (Sm jn Q) ((.p e0)::(.s key1)::us 4 ((pq n6b n6o)::us 1 ((.l gone8.a gone8.n gone8.c)::us 93 [])))
def Sk:EW:=cE Tryz.f271 H9 jn Q [1,1,1,1] (rE Tryz.f271 Q) A5
def Asy(e0:OA)(key1:BA)(n6b n6o:Nat):WP:=jn 28 (Sk jn Q) ((.p e0)::(.s key1)::us 4 ((pq n6b n6o)::us 95 []))
def Sj:EW:=cE Tryz.f271 H9 jn Q [1,1,1,0,0,1] (Acv jn Q) (A6 0 (Acv jn Q) A5)
def Ob(e0:OA)(key1:BA)(n6b n6o:Nat)(t22:Bool):WP:=jn 14 (Sj jn Q) ((.p e0)::(.s key1)::us 4 ((pq n6b n6o)::us 15 ((.b t22)::us 79 [])))
def U0:KP:=⟨[(12,[0]),(24,[0,4,6])],[(5,[0,1,2,3,4,5,6,10,11,12,13,14])]⟩
def Sp:EW:=cE Tryz.f272 U0 jn Q [1,1,1,1,1,1,1,1] (rE Tryz.f272 Q) A5
def Acw(e0:OA)(key4:BA)(n6b n6o:Nat):WP:=jn 24 (Sp jn Q) ((.p e0)::us 3 ((.s key4)::us 1 ((pq n6b n6o)::us 50 [])))
def So:EW:=cE Tryz.f272 U0 jn Q [1,1,1] (rE Tryz.f272 Q) A5
def Uz(e0:OA):WP:=jn 12 (So jn Q) ((.p e0)::us 56 [])
def Asz:KP:=⟨[],[(3,[0,1,2,3,5,6,7,8,9,10])]⟩
def Acx:KP:=⟨[(8,[0,1])],[(1,[0,1,2,3,4,6,7,8,10,11,12,13,14,15]),(4,[0,1,2,3,4,5,6,8])]⟩
def Sq:EW:=cE Tryz.f277 Acx jn Q [1,1] (rE Tryz.f277 Q) A5
def As0(e0:OA)(key1:BA):WP:=jn 8 (Sq jn Q) ((.p e0)::(.s key1)::us 49 [])
def As1:KP:=⟨[],[(4,[0,1,2,3,4])]⟩
def Acy:KP:=⟨[],[(1,[0,1,2,3,4])]⟩
def Sr:EW:=cE Tryz.f282 Ec jn Q [1,1] (rE Tryz.f282 Q) A5
def Acz(t4b t4o:Nat):WP:=jn 12 (Sr jn Q) (us 4 ((pq t4b t4o)::us 22 []))
def As3:KP:=⟨[],[(5,[0,1,2,3,4,5,6,8])]⟩
def Ac0:KP:=⟨[(3,[0])],[(1,[0,1,2,3,4,5,6,10,11,12,13,14])]⟩
def Oc(m1:Nat)(e0:OA):WP:=CG PR Ac0 jn (bE Tryz.f284 [0,0]) (A6 0 (rE Tryz.f284 Q) A5) (rE Tryz.f284 Q) m1 ((.p e0)::us 40 [])
def Ac1:KP:=⟨[(3,[0])],[(0,[0,1,2,3,4,5,6,8])]⟩
def Od(m1:Nat)(e0:OA):WP:=CG PR Ac1 jn (bE Tryz.f286 [0,0]) (A6 0 (rE Tryz.f286 Q) A5) (rE Tryz.f286 Q) m1 ((.p e0)::us 21 [])
def U2:KP:=⟨[],[(0,[0,1,2,3,4,5,6])]⟩
def As4:KP:=⟨[],[(6,[0,1,2,3,4])]⟩
def Oe:KP:=⟨[(9,[0,1,5,14,15,16]),(20,[5])],[]⟩
def As5:EW:=sE Tryz.f289 Oe jn Q [1,1,1] (rE Tryz.f289 Q) A5
def Ss:EW:=cE Tryz.f289 Oe jn Q [1,1,1] (rE Tryz.f289 Q) A5
def As6(l5:Sl):WP:=jn 20 (Ss jn Q) (us 5 ((.l l5.a l5.n l5.c)::us 33 []))
def Kt(m1:Nat)(e0:OA)(is1:Int)(l5 t14:Sl)(t15 t16:Int):WP:=CG PR Oe jn (bE Tryz.f289 [1,1,0,1,0,0]) (A6 0 (As5 jn Q) A5) (rE Tryz.f289 Q) m1 ((.p e0)::(.i is1)::us 3 ((.l l5.a l5.n l5.c)::us 8 ((.l t14.a t14.n t14.c)::(.i t15)::(.i t16)::us 22 [])))
def Of:KP:=⟨[(7,[0,1,5,6]),(18,[5])],[(7,[0,2])]⟩
def As8:EW:=sE Tryz.f290 Of jn Q [1,1] (rE Tryz.f290 Q) A5
def St:EW:=cE Tryz.f290 Of jn Q [1,1] (rE Tryz.f290 Q) A5
def As9(t5b t5o:Nat):WP:=jn 18 (St jn Q) (us 5 ((pq t5b t5o)::us 43 []))
def Og(m1:Nat)(e0:OA)(is1:Int)(t5b t5o:Nat)(h6:Int):WP:=CG PR Of jn (bE Tryz.f290 [1,0,1,0,0]) (A6 0 (As8 jn Q) A5) (rE Tryz.f290 Q) m1 ((.p e0)::(.i is1)::us 3 ((pq t5b t5o)::(.i h6)::us 42 []))
def Ac2(m1:Nat):EW:=Ib PR AA jn (bE Tryz.f292 [1,1,1,0,0]) (A6 0 (rE Tryz.f292 Q) A5) (rE Tryz.f292 Q) m1
def Ku(m1:Nat):EW:=sE Tryz.f292 AA jn Q [1,1,1,0,0,1] (Ac2 jn Q m1) (A6 0 (rE Tryz.f292 Q) A5)
def Ata(m1:Nat):Nat->EW:=A6 1 (Ku jn Q m1) (A6 0 (rE Tryz.f292 Q) A5)
def U3(m1:Nat):Nat->EW:=A6 2 (Ku jn Q m1) (Ata jn Q m1)
def Sw(m1:Nat):EW:=cE Tryz.f292 AA jn Q [1,1,1,0,0,1] (Ac2 jn Q m1) (A6 0 (rE Tryz.f292 Q) A5)
def U7(m1:Nat)(x0:OA)(key1:BA)(free6 i7:Int):WP:=jn 8 (Sw jn Q m1) ((.p x0)::(.s key1)::us 4 ((.i free6)::(.i i7)::us 71 []))
def Sx(m1:Nat):EW:=cE Tryz.f292 AA jn Q [1,1,1,0,0,0,0,1,0,1,1,1,1,1] (Ku jn Q m1) (U3 jn Q m1)
def U8(m1:Nat)(x0:OA)(key1:BA)(free6 i7:Int)(p8b p8o:Nat)(t61:Bool):WP:=jn 22 (Sx jn Q m1) ((.p x0)::(.s key1)::us 4 ((.i free6)::(.i i7)::(pq p8b p8o)::us 52 ((.b t61)::us 17 [])))
def Sv(m1:Nat):EW:=cE Tryz.f292 AA jn Q [1,1,1,0,0,0,0,1,0,1,1,1] (Ku jn Q m1) (U3 jn Q m1)
def U6(m1:Nat)(x0:OA)(key1:BA)(free6 i7:Int)(p8b p8o:Nat)(t50:Bool):WP:=jn 18 (Sv jn Q m1) ((.p x0)::(.s key1)::us 4 ((.i free6)::(.i i7)::(pq p8b p8o)::us 41 ((.b t50)::us 28 [])))
def Su(m1:Nat):EW:=cE Tryz.f292 AA jn Q [1,1,1,0,0,0,0,1,0,1] (Ku jn Q m1) (U3 jn Q m1)
def U4(m1:Nat)(x0:OA)(key1:BA)(free6 i7:Int)(p8b p8o:Nat)(t35:Bool):WP:=jn 14 (Su jn Q m1) ((.p x0)::(.s key1)::us 4 ((.i free6)::(.i i7)::(pq p8b p8o)::us 26 ((.b t35)::us 43 [])))
def Oh(m1:Nat)(x0:OA)(key1:BA)(free6 i7:Int):WP:=CG PR AA jn (bE Tryz.f292 [1,1,1,0,0]) (A6 0 (rE Tryz.f292 Q) A5) (rE Tryz.f292 Q) m1 ((.p x0)::(.s key1)::us 4 ((.i free6)::(.i i7)::us 71 []))
def Sy:EW:=cE Tryz.f298 Ed jn Q [1,1] (rE Tryz.f298 Q) A5
def Ac3(x0:OA)(i1:Int)(key2:BA)(v7b v7o:Nat):WP:=jn 8 (Sy jn Q) ((.p x0)::(.i i1)::(.s key2)::us 4 ((pq v7b v7o)::us 32 []))
def Kv(m1:Nat)(x0:OA)(t28:Sl)(t29 t30:Int):WP:=CG PR Dx jn (bE Tryz.f299 [1,1,1,0,0]) (A6 0 (rE Tryz.f299 Q) A5) (rE Tryz.f299 Q) m1 ((.p x0)::us 27 ((.l t28.a t28.n t28.c)::(.i t29)::(.i t30)::us 21 []))
def HA:KP:=⟨[(10,[0,28]),(16,[0]),(21,[0,5]),(24,[5])],[(3,[0,1,2,3,6,7,8,9,10,11,12,13,14,15,18,19]),(9,[0,1,2,3,6,7,8,9,10]),(10,[0,1,2,3,4,5,6])]⟩
def Atc:EW:=sE Tryz.f301 HA jn Q [1,1,1] (rE Tryz.f301 Q) A5
def Alz:EW:=sE Tryz.f301 HA jn Q [1,1,1,1,1,1] (rE Tryz.f301 Q) A5
def S3:EW:=cE Tryz.f301 HA jn Q [1,1,1,1,1,1] (rE Tryz.f301 Q) A5
def Ate(key5:BA):WP:=jn 24 (S3 jn Q) (us 5 ((.s key5)::us 68 []))
def Oi(m3:Nat)(e0:OA)(key5:BA):WP:=CG PR HA jn (bE Tryz.f301 [1,1,1,1,1,0,0,0]) (A6 0 (Alz jn Q) A5) (rE Tryz.f301 Q) m3 ((.p e0)::us 4 ((.s key5)::us 68 []))
def S1:EW:=cE Tryz.f301 HA jn Q [1,1,1] (rE Tryz.f301 Q) A5
def Atd(e0:OA):WP:=jn 16 (S1 jn Q) ((.p e0)::us 73 [])
def Sz:EW:=cE Tryz.f301 HA jn Q [1,1,0,1] (Atc jn Q) A5
def U9(e0:OA)(t28:Bool):WP:=jn 10 (Sz jn Q) ((.p e0)::us 27 ((.b t28)::us 45 []))
def Ac4:KP:=⟨[(8,[0,1])],[(1,[0,1,2,3,4,6,7,8,10,11,12,13,14,15])]⟩
def S4:EW:=cE Tryz.f306 Ac4 jn Q [1,1] (rE Tryz.f306 Q) A5
def Atf(e0:OA)(key1:BA):WP:=jn 8 (S4 jn Q) ((.p e0)::(.s key1)::us 25 [])
def Ath:KP:=⟨[],[(1,[0,2,3,4,5,6])]⟩
def Ati:EW:=sE Tryz.f314 Bl jn Q [1,1,1] (rE Tryz.f314 Q) A5
def Afb:EW:=cE Tryz.f314 Bl jn Q [1,1,1] (rE Tryz.f314 Q) A5
def Atj(m1:Nat)(r2b r2o:Nat)(n5:Int)(t8:Sl)(t9 t10:Int):WP:=CG PR Bl jn (bE Tryz.f314 [1,1,0,1,0,0]) (A6 0 (Ati jn Q) A5) (rE Tryz.f314 Q) m1 (us 2 ((pq r2b r2o)::us 2 ((.i n5)::us 2 ((.l t8.a t8.n t8.c)::(.i t9)::(.i t10)::us 13 []))))
def Atk:EW:=sE Tryz.f316 Bl jn Q [1,1,1] (rE Tryz.f316 Q) A5
def Afc:EW:=cE Tryz.f316 Bl jn Q [1,1,1] (rE Tryz.f316 Q) A5
def Atl(m1:Nat)(r2b r2o:Nat)(l5 t8:Sl)(t9 t10:Int):WP:=CG PR Bl jn (bE Tryz.f316 [1,1,0,1,0,0]) (A6 0 (Atk jn Q) A5) (rE Tryz.f316 Q) m1 (us 2 ((pq r2b r2o)::us 2 ((.l l5.a l5.n l5.c)::us 2 ((.l t8.a t8.n t8.c)::(.i t9)::(.i t10)::us 13 []))))
def Afd:EW:=cE Tryz.f317 Ec jn Q [1,1] (rE Tryz.f317 Q) A5
def Ac5(m1:Nat):EW:=Ib PR AA jn (bE Tryz.f320 [1,1,1,0,0]) (A6 0 (rE Tryz.f320 Q) A5) (rE Tryz.f320 Q) m1
def Kw(m1:Nat):EW:=sE Tryz.f320 AA jn Q [1,1,1,0,0,1] (Ac5 jn Q m1) (A6 0 (rE Tryz.f320 Q) A5)
def Atn(m1:Nat):Nat->EW:=A6 1 (Kw jn Q m1) (A6 0 (rE Tryz.f320 Q) A5)
def UB(m1:Nat):Nat->EW:=A6 2 (Kw jn Q m1) (Atn jn Q m1)
def Afg(m1:Nat):EW:=cE Tryz.f320 AA jn Q [1,1,1,0,0,1] (Ac5 jn Q m1) (A6 0 (rE Tryz.f320 Q) A5)
def Afh(m1:Nat):EW:=cE Tryz.f320 AA jn Q [1,1,1,0,0,0,0,1,0,1,1,1,1,1] (Kw jn Q m1) (UB jn Q m1)
def Aff(m1:Nat):EW:=cE Tryz.f320 AA jn Q [1,1,1,0,0,0,0,1,0,1,1,1] (Kw jn Q m1) (UB jn Q m1)
def Afe(m1:Nat):EW:=cE Tryz.f320 AA jn Q [1,1,1,0,0,0,0,1,0,1] (Kw jn Q m1) (UB jn Q m1)
def Ato(m1:Nat)(x0:OA)(key1:BA)(free6 i7:Int):WP:=CG PR AA jn (bE Tryz.f320 [1,1,1,0,0]) (A6 0 (rE Tryz.f320 Q) A5) (rE Tryz.f320 Q) m1 ((.p x0)::(.s key1)::us 4 ((.i free6)::(.i i7)::us 71 []))
def Afi:EW:=cE Tryz.f321 Ed jn Q [1,1] (rE Tryz.f321 Q) A5
def Atp(m1:Nat)(x0:OA)(t28:Sl)(t29 t30:Int):WP:=CG PR Dx jn (bE Tryz.f322 [1,1,1,0,0]) (A6 0 (rE Tryz.f322 Q) A5) (rE Tryz.f322 Q) m1 ((.p x0)::us 27 ((.l t28.a t28.n t28.c)::(.i t29)::(.i t30)::us 21 []))
def Fg:KP:=⟨[(24,[0,1,28]),(27,[0]),(30,[]),(32,[0,1]),(37,[0,7]),(40,[7])],[(12,[0,1,2,3,6,7,8,9,10]),(13,[0,1,2,3,4,5,6]),(17,[0,1,2,3,6,7,8,9,10])]⟩
def HB:EW:=sE Tryz.f323 Fg jn Q [1,1,1,1] (rE Tryz.f323 Q) A5
def Al8:EW:=sE Tryz.f323 Fg jn Q [1,1,1,0,1,1,0,1,1,1,0,1,1] (HB jn Q) (A6 0 (HB jn Q) A5)
def Al9:Nat->EW:=A6 1 (Al8 jn Q) (A6 0 (HB jn Q) A5)
def Ama:EW:=sE Tryz.f323 Fg jn Q [1,1,1,1,1,1,1] (rE Tryz.f323 Q) A5
def S6:EW:=cE Tryz.f323 Fg jn Q [1,1,1,0,1,1,0,1,1,1,0,1,1] (HB jn Q) (A6 0 (HB jn Q) A5)
def Atq:WP:=jn 30 (S6 jn Q) (us 80 [])
def Oj(m2:Nat)(e0:OA):WP:=CG PR Fg jn (bE Tryz.f323 [1,1,1,0,1,1,0,1,1,1,0,1,0,0,0]) (Al9 jn Q) (rE Tryz.f323 Q) m2 ((.p e0)::us 79 [])
def S8:EW:=cE Tryz.f323 Fg jn Q [1,1,1,1,1,1,1] (rE Tryz.f323 Q) A5
def Ats(gone7:Sl):WP:=jn 40 (S8 jn Q) (us 7 ((.l gone7.a gone7.n gone7.c)::us 72 []))
def Ol(m5:Nat)(e0:OA)(gone7:Sl):WP:=CG PR Fg jn (bE Tryz.f323 [1,1,1,1,1,1,0,0,0]) (A6 3 (Ama jn Q) A5) (rE Tryz.f323 Q) m5 ((.p e0)::us 6 ((.l gone7.a gone7.n gone7.c)::us 72 []))
def S7:EW:=cE Tryz.f323 Fg jn Q [1,1,1,1] (rE Tryz.f323 Q) A5
def Atr(e0:OA)(key1:BA):WP:=jn 32 (S7 jn Q) ((.p e0)::(.s key1)::us 78 [])
def S5:EW:=cE Tryz.f323 Fg jn Q [1,1,1,0,1,1,0,1,1,1] (HB jn Q) (A6 0 (HB jn Q) A5)
def UC(e0:OA)(key1:BA)(t28:Bool):WP:=jn 24 (S5 jn Q) ((.p e0)::(.s key1)::us 26 ((.b t28)::us 51 []))
def Ac6:KP:=⟨[(8,[0,1])],[(1,[0,1,2,3,4,6,7,8,10,11,12,13,14,15]),(3,[0,1,2,3,6,7,8,9,10])]⟩
def S9:EW:=cE Tryz.f329 Ac6 jn Q [1,1] (rE Tryz.f329 Q) A5
def Att(e0:OA)(key1:BA):WP:=jn 8 (S9 jn Q) ((.p e0)::(.s key1)::us 42 [])
def Atv:EW:=sE Tryz.f336 Bl jn Q [1,1,1] (rE Tryz.f336 Q) A5
def Afj:EW:=cE Tryz.f336 Bl jn Q [1,1,1] (rE Tryz.f336 Q) A5
def Atw(m1:Nat)(r2b r2o:Nat)(n5:Int)(t8:Sl)(t9 t10:Int):WP:=CG PR Bl jn (bE Tryz.f336 [1,1,0,1,0,0]) (A6 0 (Atv jn Q) A5) (rE Tryz.f336 Q) m1 (us 2 ((pq r2b r2o)::us 2 ((.i n5)::us 2 ((.l t8.a t8.n t8.c)::(.i t9)::(.i t10)::us 13 []))))
def On:KP:=⟨[(16,[0,3,4,35]),(20,[0,3,4])],[(3,[0,1,2,3,6,7,8,9,10,11]),(6,[0,1,2,3,4,6,7,8,9,10,11,14,15,16])]⟩
def Ac7:EW:=sE Tryz.f338 On jn Q [1,1,1,1] (rE Tryz.f338 Q) A5
def SB:EW:=cE Tryz.f338 On jn Q [1,1,1,1] (rE Tryz.f338 Q) A5
def Atx(e0:OA)(key3:BA)(row4:Int):WP:=jn 20 (SB jn Q) ((.p e0)::us 2 ((.s key3)::(.i row4)::us 75 []))
def SA:EW:=cE Tryz.f338 On jn Q [1,1,1,0,0,1,1,1] (Ac7 jn Q) (A6 0 (Ac7 jn Q) A5)
def Om(e0:OA)(key3:BA)(row4:Int)(t35:Bool):WP:=jn 16 (SA jn Q) ((.p e0)::us 2 ((.s key3)::(.i row4)::us 30 ((.b t35)::us 44 [])))
def Oo:KP:=⟨[(7,[0,6,7,8]),(16,[])],[]⟩
def Aty:EW:=sE Tryz.f339 Oo jn Q [1,1] (rE Tryz.f339 Q) A5
def SC:EW:=cE Tryz.f339 Oo jn Q [1,1] (rE Tryz.f339 Q) A5
def Atz:WP:=jn 16 (SC jn Q) (us 22 [])
def UD(m1:Nat)(e0:OA)(t6:Sl)(t7 t8:Int):WP:=CG PR Oo jn (bE Tryz.f339 [1,0,1,0,0]) (A6 0 (Aty jn Q) A5) (rE Tryz.f339 Q) m1 ((.p e0)::us 5 ((.l t6.a t6.n t6.c)::(.i t7)::(.i t8)::us 13 []))
def At1:EW:=sE Tryz.f341 Bl jn Q [1,1,1] (rE Tryz.f341 Q) A5
def Afk:EW:=cE Tryz.f341 Bl jn Q [1,1,1] (rE Tryz.f341 Q) A5
def At2(m1:Nat)(r2b r2o:Nat)(l5 t8:Sl)(t9 t10:Int):WP:=CG PR Bl jn (bE Tryz.f341 [1,1,0,1,0,0]) (A6 0 (At1 jn Q) A5) (rE Tryz.f341 Q) m1 (us 2 ((pq r2b r2o)::us 2 ((.l l5.a l5.n l5.c)::us 2 ((.l t8.a t8.n t8.c)::(.i t9)::(.i t10)::us 13 []))))
def Oq:KP:=⟨[(13,[0,1,5,14]),(22,[5])],[]⟩
def At3:EW:=sE Tryz.f342 Oq jn Q [1,1,1,1] (rE Tryz.f342 Q) A5
def SD:EW:=cE Tryz.f342 Oq jn Q [1,1,1,1] (rE Tryz.f342 Q) A5
def At4(was5:Bool):WP:=jn 22 (SD jn Q) (us 5 ((.b was5)::us 30 []))
def Ot(m1:Nat)(d0:OA)(key1:BA)(was5:Bool)(t14:Int):WP:=CG PR Oq jn (bE Tryz.f342 [1,1,1,0,1,0,0]) (A6 0 (At3 jn Q) A5) (rE Tryz.f342 Q) m1 ((.p d0)::(.s key1)::us 3 ((.b was5)::us 8 ((.i t14)::us 21 [])))
def Ou:KP:=⟨[(11,[0,4,17,18]),(22,[0])],[(11,[0,1,2,3,4,5,6,8,9])]⟩
def At5:EW:=sE Tryz.f344 Ou jn Q [1,1,1,1] (rE Tryz.f344 Q) A5
def SE:EW:=cE Tryz.f344 Ou jn Q [1,1,1,1] (rE Tryz.f344 Q) A5
def At6(s0:OA):WP:=jn 22 (SE jn Q) ((.p s0)::us 51 [])
def Kx(m1:Nat)(s0:OA)(low4 t17_0 t17_1 t17_2 t17_3 t18:Int):WP:=CG PR Ou jn (bE Tryz.f344 [1,1,1,0,1,0,0]) (A6 0 (At5 jn Q) A5) (rE Tryz.f344 Q) m1 ((.p s0)::us 3 ((.i low4)::us 12 ((.agg #[.i t17_0,.i t17_1,.i t17_2,.i t17_3])::(.i t18)::us 33 [])))
def Afl:EW:=cE Tryz.f346 Ec jn Q [1,1] (rE Tryz.f346 Q) A5
end
variable{jn:Jn}{Q:VW}{e0 x0 l0 s0 n1 d0:OA}{key1 key2 v1 key5 key3:BA}{m1 p8b p8o n6b n6o m2 t5b t5o:Nat}{free6 i7 is1 h1 i1 n1_0 n1_1 n1_2 n3 room0 v3 t29 t30 t16 row4:Int}{t35 t61 t50 was5:Bool}{t28 all3 gone8 l5 gone7:Sl}
theorem WE:RS jn Q (us 3 ((.i n3)::us 13 []))=(AX ((64:Int)≠0)<|Hi 138 8 [.int .u64 0] (if (IntKind.wrap .i64 (Int.tdiv (IntKind.wrap .i64 (8*n3)) 64))>1 then (IntKind.wrap .i64 (Int.tdiv (IntKind.wrap .i64 (8*n3)) 64)) else 1) (if (IntKind.wrap .i64 (Int.tdiv (IntKind.wrap .i64 (8*n3)) 64))>1 then (IntKind.wrap .i64 (Int.tdiv (IntKind.wrap .i64 (8*n3)) 64)) else 1) λG2=>A0 [.l G2.a G2.n G2.c] 332 λB3=>Q (pq B3 0)):=by kernel_rfl
theorem Me:NR jn Q (m1+1) room0 n3=(Bp 72 [.i room0,.i 1,.i 1024] λX1=>Aj (decide (n3<X1)) (NR jn Q m1 room0 (IntKind.wrap .i64 (n3*2))) (Ack jn Q n3)):=by kernel_rfl
theorem Akh:Au jn PR Gj Tryz.f189 [.i room0] Q=(D3 λm=>NR jn Q m room0 1):=by kernel_rfl
theorem Aki:Au jn PR Av Tryz.f192 [.p x0,.s key1] Q=(Aj (!Option.isNone x0) (F5 193 [.p x0,.s key1] λX1 X2=>Aj X2 (Ad x0 λB3 O4=>AY B3 (O4+1) λX5=>C7 X5.a X5.n X1 λB6 O7=>Ax B6 ((O7+X1.toNat*3)+2) λX8=>Q (.tuple #[.i X8,.b true])) (Q (.tuple #[.i 0,.b false]))) (Q (.tuple #[.i 0,.b false]))):=by kernel_rfl
theorem WI:RW jn Q m1 ((.p x0)::(.s key1)::us 4 ((.i free6)::(.i i7)::us 71 []))=(Ad x0 λB23 O24=>AY B23 (O24+1) λX25=>AX ((X25.n:Int)≠0)<|NS jn Q m1 x0 key1 free6 (Int.tmod (IntKind.wrap .i64 (i7+1)) (X25.n:Int))):=by kernel_rfl
theorem WJ:RX jn Q m1 ((.p x0)::(.s key1)::us 4 ((.i free6)::(.i i7)::(pq p8b p8o)::us 52 ((.b t61)::us 17 [])))=(Aj t61 (Q (.tuple #[.i i7,.b false])) (Ad (some ⟨p8b,p8o,none⟩) λB29 O30=>Ax B29 O30 λX31=>Aj (X31==0) (Q (.tuple #[.i free6,.b false])) (Uq jn Q m1 x0 key1 free6 i7))):=by kernel_rfl
theorem WH:RU jn Q m1 ((.p x0)::(.s key1)::us 4 ((.i free6)::(.i i7)::(pq p8b p8o)::us 41 ((.b t50)::us 28 [])))=(Aj t50 (Uq jn Q m1 x0 key1 i7 i7) (Ad (some ⟨p8b,p8o,none⟩) λB26 O27=>Ax B26 O27 λX28=>Aj (X28==0) (Ur jn Q m1 x0 key1 free6 i7 p8b p8o (decide (free6<0))) (Ur jn Q m1 x0 key1 free6 i7 p8b p8o false))):=by kernel_rfl
theorem WG:RT jn Q m1 ((.p x0)::(.s key1)::us 4 ((.i free6)::(.i i7)::(pq p8b p8o)::us 26 ((.b t35)::us 43 [])))=(Aj t35 (Q (.tuple #[.i i7,.b true])) (Ad (some ⟨p8b,p8o,none⟩) λB20 O21=>Ax B20 O21 λX22=>Aj (X22==1) (Up jn Q m1 x0 key1 free6 i7 p8b p8o (decide (free6<0))) (Up jn Q m1 x0 key1 free6 i7 p8b p8o false))):=by kernel_rfl
theorem WK:NS jn Q (m1+1) x0 key1 free6 i7=(Ad x0 λB9 O10=>AY B9 (O10+1) λX11=>C7 X11.a X11.n i7 λB12 O13=>Ad (some ⟨B12,(O13+i7.toNat*3),none⟩) λB14 O15=>Ax B14 O15 λX16=>Aj (X16==2) (Ad (some ⟨B12,(O13+i7.toNat*3),none⟩) λB17 O18=>BR B17 (O18+1) λX19=>Uo jn Q m1 x0 key1 free6 i7 B12 (O13+i7.toNat*3) (sEq X19 key1)) (Uo jn Q m1 x0 key1 free6 i7 B12 (O13+i7.toNat*3) false)):=by kernel_rfl
theorem Akj:Au jn PR AA Tryz.f193 [.p x0,.s key1] Q=(A4 λS=>Ad x0 λB1 O2=>Ze S B1 O2 λX3=>Ad x0 λB4 O5=>Fx S B4 (O5+1) λX6=>Zf 117 [.int .u64 X3,.s key1] λX7=>Ao true S<|Bp 116 [.int .u64 X7,.i (X6.n:Int)] λX8=>D3 λm=>NS jn Q m x0 key1 (-1) X8):=by kernel_rfl
theorem Akk:Au jn PR Ase Tryz.f194 [.p l0,.i h1] Q=(A4 λS=>Ad l0 λB1 O2=>Fx S B1 O2 λX3=>C7 X3.a X3.n h1 λB4 O5=>Ep S B4 ((O5+h1.toNat*4)+1) λX6=>Ad l0 λB7 O8=>AY B7 O8 λX9=>Ao true S<|C7 X9.a X9.n h1 λB10 O11=>Ax B10 ((O11+h1.toNat*4)+2) λX12=>Ao true S<|A4 λS=>Ad l0 λB13 O14=>Fx S B13 O14 λX15=>Ad l0 λB16 O17=>AY B16 O17 λX18=>Ao true S<|C7 X15.a X15.n X6 λB19 O20=>st B19 ((O20+X6.toNat*4)+2) (.i X12)<|C7 X18.a X18.n X12 λB21 O22=>st B21 ((O22+X12.toNat*4)+1) (.i X6)<|
 Q (.tuple #[])):=by kernel_rfl
theorem Mf:RY jn Q ((.p x0)::(.i i1)::(.s key2)::(.i v3)::us 36 [])=(Ad x0 λB12 O13=>AY B12 (O13+1) λX14=>C7 X14.a X14.n i1 λB15 O16=>st B15 (O16+i1.toNat*3) (.i 2)<|st B15 ((O16+i1.toNat*3)+1) (.s key2)<|st B15 (((O16+i1.toNat*3)+1)+1) (.i v3)<|Ad x0 λB17 O18=>Ax B17 (O18+2) λX19=>Ad x0 λB20 O21=>st B20 (O21+2) (.i (IntKind.wrap .i64 (X19+1)))<|Q (.tuple #[])):=by kernel_rfl
theorem Akl:Au jn PR Acn Tryz.f195 [.p x0,.i i1,.s key2,.i v3] Q=(Ad x0 λB1 O2=>AY B1 (O2+1) λX3=>C7 X3.a X3.n i1 λB4 O5=>Ax B4 (O5+i1.toNat*3) λX6=>Aj (X6==0) (Ad x0 λB7 O8=>Ax B7 (O8+3) λX9=>Ad x0 λB10 O11=>st B10 (O11+3) (.i (IntKind.wrap .i64 (X9+1)))<|Acm jn Q x0 i1 key2 v3) (Acm jn Q x0 i1 key2 v3)):=by kernel_rfl
theorem Mg:Kr jn Q (m1+1) x0 t28 t29 t30=(Aj (decide (t30<t29)) (C7 t28.a t28.n t30 λB14 O15=>Ax B14 (O15+t30.toNat*3) λX16=>BR B14 ((O15+t30.toNat*3)+1) λX17=>Ax B14 (((O15+t30.toNat*3)+1)+1) λX18=>A0 [.i 0,.s Ae,.i 0] 297 λB19=>st B19 0 (.i X16)<|st B19 1 (.s X17)<|st B19 2 (.i X18)<|Ax B19 0 λX20=>Aj (X20==2) (BR B19 1 λX21=>F5 193 [.p x0,.s X21] λX22 X23=>BR B19 1 λX24=>Ax B19 2 λX25=>
 wz 195 [.p x0,.i X22,.s X24,.i X25]<|Kr jn Q m1 x0 t28 t29 (IntKind.wrap .i64 (t30+1))) (Kr jn Q m1 x0 t28 t29 (IntKind.wrap .i64 (t30+1)))) (Q (.tuple #[]))):=by kernel_rfl
theorem Akm:Au jn PR Dx Tryz.f196 [.p x0] Q=(Ad x0 λB1 O2=>AY B1 (O2+1) λX3=>Ad x0 λB4 O5=>Ax B4 (O5+2) λX6=>Hi 297 32 [.i 0,.s Ae,.i 0] (if (IntKind.wrap .i64 (4*(IntKind.wrap .i64 (X6+1))))>8 then (IntKind.wrap .i64 (4*(IntKind.wrap .i64 (X6+1)))) else 8) (if (IntKind.wrap .i64 (4*(IntKind.wrap .i64 (X6+1))))>8 then (IntKind.wrap .i64 (4*(IntKind.wrap .i64 (X6+1)))) else 8) λG7=>Ad x0 λB8 O9=>st B8 (O9+1) (.l G7.a G7.n G7.c)<|Ad x0 λB10 O11=>st B10 (O11+2) (.i 0)<|Ad x0 λB12 O13=>st B12 (O13+3) (.i 0)<|D3 λm=>Kr jn Q m x0 X3 (X3.n:Int) 0):=by kernel_rfl
theorem Mh{h5:Int}:RZ jn Q ((.p l0)::(.s v1)::us 3 ((.i h5)::us 57 []))=(Ad l0 λB18 O19=>AY B18 O19 λX20=>C7 X20.a X20.n h5 λB21 O22=>st B21 (O22+h5.toNat*4) (.s v1)<|st B21 ((O22+h5.toNat*4)+1) (.i 0)<|st B21 (((O22+h5.toNat*4)+1)+1) (.i 0)<|st B21 ((((O22+h5.toNat*4)+1)+1)+1) (.b true)<|Ad l0 λB23 O24=>Ax B23 (O24+2) λX25=>Ad l0 λB26 O27=>st B26 (O27+2) (.i (IntKind.wrap .i64 (X25+1)))<|Q (.i h5)):=by kernel_rfl
theorem Akn:Au jn PR Acp Tryz.f197 [.p l0,.s v1] Q=(Ad l0 λB1 O2=>AY B1 O2 λX3=>Ad l0 λB4 O5=>AY B4 (O5+1) λX6=>Aj (decide ((X6.n:Int)>0)) (Ad l0 λB7 O8=>AY B7 (O8+1) λX9=>C7 X9.a X9.n (IntKind.wrap .i64 ((X6.n:Int)-1)) λB10 O11=>Ax B10 (O11+((IntKind.wrap .i64 ((X6.n:Int)-(1:Int)))).toNat*1) λX12=>Ad l0 λB13 O14=>AY B13 (O14+1) λX15=>AX ((0:Int)<=(IntKind.wrap .i64 ((X6.n:Int)-(1:Int)))/\(IntKind.wrap .i64 ((X6.n:Int)-(1:Int)))<=(X15.c:Int))<|Ad l0 λB16 O17=>st B16 (O17+1) (.l (Ht X15.a 0 X15.c 1) (((IntKind.wrap .i64 ((X6.n:Int)-(1:Int)))).toNat-0) (X15.c-0))<|
 Aco jn Q l0 v1 X12) (Ad l0 λB28 O29=>AY B28 O29 λX30=>A0 [.s Ae,.i 0,.i 0,.b false] 302 λB31=>Bt 302 4 40 [.s Ae,.i 0,.i 0,.b false] ⟨X30.a,X30.n,X30.c⟩ 1 (λw=>HM w (some ⟨B31,0,none⟩) (1*4)) λG32=>Ad l0 λB33 O34=>st B33 O34 (.l G32.a G32.n G32.c)<|Aco jn Q l0 v1 (X3.n:Int))):=by kernel_rfl
theorem Ako{prev2 next3:Int}:Au jn PR Asf Tryz.f198 [.p l0,.i h1,.i prev2,.i next3] Q=(A4 λS=>Ad l0 λB1 O2=>Fx S B1 O2 λX3=>Ad l0 λB4 O5=>AY B4 O5 λX6=>Ao true S<|C7 X3.a X3.n h1 λB7 O8=>st B7 ((O8+h1.toNat*4)+1) (.i prev2)<|C7 X6.a X6.n h1 λB9 O10=>st B9 ((O10+h1.toNat*4)+2) (.i next3)<|A4 λS=>Ad l0 λB11 O12=>Fx S B11 O12 λX13=>Ad l0 λB14 O15=>AY B14 O15 λX16=>Ao true S<|C7 X13.a X13.n prev2 λB17 O18=>st B17 ((O18+prev2.toNat*4)+2) (.i h1)<|C7 X16.a X16.n next3 λB19 O20=>st B19 ((O20+next3.toNat*4)+1) (.i h1)<|
 Q (.tuple #[])):=by kernel_rfl
theorem Akp:Au jn PR Av Tryz.f199 [.p l0,.i h1] Q=(Aj (!Option.isNone l0) (Aj (decide (h1>0)) (Ad l0 λB1 O2=>AY B1 O2 λX3=>Aj (decide (h1<(X3.n:Int))) (Ad l0 λB4 O5=>AY B4 O5 λX6=>C7 X6.a X6.n h1 λB7 O8=>Ia B7 ((O8+h1.toNat*4)+3) λX9=>Q (.b X9)) (Q (.b false))) (Q (.b false))) (Q (.b false))):=by kernel_rfl
theorem WM:Sa jn Q (us 3 ((.l all3.a all3.n all3.c)::us 20 []))=(Q (.l all3.a all3.n all3.c)):=by kernel_rfl
theorem Mi{h4:Int}:NU jn Q (m1+1) l0 all3 h4=(Aj (h4 != 0) (Ad l0 λB2 O3=>AY B2 O3 λX4=>C7 X4.a X4.n h4 λB5 O6=>BR B5 (O6+h4.toNat*4) λX7=>A0 [.s X7] 9 λB8=>Bt 9 1 16 [.s Ae] ⟨all3.a,all3.n,all3.c⟩ 1 (λw=>HM w (some ⟨B8,0,none⟩) (1*1)) λG9=>Bp 245 [.p l0,.i h4] λX10=>NU jn Q m1 l0 G9 X10) (Asl jn Q all3)):=by kernel_rfl
theorem Akq:Au jn PR NT Tryz.f244 [.p l0] Q=(Bp 165 [.p l0] λX1=>D3 λm=>NU jn Q m l0 ⟨none,0,0⟩ X1):=by kernel_rfl
theorem Akr:Au jn PR Av Tryz.f245 [.p l0,.i h1] Q=(D4 199 [.p l0,.i h1] λX1=>Aj (!X1) (Q (.i 0)) (Ad l0 λB2 O3=>AY B2 O3 λX4=>C7 X4.a X4.n h1 λB5 O6=>Ax B5 ((O6+h1.toNat*4)+2) λX7=>Q (.i X7))):=by kernel_rfl
theorem WN{gone6:Sl}:Sc jn Q ((.p e0)::(.s key1)::us 4 ((.l gone6.a gone6.n gone6.c)::us 93 []))=(Ad e0 λB31 O32=>AY B31 O32 λX33=>Bo B31 (O32+1) λX34=>wz 257 [.agg #[.l X33.a X33.n X33.c,.p X34],.i 1,.s key1]<|Q (.tuple #[.b false,.l gone6.a gone6.n gone6.c])):=by kernel_rfl
theorem Gk{t26:Bool}:Sb jn Q ((.p e0)::(.s key1)::us 14 ((.i t16)::us 9 ((.b t26)::us 73 [])))=(Aj t26 (Ad e0 λB6 O7=>AY B6 O7 λX8=>Bo B6 (O7+1) λX9=>wz 257 [.agg #[.l X8.a X8.n X8.c,.p X9],.i 1,.s key1]<|Q (.tuple #[.b true,.l none 0 0])) (Aj (t16==2) (A4 λS=>Ad e0 λB10 O11=>Ep S B10 (O11+2) λX12=>Ad e0 λB13 O14=>Ep S B13 (O14+3) λX15=>Ad e0 λB16 O17=>Fx S B16 O17 λX18=>EM S B16 (O17+1) λX19=>Ad e0 λB20 O21=>Fx S B20 O21 λX22=>
 EM S B20 (O21+1) λX23=>VM [
 (A0 [.i 3] 3 λB24=>Ao true S<|VM [
 (Bp 258 [.agg #[.l X18.a X18.n X18.c,.p X19],.l (some ⟨B24,0,none⟩) 1 1] λX25=>Ao true S<|A0 [.i 2] 3 λB26=>Ao true S<|Bp 258 [.agg #[.l X22.a X22.n X22.c,.p X23],.l (some ⟨B26,0,none⟩) 1 1] λX27=>Ao true S<|AX (X27≠0)<|Ad e0 λB28 O29=>st B28 (O29+3) (.i (if (IntKind.wrap .i64 (X15+(if (IntKind.wrap .i64 (Int.tdiv X25 X27))>1 then (IntKind.wrap .i64 (Int.tdiv X25 X27)) else 1)))<X12 then (IntKind.wrap .i64 (X15+(if (IntKind.wrap .i64 (Int.tdiv X25 X27))>1 then (IntKind.wrap .i64 (Int.tdiv X25 X27)) else 1))) else X12))<|F9 259 [.p e0,.b false] λX30=>
 Ff jn Q e0 key1 X30),
 (A0 [.i 2] 3 λB35=>Ao true S<|Bp 258 [.agg #[.l X18.a X18.n X18.c,.p X19],.l (some ⟨B24,0,none⟩) 1 1] λX36=>Ao true S<|Bp 258 [.agg #[.l X22.a X22.n X22.c,.p X23],.l (some ⟨B35,0,none⟩) 1 1] λX37=>Ao true S<|AX (X37≠0)<|Ad e0 λB38 O39=>st B38 (O39+3) (.i (if (IntKind.wrap .i64 (X15+(if (IntKind.wrap .i64 (Int.tdiv X36 X37))>1 then (IntKind.wrap .i64 (Int.tdiv X36 X37)) else 1)))<X12 then (IntKind.wrap .i64 (X15+(if (IntKind.wrap .i64 (Int.tdiv X36 X37))>1 then (IntKind.wrap .i64 (Int.tdiv X36 X37)) else 1))) else X12))<|F9 259 [.p e0,.b false] λX40=>
 Ff jn Q e0 key1 X40)]),
 (A0 [.i 2] 3 λB41=>Ao true S<|A0 [.i 3] 3 λB42=>Ao true S<|Bp 258 [.agg #[.l X18.a X18.n X18.c,.p X19],.l (some ⟨B42,0,none⟩) 1 1] λX43=>Ao true S<|Bp 258 [.agg #[.l X22.a X22.n X22.c,.p X23],.l (some ⟨B41,0,none⟩) 1 1] λX44=>Ao true S<|AX (X44≠0)<|Ad e0 λB45 O46=>st B45 (O46+3) (.i (if (IntKind.wrap .i64 (X15+(if (IntKind.wrap .i64 (Int.tdiv X43 X44))>1 then (IntKind.wrap .i64 (Int.tdiv X43 X44)) else 1)))<X12 then (IntKind.wrap .i64 (X15+(if (IntKind.wrap .i64 (Int.tdiv X43 X44))>1 then (IntKind.wrap .i64 (Int.tdiv X43 X44)) else 1))) else X12))<|
 F9 259 [.p e0,.b false] λX47=>Ff jn Q e0 key1 X47)]) (Aj (t16==3) (A4 λS=>Ad e0 λB48 O49=>Ep S B48 (O49+3) λX50=>Ad e0 λB51 O52=>Fx S B51 O52 λX53=>EM S B51 (O52+1) λX54=>Ad e0 λB55 O56=>Fx S B55 O56 λX57=>EM S B55 (O56+1) λX58=>VM [
 (A0 [.i 2] 3 λB59=>Ao true S<|VM [
 (Bp 258 [.agg #[.l X53.a X53.n X53.c,.p X54],.l (some ⟨B59,0,none⟩) 1 1] λX60=>Ao true S<|A0 [.i 3] 3 λB61=>Ao true S<|Bp 258 [.agg #[.l X57.a X57.n X57.c,.p X58],.l (some ⟨B61,0,none⟩) 1 1] λX62=>Ao true S<|AX (X62≠0)<|Ad e0 λB63 O64=>st B63 (O64+3) (.i (if (IntKind.wrap .i64 (X50-(if (IntKind.wrap .i64 (Int.tdiv X60 X62))>1 then (IntKind.wrap .i64 (Int.tdiv X60 X62)) else 1)))>0 then (IntKind.wrap .i64 (X50-(if (IntKind.wrap .i64 (Int.tdiv X60 X62))>1 then (IntKind.wrap .i64 (Int.tdiv X60 X62)) else 1))) else 0))<|F9 259 [.p e0,.b true] λX65=>
 Ff jn Q e0 key1 X65),
 (A0 [.i 3] 3 λB66=>Ao true S<|Bp 258 [.agg #[.l X53.a X53.n X53.c,.p X54],.l (some ⟨B59,0,none⟩) 1 1] λX67=>Ao true S<|Bp 258 [.agg #[.l X57.a X57.n X57.c,.p X58],.l (some ⟨B66,0,none⟩) 1 1] λX68=>Ao true S<|AX (X68≠0)<|Ad e0 λB69 O70=>st B69 (O70+3) (.i (if (IntKind.wrap .i64 (X50-(if (IntKind.wrap .i64 (Int.tdiv X67 X68))>1 then (IntKind.wrap .i64 (Int.tdiv X67 X68)) else 1)))>0 then (IntKind.wrap .i64 (X50-(if (IntKind.wrap .i64 (Int.tdiv X67 X68))>1 then (IntKind.wrap .i64 (Int.tdiv X67 X68)) else 1))) else 0))<|F9 259 [.p e0,.b true] λX71=>
 Ff jn Q e0 key1 X71)]),
 (A0 [.i 3] 3 λB72=>Ao true S<|A0 [.i 2] 3 λB73=>Ao true S<|Bp 258 [.agg #[.l X53.a X53.n X53.c,.p X54],.l (some ⟨B73,0,none⟩) 1 1] λX74=>Ao true S<|Bp 258 [.agg #[.l X57.a X57.n X57.c,.p X58],.l (some ⟨B72,0,none⟩) 1 1] λX75=>Ao true S<|AX (X75≠0)<|Ad e0 λB76 O77=>st B76 (O77+3) (.i (if (IntKind.wrap .i64 (X50-(if (IntKind.wrap .i64 (Int.tdiv X74 X75))>1 then (IntKind.wrap .i64 (Int.tdiv X74 X75)) else 1)))>0 then (IntKind.wrap .i64 (X50-(if (IntKind.wrap .i64 (Int.tdiv X74 X75))>1 then (IntKind.wrap .i64 (Int.tdiv X74 X75)) else 1))) else 0))<|
 F9 259 [.p e0,.b true] λX78=>Ff jn Q e0 key1 X78)]) (F9 260 [.p e0] λX79=>Ad e0 λB80 O81=>AY B80 O81 λX82=>Bo B80 (O81+1) λX83=>wz 257 [.agg #[.l X82.a X82.n X82.c,.p X83],.i 0,.s key1]<|Q (.tuple #[.b false,.l X79.a X79.n X79.c]))))):=by kernel_rfl
theorem Aks:Au jn PR NV Tryz.f246 [.p e0,.s key1] Q=(Aj (Option.isNone e0) (Q (.tuple #[.b false,.l none 0 0])) (Ad e0 λB1 O2=>AY B1 O2 λX3=>Bo B1 (O2+1) λX4=>Bp 256 [.agg #[.l X3.a X3.n X3.c,.p X4],.s key1] λX5=>Aj (X5==0) (Us jn Q e0 key1 X5 (X5==0)) (Us jn Q e0 key1 X5 (X5==1)))):=by kernel_rfl
theorem Akt:Au jn PR Av Tryz.f247 [.p e0] Q=(Bp 251 [.p e0] λX1=>Aj (X1==0) (Q (.tuple #[.s Ae,.b false])) (Ad e0 λB2 O3=>AY B2 O3 λX4=>Bo B2 (O3+1) λX5=>A0 [.i 0] 3 λB6=>Bp 258 [.agg #[.l X4.a X4.n X4.c,.p X5],.l (some ⟨B6,0,none⟩) 1 1] λX7=>Aj (decide (X7>0)) (Ad e0 λB8 O9=>Ax B8 (O9+3) λX10=>Aj (decide (X7>X10)) (F9 261 [.p e0,.b true] λX11=>C7 X11.a X11.n 0 λB12 O13=>BR B12 (O13+((0:Int)).toNat*1) λX14=>
 Q (.tuple #[.s X14,.b true])) (Ad e0 λB15 O16=>AY B15 O16 λX17=>Bo B15 (O16+1) λX18=>A0 [.i 1] 3 λB19=>Bp 258 [.agg #[.l X17.a X17.n X17.c,.p X18],.l (some ⟨B19,0,none⟩) 1 1] λX20=>F9 261 [.p e0,.b (X20==0)] λX21=>C7 X21.a X21.n 0 λB22 O23=>BR B22 (O23+((0:Int)).toNat*1) λX24=>Q (.tuple #[.s X24,.b true]))) (F9 261 [.p e0,.b false] λX25=>C7 X25.a X25.n 0 λB26 O27=>BR B26 (O27+((0:Int)).toNat*1) λX28=>Q (.tuple #[.s X28,.b true])))):=by kernel_rfl
theorem Aku:Au jn PR Av Tryz.f249 [.p e0,.s key1] Q=(Aj (Option.isNone e0) (Q (.b false)) (Ad e0 λB1 O2=>AY B1 O2 λX3=>Bo B1 (O2+1) λX4=>Bp 256 [.agg #[.l X3.a X3.n X3.c,.p X4],.s key1] λX5=>Aj (X5==0) (Q (.b true)) (Q (.b (X5==1))))):=by kernel_rfl
theorem Akv:Au jn PR Av Tryz.f250 [.p e0] Q=(Aj (Option.isNone e0) (Q (.l none 0 0)) (Ad e0 λB1 O2=>AY B1 O2 λX3=>Bo B1 (O2+1) λX4=>A0 [.i 0,.i 1] 3 λB5=>F9 262 [.agg #[.l X3.a X3.n X3.c,.p X4],.l (some ⟨B5,0,none⟩) 2 2] λX6=>Q (.l X6.a X6.n X6.c))):=by kernel_rfl
theorem Akw:Au jn PR Av Tryz.f251 [.p e0] Q=(Aj (Option.isNone e0) (Q (.i 0)) (Ad e0 λB1 O2=>AY B1 O2 λX3=>Bo B1 (O2+1) λX4=>A0 [.i 0,.i 1] 3 λB5=>Bp 258 [.agg #[.l X3.a X3.n X3.c,.p X4],.l (some ⟨B5,0,none⟩) 2 2] λX6=>Q (.i X6))):=by kernel_rfl
theorem WS:Sf jn Q (us 70 [])=(Q (.b true)):=by kernel_rfl
theorem Mk{m4:Nat}:NX jn Q (m4+1) e0=(A4 λS=>Ad e0 λB28 O29=>Fx S B28 O29 λX30=>EM S B28 (O29+1) λX31=>Ad e0 λB32 O33=>Ep S B32 (O33+2) λX34=>A0 [.i 0,.i 1,.i 2,.i 3] 3 λB35=>Ao true S<|Bp 258 [.agg #[.l X30.a X30.n X30.c,.p X31],.l (some ⟨B35,0,none⟩) 4 4] λX36=>Ao true S<|Aj (decide (X36>(IntKind.wrap .i64 (2*X34)))) (A4 λS=>Ad e0 λB37 O38=>Fx S B37 O38 λX39=>EM S B37 (O38+1) λX40=>Ad e0 λB41 O42=>AY B41 O42 λX43=>Bo B41 (O42+1) λX44=>
 Ao true S<|TH 264 [.agg #[.l X43.a X43.n X43.c,.p X44],.i 3] λX45=>Ao true S<|wz 263 [.agg #[.l X39.a X39.n X39.c,.p X40],.s X45]<|NX jn Q m4 e0) (Asp jn Q)):=by kernel_rfl
theorem WR:Se jn Q ((.p e0)::us 69 [])=(D3 λm=>NX jn Q m e0):=by kernel_rfl
theorem Mj:NW jn Q (m2+1) e0=(A4 λS=>Ad e0 λB10 O11=>Fx S B10 O11 λX12=>EM S B10 (O11+1) λX13=>Ad e0 λB14 O15=>Ep S B14 (O15+2) λX16=>A0 [.i 0,.i 2] 3 λB17=>Ao true S<|Bp 258 [.agg #[.l X12.a X12.n X12.c,.p X13],.l (some ⟨B17,0,none⟩) 2 2] λX18=>Ao true S<|Aj (decide (X18>X16)) (A4 λS=>Ad e0 λB19 O20=>Fx S B19 O20 λX21=>EM S B19 (O20+1) λX22=>Ad e0 λB23 O24=>AY B23 O24 λX25=>Bo B23 (O24+1) λX26=>Ao true S<|TH 264 [.agg #[.l X25.a X25.n X25.c,.p X26],.i 2] λX27=>
 Ao true S<|wz 263 [.agg #[.l X21.a X21.n X21.c,.p X22],.s X27]<|NW jn Q m2 e0) (Aso jn Q e0)):=by kernel_rfl
theorem WO:Sd jn Q ((.p e0)::(.s key1)::us 68 [])=(Ad e0 λB6 O7=>AY B6 O7 λX8=>Bo B6 (O7+1) λX9=>wz 257 [.agg #[.l X8.a X8.n X8.c,.p X9],.i 0,.s key1]<|D3 λm=>NW jn Q m e0):=by kernel_rfl
theorem Aky:Au jn PR Gl Tryz.f252 [.p e0,.s key1] Q=(A4 λS=>Aj (Option.isNone e0) (Ao true S<|Ao true S<|Q (.b false)) (D4 249 [.p e0,.s key1] λX1=>Ao true S<|Aj X1 (Ao true S<|Q (.b false)) (Ad e0 λB2 O3=>Ep S B2 (O3+2) λX4=>Bp 251 [.p e0] λX5=>Ao true S<|Aj (X5==X4) (Q (.b false)) (Asn jn Q e0 key1)))):=by kernel_rfl
theorem Akz:Au jn PR Av Tryz.f253 [.p e0,.s key1] Q=(D4 249 [.p e0,.s key1] λX1=>Aj (!X1) (Q (.b false)) (Ad e0 λB2 O3=>AY B2 O3 λX4=>Bo B2 (O3+1) λX5=>wz 263 [.agg #[.l X4.a X4.n X4.c,.p X5],.s key1]<|Q (.b true))):=by kernel_rfl
theorem Ak0:Au jn PR Av Tryz.f254 [.p e0] Q=(Aj (Option.isNone e0) (Q (.i 0)) (Ad e0 λB1 O2=>Ax B1 (O2+2) λX3=>Q (.i X3))):=by kernel_rfl
theorem Ak1{again1:Bool}:Au jn PR Ass Tryz.f259 [.p e0,.b again1] Q=(A4 λS=>Ad e0 λB1 O2=>Fx S B1 O2 λX3=>EM S B1 (O2+1) λX4=>Ad e0 λB5 O6=>Ep S B5 (O6+2) λX7=>A0 [.i 0,.i 1] 3 λB8=>Ao true S<|Bp 258 [.agg #[.l X3.a X3.n X3.c,.p X4],.l (some ⟨B8,0,none⟩) 2 2] λX9=>Ao true S<|Aj (decide (X9<X7)) (Q (.l none 0 0)) (Ad e0 λB10 O11=>AY B10 O11 λX12=>Bo B10 (O11+1) λX13=>A0 [.i 0] 3 λB14=>Bp 258 [.agg #[.l X12.a X12.n X12.c,.p X13],.l (some ⟨B14,0,none⟩) 1 1] λX15=>
 Aj (decide (X15>0)) (Ad e0 λB16 O17=>Ax B16 (O17+3) λX18=>Aj (decide (X15>X18)) (F9 261 [.p e0,.b true] λX19=>Q (.l X19.a X19.n X19.c)) (Ad e0 λB20 O21=>Ax B20 (O21+3) λX22=>Aj (X15==X22) (Aj again1 (F9 261 [.p e0,.b true] λX23=>Q (.l X23.a X23.n X23.c)) (Ad e0 λB24 O25=>AY B24 O25 λX26=>Bo B24 (O25+1) λX27=>A0 [.i 1] 3 λB28=>Bp 258 [.agg #[.l X26.a X26.n X26.c,.p X27],.l (some ⟨B28,0,none⟩) 1 1] λX29=>F9 261 [.p e0,.b (X29==0)] λX30=>
 Q (.l X30.a X30.n X30.c))) (Ad e0 λB31 O32=>AY B31 O32 λX33=>Bo B31 (O32+1) λX34=>A0 [.i 1] 3 λB35=>Bp 258 [.agg #[.l X33.a X33.n X33.c,.p X34],.l (some ⟨B35,0,none⟩) 1 1] λX36=>F9 261 [.p e0,.b (X36==0)] λX37=>Q (.l X37.a X37.n X37.c)))) (F9 261 [.p e0,.b false] λX38=>Q (.l X38.a X38.n X38.c)))):=by kernel_rfl
theorem WT{t4:Bool}:Sg jn Q ((.p e0)::us 3 ((.b t4)::us 96 []))=(Aj t4 (A4 λS=>Ad e0 λB19 O20=>Fx S B19 O20 λX21=>EM S B19 (O20+1) λX22=>Ad e0 λB23 O24=>AY B23 O24 λX25=>Bo B23 (O24+1) λX26=>Ao true S<|TH 264 [.agg #[.l X25.a X25.n X25.c,.p X26],.i 2] λX27=>Ao true S<|wz 263 [.agg #[.l X21.a X21.n X21.c,.p X22],.s X27]<|F9 259 [.p e0,.b false] λX28=>Q (.l X28.a X28.n X28.c)) (A4 λS=>Ad e0 λB29 O30=>Fx S B29 O30 λX31=>EM S B29 (O30+1) λX32=>
 Ad e0 λB33 O34=>Ep S B33 (O34+2) λX35=>A0 [.i 0,.i 2] 3 λB36=>Ao true S<|Bp 258 [.agg #[.l X31.a X31.n X31.c,.p X32],.l (some ⟨B36,0,none⟩) 2 2] λX37=>Ao true S<|Aj (decide (X37>=X35)) (Ad e0 λB38 O39=>AY B38 O39 λX40=>Bo B38 (O39+1) λX41=>TH 264 [.agg #[.l X40.a X40.n X40.c,.p X41],.i 0] λX42=>Ad e0 λB43 O44=>AY B43 O44 λX45=>Bo B43 (O44+1) λX46=>wz 263 [.agg #[.l X45.a X45.n X45.c,.p X46],.s X42]<|A0 [.s X42] 9 λB47=>Q (.l (some ⟨B47,0,none⟩) 1 1)) (
 A4 λS=>Ad e0 λB48 O49=>Fx S B48 O49 λX50=>EM S B48 (O49+1) λX51=>Ad e0 λB52 O53=>Ep S B52 (O53+2) λX54=>A0 [.i 0,.i 1,.i 2,.i 3] 3 λB55=>Ao true S<|Bp 258 [.agg #[.l X50.a X50.n X50.c,.p X51],.l (some ⟨B55,0,none⟩) 4 4] λX56=>Ao true S<|Aj (decide (X56<X54)) (Q (.l none 0 0)) (A4 λS=>Ad e0 λB57 O58=>Fx S B57 O58 λX59=>EM S B57 (O58+1) λX60=>Ad e0 λB61 O62=>Ep S B61 (O62+2) λX63=>A0 [.i 0,.i 1,.i 2,.i 3] 3 λB64=>Ao true S<|Bp 258 [.agg #[.l X59.a X59.n X59.c,.p X60],.l (some ⟨B64,0,none⟩) 4 4] λX65=>
 Ao true S<|Aj (decide (X65>=(IntKind.wrap .i64 (2*X63)))) (A4 λS=>Ad e0 λB66 O67=>Fx S B66 O67 λX68=>EM S B66 (O67+1) λX69=>Ad e0 λB70 O71=>AY B70 O71 λX72=>Bo B70 (O71+1) λX73=>Ao true S<|TH 264 [.agg #[.l X72.a X72.n X72.c,.p X73],.i 3] λX74=>Ao true S<|wz 263 [.agg #[.l X68.a X68.n X68.c,.p X69],.s X74]<|F9 259 [.p e0,.b false] λX75=>Q (.l X75.a X75.n X75.c)) (F9 259 [.p e0,.b false] λX76=>Q (.l X76.a X76.n X76.c)))))):=by kernel_rfl
theorem Ak2:Au jn PR Uu Tryz.f260 [.p e0] Q=(A4 λS=>Ad e0 λB1 O2=>Fx S B1 O2 λX3=>EM S B1 (O2+1) λX4=>Ad e0 λB5 O6=>Ep S B5 (O6+2) λX7=>A0 [.i 0,.i 2] 3 λB8=>Ao true S<|Bp 258 [.agg #[.l X3.a X3.n X3.c,.p X4],.l (some ⟨B8,0,none⟩) 2 2] λX9=>Ao true S<|Aj (decide (X9>=X7)) (Ad e0 λB10 O11=>Fx S B10 O11 λX12=>EM S B10 (O11+1) λX13=>Ad e0 λB14 O15=>Ep S B14 (O15+2) λX16=>A0 [.i 0] 3 λB17=>Ao true S<|Bp 258 [.agg #[.l X12.a X12.n X12.c,.p X13],.l (some ⟨B17,0,none⟩) 1 1] λX18=>
 Ao true S<|Ut jn Q e0 (decide (X18<X16))) (Ao true S<|Ao true S<|Ut jn Q e0 false)):=by kernel_rfl
theorem WU{from5 to6:Int}:Si jn Q ((.p e0)::us 4 ((.i from5)::(.i to6)::us 17 []))=(Ad e0 λB1 O2=>AY B1 O2 λX3=>Bo B1 (O2+1) λX4=>TH 264 [.agg #[.l X3.a X3.n X3.c,.p X4],.i from5] λX5=>Ad e0 λB6 O7=>AY B6 O7 λX8=>Bo B6 (O7+1) λX9=>wz 257 [.agg #[.l X8.a X8.n X8.c,.p X9],.i to6,.s X5]<|A0 [.s X5] 9 λB10=>Q (.l (some ⟨B10,0,none⟩) 1 1)):=by kernel_rfl
theorem Ak3{recent1:Bool}:Au jn PR Acs Tryz.f261 [.p e0,.b recent1] Q=(Aj recent1 (Uv jn Q e0 0 2) (Uv jn Q e0 1 3)):=by kernel_rfl
theorem WY{t88:Bool}:Sn jn Q ((.p e0)::(.s key1)::us 4 ((pq n6b n6o)::us 1 ((.l gone8.a gone8.n gone8.c)::us 79 ((.b t88)::us 13 []))))=(Aj t88 (Ax n6b n6o λX38=>Ax n6b (n6o+1) λX39=>Ax n6b ((n6o+1)+1) λX40=>wz 283 [.p e0,.agg #[.i X38,.i X39,.i X40],.s key1]<|wz 286 [.p e0]<|wz 284 [.p e0]<|Q (.tuple #[.b false,.l gone8.a gone8.n gone8.c])) (Ax n6b n6o λX41=>Ax n6b (n6o+1) λX42=>Ax n6b ((n6o+1)+1) λX43=>
 wz 285 [.p e0,.agg #[.i X41,.i X42,.i X43],.s key1]<|wz 286 [.p e0]<|wz 284 [.p e0]<|Q (.tuple #[.b false,.l gone8.a gone8.n gone8.c]))):=by kernel_rfl
theorem WX:Sm jn Q ((.p e0)::(.s key1)::us 4 ((pq n6b n6o)::us 1 ((.l gone8.a gone8.n gone8.c)::us 93 [])))=(A4 λS=>Ad e0 λB32 O33=>Ep S B32 (O33+5) λX34=>Ad e0 λB35 O36=>Ax B35 (O36+1) λX37=>Ao true S<|Aj (decide (X34<X37)) (Uy jn Q e0 key1 n6b n6o gone8 true) (Ax n6b n6o λX44=>Uy jn Q e0 key1 n6b n6o gone8 (X44==3))):=by kernel_rfl
theorem WW:Sk jn Q ((.p e0)::(.s key1)::us 4 ((pq n6b n6o)::us 95 []))=(A4 λS=>Ad e0 λB17 O18=>Ep S B17 O18 λX19=>Bp 276 [.p e0] λX20=>Ao true S<|Aj (decide (X20>=X19)) (EF 272 [.p e0] λX21 X22=>A0 [.s X21] 9 λB23=>Bt 9 1 16 [.s Ae] ⟨none,0,0⟩ 1 (λw=>HM w (some ⟨B23,0,none⟩) (1*1)) λG24=>Ad e0 λB25 O26=>Bo B25 (O26+4) λX27=>λw=>Calls PR 282 #[.p X27,.s key1] w λe w'=>∃X28:Int,∃X29:Int,∃X30:Int,∃X31:Bool,e = .returned (.tuple #[.agg #[.i X28,.i X29,.i X30],.b X31])/\(
 st n6b n6o (.i X28)<|st n6b (n6o+1) (.i X29)<|st n6b ((n6o+1)+1) (.i X30)<|Ux jn Q e0 key1 n6b n6o G24) w') (Ux jn Q e0 key1 n6b n6o ⟨none,0,0⟩)):=by kernel_rfl
theorem WV{t22:Bool}:Sj jn Q ((.p e0)::(.s key1)::us 4 ((pq n6b n6o)::us 15 ((.b t22)::us 79 [])))=(Aj t22 (Ax n6b n6o λX10=>Ax n6b (n6o+1) λX11=>Ax n6b ((n6o+1)+1) λX12=>wz 283 [.p e0,.agg #[.i X10,.i X11,.i X12],.s key1]<|wz 284 [.p e0]<|Q (.tuple #[.b true,.l none 0 0])) (Ax n6b n6o λX13=>Aj (X13==2) (Ax n6b n6o λX14=>Ax n6b (n6o+1) λX15=>Ax n6b ((n6o+1)+1) λX16=>wz 285 [.p e0,.agg #[.i X14,.i X15,.i X16],.s key1]<|
 wz 284 [.p e0]<|Q (.tuple #[.b true,.l none 0 0])) (Asy jn Q e0 key1 n6b n6o))):=by kernel_rfl
theorem Ak5:Au jn PR H9 Tryz.f271 [.p e0,.s key1] Q=(Aj (Option.isNone e0) (Q (.tuple #[.b false,.l none 0 0])) (Ad e0 λB1 O2=>Bo B1 (O2+4) λX3=>λw=>Calls PR 282 #[.p X3,.s key1] w λe w'=>∃X4:Int,∃X5:Int,∃X6:Int,∃X7:Bool,e = .returned (.tuple #[.agg #[.i X4,.i X5,.i X6],.b X7])/\(A0 [.i 0,.i 0,.i 0] 270 λB8=>st B8 0 (.i X4)<|st B8 1 (.i X5)<|st B8 2 (.i X6)<|Ax B8 0 λX9=>Aj (X9==1) (Ob jn Q e0 key1 B8 0 (X9==1)) (Ax B8 0 λX45=>Aj (X45==2) (Ax B8 1 λX46=>
 Ob jn Q e0 key1 B8 0 (X46 != 0)) (Ob jn Q e0 key1 B8 0 false))) w')):=by kernel_rfl
theorem Ml{key4:BA}:Sp jn Q ((.p e0)::us 3 ((.s key4)::us 1 ((pq n6b n6o)::us 50 [])))=(Ax n6b n6o λX24=>Ax n6b (n6o+1) λX25=>Ax n6b ((n6o+1)+1) λX26=>wz 288 [.p e0,.s key4,.agg #[.i X24,.i X25,.i X26]]<|wz 286 [.p e0]<|wz 284 [.p e0]<|Q (.tuple #[.s key4,.b true])):=by kernel_rfl
theorem WZ:So jn Q ((.p e0)::us 56 [])=(A4 λS=>Ad e0 λB6 O7=>EM S B6 (O7+3) λX8=>Ad e0 λB9 O10=>Bo B9 (O10+3) λX11=>Ao true S<|Bp 165 [.p X11] λX12=>Ao true S<|EF 164 [.p X8,.i X12] λX13 X14=>Ad e0 λB15 O16=>Bo B15 (O16+4) λX17=>λw=>Calls PR 282 #[.p X17,.s X13] w λe w'=>∃X18:Int,∃X19:Int,∃X20:Int,∃X21:Bool,e = .returned (.tuple #[.agg #[.i X18,.i X19,.i X20],.b X21])/\(A0 [.i 0,.i 0,.i 0] 270 λB22=>st B22 0 (.i X18)<|
 st B22 1 (.i X19)<|st B22 2 (.i X20)<|wz 287 [.p e0,pq B22 0]<|st B22 0 (.i 3)<|Ax B22 1 λX23=>Aj (X23==0) (st B22 0 (.i 0)<|Acw jn Q e0 X13 B22 0) (Acw jn Q e0 X13 B22 0)) w'):=by kernel_rfl
theorem Ak6:Au jn PR U0 Tryz.f272 [.p e0] Q=(Bp 276 [.p e0] λX1=>Aj (X1==0) (Q (.tuple #[.s Ae,.b false])) (Ad e0 λB2 O3=>Bo B2 (O3+3) λX4=>Bp 163 [.p X4] λX5=>Aj (X5==0) (wz 281 [.p e0]<|Uz jn Q e0) (Uz jn Q e0))):=by kernel_rfl
theorem Ak7:Au jn PR Av Tryz.f274 [.p e0,.s key1] Q=(Aj (Option.isNone e0) (Q (.b false)) (Ad e0 λB1 O2=>Bo B1 (O2+4) λX3=>λw=>Calls PR 282 #[.p X3,.s key1] w λe w'=>∃X4:Int,∃X5:Int,∃X6:Int,∃X7:Bool,e = .returned (.tuple #[.agg #[.i X4,.i X5,.i X6],.b X7])/\(A0 [.i 0,.i 0,.i 0] 270 λB8=>st B8 0 (.i X4)<|st B8 1 (.i X5)<|st B8 2 (.i X6)<|Ax B8 0 λX9=>Aj (X9==1) (Q (.b true)) (Ax B8 0 λX10=>Q (.b (X10==2)))) w')):=by kernel_rfl
theorem Ak8:Au jn PR Av Tryz.f275 [.p e0] Q=(Aj (Option.isNone e0) (Q (.l none 0 0)) (Ad e0 λB1 O2=>Bo B1 (O2+3) λX3=>F9 244 [.p X3] λX4=>F9 289 [.p e0,.i 1] λX5=>Bt 9 1 16 [.s Ae] ⟨X4.a,X4.n,X4.c⟩ X5.n (λw=>HM w X5.a (X5.n*1)) λG6=>Q (.l G6.a G6.n G6.c))):=by kernel_rfl
theorem Ak9:Au jn PR Asz Tryz.f276 [.p e0] Q=(Aj (Option.isNone e0) (Q (.i 0)) (A4 λS=>Ad e0 λB1 O2=>EM S B1 (O2+3) λX3=>Ad e0 λB4 O5=>Ep S B4 (O5+5) λX6=>Bp 163 [.p X3] λX7=>Ao true S<|Q (.i (IntKind.wrap .i64 (X7+X6))))):=by kernel_rfl
theorem Xa:Sq jn Q ((.p e0)::(.s key1)::us 49 [])=(Ad e0 λB6 O7=>Bo B6 (O7+4) λX8=>λw=>Calls PR 282 #[.p X8,.s key1] w λe w'=>∃X9:Int,∃X10:Int,∃X11:Int,∃X12:Bool,e = .returned (.tuple #[.agg #[.i X9,.i X10,.i X11],.b X12])/\(A0 [.i 0,.i 0,.i 0] 270 λB13=>st B13 0 (.i X9)<|st B13 1 (.i X10)<|st B13 2 (.i X11)<|A4 λS=>Ad e0 λB14 O15=>Ep S B14 (O15+5) λX16=>Ad e0 λB17 O18=>Ax B17 (O18+1) λX19=>Ao true S<|Aj (decide (X16<X19)) (Ax B13 0 λX20=>
 Ax B13 1 λX21=>Ax B13 2 λX22=>wz 283 [.p e0,.agg #[.i X20,.i X21,.i X22],.s key1]<|wz 284 [.p e0]<|Q (.b true)) (Ax B13 0 λX23=>Ax B13 1 λX24=>Ax B13 2 λX25=>wz 285 [.p e0,.agg #[.i X23,.i X24,.i X25],.s key1]<|wz 284 [.p e0]<|Q (.b true))) w'):=by kernel_rfl
theorem Ala:Au jn PR Acx Tryz.f277 [.p e0,.s key1] Q=(A4 λS=>Aj (Option.isNone e0) (Ao true S<|Ao true S<|Q (.b false)) (D4 274 [.p e0,.s key1] λX1=>Ao true S<|Aj X1 (Ao true S<|Q (.b false)) (Ad e0 λB2 O3=>Ep S B2 O3 λX4=>Bp 276 [.p e0] λX5=>Ao true S<|Aj (X5==X4) (Q (.b false)) (As0 jn Q e0 key1)))):=by kernel_rfl
theorem Alb:Au jn PR As1 Tryz.f278 [.p e0,.s key1] Q=(D4 274 [.p e0,.s key1] λX1=>Aj (!X1) (Q (.b false)) (Ad e0 λB2 O3=>Bo B2 (O3+4) λX4=>λw=>Calls PR 282 #[.p X4,.s key1] w λe w'=>∃X5:Int,∃X6:Int,∃X7:Int,∃X8:Bool,e = .returned (.tuple #[.agg #[.i X5,.i X6,.i X7],.b X8])/\(A0 [.i 0,.i 0,.i 0] 270 λB9=>st B9 0 (.i X5)<|st B9 1 (.i X6)<|st B9 2 (.i X7)<|A4 λS=>Ad e0 λB10 O11=>EM S B10 (O11+2) λX12=>Ax B9 1 λX13=>Ao true S<|
 EF 160 [.p X12,.i X13] λX14 X15=>wz 287 [.p e0,pq B9 0]<|wz 288 [.p e0,.s key1,.agg #[.i 0,.i 0,.i 0]]<|wz 284 [.p e0]<|Q (.b true)) w')):=by kernel_rfl
theorem Alc:Au jn PR Av Tryz.f279 [.p e0] Q=(Aj (Option.isNone e0) (Q (.i 0)) (Ad e0 λB1 O2=>Ax B1 O2 λX3=>Q (.i X3))):=by kernel_rfl
theorem Ale:Au jn PR Acy Tryz.f281 [.p e0] Q=(λw=>Calls PR 290 #[.p e0,.i 1] w λe w'=>∃X1:BA,∃X2:Int,∃X3:Int,∃X4:Int,e = .returned (.tuple #[.s X1,.agg #[.i X2,.i X3,.i X4]])/\(A0 [.i 0,.i 0,.i 0] 270 λB5=>st B5 0 (.i X2)<|st B5 1 (.i X3)<|st B5 2 (.i X4)<|A4 λS=>Ad e0 λB6 O7=>EM S B6 (O7+2) λX8=>Ax B5 1 λX9=>Ao true S<|EF 160 [.p X8,.i X9] λX10 X11=>st B5 0 (.i 2)<|st B5 1 (.i 0)<|wz 291 [.p e0,pq B5 0,.s X1]<|
 Ax B5 0 λX12=>Ax B5 1 λX13=>Ax B5 2 λX14=>wz 288 [.p e0,.s X1,.agg #[.i X12,.i X13,.i X14]]<|wz 284 [.p e0]<|Q (.tuple #[])) w'):=by kernel_rfl
theorem Xd{t4b t4o:Nat}:Sr jn Q (us 4 ((pq t4b t4o)::us 22 []))=(A0 [.i 0,.i 0,.i 0] 270 λB15=>Ax B15 0 λX16=>Ax B15 1 λX17=>Ax B15 2 λX18=>st t4b t4o (.i X16)<|st t4b (t4o+1) (.i X17)<|st t4b ((t4o+1)+1) (.i X18)<|Ax t4b t4o λX19=>Ax t4b (t4o+1) λX20=>Ax t4b ((t4o+1)+1) λX21=>Q (.tuple #[.agg #[.i X19,.i X20,.i X21],.b false])):=by kernel_rfl
theorem Alf:Au jn PR Ec Tryz.f282 [.p x0,.s key1] Q=(A0 [.i 0,.i 0,.i 0] 270 λB1=>Aj (!Option.isNone x0) (F5 292 [.p x0,.s key1] λX2 X3=>Aj X3 (Ad x0 λB4 O5=>AY B4 (O5+1) λX6=>C7 X6.a X6.n X2 λB7 O8=>Ax B7 ((O8+X2.toNat*5)+2) λX9=>Ax B7 (((O8+X2.toNat*5)+2)+1) λX10=>Ax B7 ((((O8+X2.toNat*5)+2)+1)+1) λX11=>st B1 0 (.i X9)<|st B1 1 (.i X10)<|st B1 2 (.i X11)<|Ax B1 0 λX12=>Ax B1 1 λX13=>Ax B1 2 λX14=>
 Q (.tuple #[.agg #[.i X12,.i X13,.i X14],.b true])) (Acz jn Q B1 0)) (Acz jn Q B1 0)):=by kernel_rfl
theorem Alg:Au jn PR As3 Tryz.f283 [.p e0,.agg #[.i n1_0,.i n1_1,.i n1_2],.s key2] Q=(A0 [.i n1_0,.i n1_1,.i n1_2] 270 λB1=>st B1 0 (.i 1)<|wz 293 [.p e0,pq B1 0,.s key2]<|wz 287 [.p e0,pq B1 0]<|Ax B1 0 λX2=>Ax B1 1 λX3=>Ax B1 2 λX4=>wz 288 [.p e0,.s key2,.agg #[.i X2,.i X3,.i X4]]<|A4 λS=>Ad e0 λB5 O6=>Ep S B5 (O6+5) λX7=>Ad e0 λB8 O9=>
 Ax B8 (O9+1) λX10=>Ao true S<|Aj (decide (X7>X10)) (wz 281 [.p e0]<|Q (.tuple #[])) (Q (.tuple #[]))):=by kernel_rfl
theorem Mm:Oc jn Q (m1+1) e0=(Ad e0 λB1 O2=>Bo B1 (O2+2) λX3=>Bp 163 [.p X3] λX4=>Aj (decide (X4>0)) (A4 λS=>Ad e0 λB5 O6=>EM S B5 (O6+2) λX7=>Ad e0 λB8 O9=>Bo B8 (O9+2) λX10=>Ao true S<|Bp 165 [.p X10] λX11=>Ao true S<|EF 164 [.p X7,.i X11] λX12 X13=>Ad e0 λB14 O15=>Bo B14 (O15+4) λX16=>λw=>Calls PR 282 #[.p X16,.s X12] w λe w'=>∃X17:Int,∃X18:Int,∃X19:Int,∃X20:Bool,e = .returned (.tuple #[.agg #[.i X17,.i X18,.i X19],.b X20])/\(
 A0 [.i 0,.i 0,.i 0] 270 λB21=>st B21 0 (.i X17)<|st B21 1 (.i X18)<|st B21 2 (.i X19)<|Ax B21 0 λX22=>Aj (X22==1) (Q (.tuple #[])) (Ax B21 0 λX23=>Ax B21 1 λX24=>Ax B21 2 λX25=>wz 294 [.p e0,.agg #[.i X23,.i X24,.i X25],.s X12]<|Oc jn Q m1 e0)) w') (Q (.tuple #[]))):=by kernel_rfl
theorem Alh:Au jn PR Ac0 Tryz.f284 [.p e0] Q=(D3 λm=>Oc jn Q m e0):=by kernel_rfl
theorem Ali:Au jn PR Av Tryz.f285 [.p e0,.agg #[.i n1_0,.i n1_1,.i n1_2],.s key2] Q=(A0 [.i n1_0,.i n1_1,.i n1_2] 270 λB1=>st B1 0 (.i 2)<|wz 293 [.p e0,pq B1 0,.s key2]<|wz 291 [.p e0,pq B1 0,.s key2]<|Ax B1 0 λX2=>Ax B1 1 λX3=>Ax B1 2 λX4=>wz 288 [.p e0,.s key2,.agg #[.i X2,.i X3,.i X4]]<|Q (.tuple #[])):=by kernel_rfl
theorem Mn:Od jn Q (m1+1) e0=(A4 λS=>Ad e0 λB1 O2=>Ep S B1 (O2+6) λX3=>Ad e0 λB4 O5=>Ax B4 O5 λX6=>Ao true S<|Aj (decide (X3>X6)) (λw=>Calls PR 290 #[.p e0,.i 3] w λe w'=>∃X7:BA,∃X8:Int,∃X9:Int,∃X10:Int,e = .returned (.tuple #[.s X7,.agg #[.i X8,.i X9,.i X10]])/\(A0 [.i 0,.i 0,.i 0] 270 λB11=>st B11 0 (.i X8)<|st B11 1 (.i X9)<|st B11 2 (.i X10)<|Ax B11 0 λX12=>Ax B11 1 λX13=>Ax B11 2 λX14=>wz 294 [.p e0,.agg #[.i X12,.i X13,.i X14],.s X7]<|
 Od jn Q m1 e0) w') (Q (.tuple #[]))):=by kernel_rfl
theorem Alj:Au jn PR Ac1 Tryz.f286 [.p e0] Q=(D3 λm=>Od jn Q m e0):=by kernel_rfl
theorem Alk:Au jn PR U2 Tryz.f287 [.p e0,.p n1] Q=(A4 λS=>Ad e0 λB1 O2=>EM S B1 (O2+3) λX3=>Ad n1 λB4 O5=>Ax B4 (O5+2) λX6=>Ao true S<|EF 160 [.p X3,.i X6] λX7 X8=>Ad n1 λB9 O10=>st B9 (O10+2) (.i 0)<|Q (.tuple #[])):=by kernel_rfl
theorem All{n2_0 n2_1 n2_2:Int}:Au jn PR As4 Tryz.f288 [.p e0,.s key1,.agg #[.i n2_0,.i n2_1,.i n2_2]] Q=(A0 [.i n2_0,.i n2_1,.i n2_2] 270 λB1=>Ad e0 λB2 O3=>Bo B2 (O3+4) λX4=>λw=>Calls PR 282 #[.p X4,.s key1] w λe w'=>∃X5:Int,∃X6:Int,∃X7:Int,∃X8:Bool,e = .returned (.tuple #[.agg #[.i X5,.i X6,.i X7],.b X8])/\(A0 [.i 0,.i 0,.i 0] 270 λB9=>st B9 0 (.i X5)<|st B9 1 (.i X6)<|st B9 2 (.i X7)<|Ax B9 0 λX10=>wz 295 [.p e0,.i X10,.i (-1)]<|
 Ax B1 0 λX11=>wz 295 [.p e0,.i X11,.i 1]<|Ax B1 0 λX12=>Aj (X12==0) (Ad e0 λB13 O14=>Bo B13 (O14+4) λX15=>λw=>Calls PR 296 #[.p X15,.s key1] w λe w'=>∃X16:Int,∃X17:Int,∃X18:Int,∃X19:Bool,e = .returned (.tuple #[.agg #[.i X16,.i X17,.i X18],.b X19])/\(Q (.tuple #[])) w') (A4 λS=>Ad e0 λB20 O21=>EM S B20 (O21+4) λX22=>Ax B1 0 λX23=>Ax B1 1 λX24=>Ax B1 2 λX25=>Ao true S<|D4 297 [.p X22,.s key1,.agg #[.i X23,.i X24,.i X25]] λX26=>
 Q (.tuple #[]))) w'):=by kernel_rfl
theorem Xe:Ss jn Q (us 5 ((.l l5.a l5.n l5.c)::us 33 []))=(Q (.l l5.a l5.n l5.c)):=by kernel_rfl
theorem Mo{t14:Sl}{t15:Int}:Kt jn Q (m1+1) e0 is1 l5 t14 t15 t16=(Aj (decide (t16<t15)) (C7 t14.a t14.n t16 λB5 O6=>BR B5 (O6+t16.toNat*1) λX7=>Ad e0 λB8 O9=>Bo B8 (O9+4) λX10=>λw=>Calls PR 282 #[.p X10,.s X7] w λe w'=>∃X11:Int,∃X12:Int,∃X13:Int,∃X14:Bool,e = .returned (.tuple #[.agg #[.i X11,.i X12,.i X13],.b X14])/\(A0 [.i 0,.i 0,.i 0] 270 λB15=>st B15 0 (.i X11)<|st B15 1 (.i X12)<|st B15 2 (.i X13)<|Ax B15 0 λX16=>Aj (X16==is1) (A0 [.s X7] 9 λB17=>
 Bt 9 1 16 [.s Ae] ⟨l5.a,l5.n,l5.c⟩ 1 (λw=>HM w (some ⟨B17,0,none⟩) (1*1)) λG18=>Kt jn Q m1 e0 is1 G18 t14 t15 (IntKind.wrap .i64 (t16+1))) (Kt jn Q m1 e0 is1 l5 t14 t15 (IntKind.wrap .i64 (t16+1)))) w') (As6 jn Q l5)):=by kernel_rfl
theorem Alm:Au jn PR Oe Tryz.f289 [.p e0,.i is1] Q=(Ad e0 λB1 O2=>Bo B1 (O2+2) λX3=>F9 244 [.p X3] λX4=>D3 λm=>Kt jn Q m e0 is1 ⟨none,0,0⟩ X4 (X4.n:Int) 0):=by kernel_rfl
theorem Xf:St jn Q (us 5 ((pq t5b t5o)::us 43 []))=(st t5b t5o (.i 0)<|st t5b (t5o+1) (.i 0)<|st t5b ((t5o+1)+1) (.i 0)<|Ax t5b t5o λX30=>Ax t5b (t5o+1) λX31=>Ax t5b ((t5o+1)+1) λX32=>Q (.tuple #[.s Ae,.agg #[.i X30,.i X31,.i X32]])):=by kernel_rfl
theorem Mp{h6:Int}:Og jn Q (m1+1) e0 is1 t5b t5o h6=(Aj (h6 != 0) (Ad e0 λB6 O7=>Bo B6 (O7+2) λX8=>EF 164 [.p X8,.i h6] λX9 X10=>Ad e0 λB11 O12=>Bo B11 (O12+4) λX13=>λw=>Calls PR 282 #[.p X13,.s X9] w λe w'=>∃X14:Int,∃X15:Int,∃X16:Int,∃X17:Bool,e = .returned (.tuple #[.agg #[.i X14,.i X15,.i X16],.b X17])/\(A0 [.i 0,.i 0,.i 0] 270 λB18=>st B18 0 (.i X14)<|st B18 1 (.i X15)<|st B18 2 (.i X16)<|Ax B18 0 λX19=>
 Aj (X19==is1) (A4 λS=>Ax B18 0 λX20=>Ax B18 1 λX21=>Ax B18 2 λX22=>st t5b t5o (.i X20)<|st t5b (t5o+1) (.i X21)<|st t5b ((t5o+1)+1) (.i X22)<|Ax t5b t5o λX23=>Ax t5b (t5o+1) λX24=>Ax t5b ((t5o+1)+1) λX25=>Q (.tuple #[.s X9,.agg #[.i X23,.i X24,.i X25]])) (Ad e0 λB26 O27=>Bo B26 (O27+2) λX28=>Bp 245 [.p X28,.i h6] λX29=>Og jn Q m1 e0 is1 t5b t5o X29)) w') (As9 jn Q t5b t5o)):=by kernel_rfl
theorem Aln:Au jn PR Of Tryz.f290 [.p e0,.i is1] Q=(A0 [.i 0,.i 0,.i 0] 270 λB1=>Ad e0 λB2 O3=>Bo B2 (O3+2) λX4=>Bp 165 [.p X4] λX5=>D3 λm=>Og jn Q m e0 is1 B1 0 X5):=by kernel_rfl
theorem Alo:Au jn PR U2 Tryz.f291 [.p e0,.p n1,.s key2] Q=(A4 λS=>Ad e0 λB1 O2=>EM S B1 (O2+3) λX3=>Ad n1 λB4 O5=>Ax B4 (O5+2) λX6=>Ao true S<|EF 160 [.p X3,.i X6] λX7 X8=>Ad e0 λB9 O10=>Bo B9 (O10+3) λX11=>Bp 162 [.p X11,.s key2] λX12=>Ad n1 λB13 O14=>st B13 (O14+2) (.i X12)<|Q (.tuple #[])):=by kernel_rfl
theorem Xi:Sw jn Q m1 ((.p x0)::(.s key1)::us 4 ((.i free6)::(.i i7)::us 71 []))=(Ad x0 λB23 O24=>AY B23 (O24+1) λX25=>AX ((X25.n:Int)≠0)<|Oh jn Q m1 x0 key1 free6 (Int.tmod (IntKind.wrap .i64 (i7+1)) (X25.n:Int))):=by kernel_rfl
theorem Xj:Sx jn Q m1 ((.p x0)::(.s key1)::us 4 ((.i free6)::(.i i7)::(pq p8b p8o)::us 52 ((.b t61)::us 17 [])))=(Aj t61 (Q (.tuple #[.i i7,.b false])) (Ad (some ⟨p8b,p8o,none⟩) λB29 O30=>Ax B29 O30 λX31=>Aj (X31==0) (Q (.tuple #[.i free6,.b false])) (U7 jn Q m1 x0 key1 free6 i7))):=by kernel_rfl
theorem Xh:Sv jn Q m1 ((.p x0)::(.s key1)::us 4 ((.i free6)::(.i i7)::(pq p8b p8o)::us 41 ((.b t50)::us 28 [])))=(Aj t50 (U7 jn Q m1 x0 key1 i7 i7) (Ad (some ⟨p8b,p8o,none⟩) λB26 O27=>Ax B26 O27 λX28=>Aj (X28==0) (U8 jn Q m1 x0 key1 free6 i7 p8b p8o (decide (free6<0))) (U8 jn Q m1 x0 key1 free6 i7 p8b p8o false))):=by kernel_rfl
theorem Xg:Su jn Q m1 ((.p x0)::(.s key1)::us 4 ((.i free6)::(.i i7)::(pq p8b p8o)::us 26 ((.b t35)::us 43 [])))=(Aj t35 (Q (.tuple #[.i i7,.b true])) (Ad (some ⟨p8b,p8o,none⟩) λB20 O21=>Ax B20 O21 λX22=>Aj (X22==1) (U6 jn Q m1 x0 key1 free6 i7 p8b p8o (decide (free6<0))) (U6 jn Q m1 x0 key1 free6 i7 p8b p8o false))):=by kernel_rfl
theorem Xk:Oh jn Q (m1+1) x0 key1 free6 i7=(Ad x0 λB9 O10=>AY B9 (O10+1) λX11=>C7 X11.a X11.n i7 λB12 O13=>Ad (some ⟨B12,(O13+i7.toNat*5),none⟩) λB14 O15=>Ax B14 O15 λX16=>Aj (X16==2) (Ad (some ⟨B12,(O13+i7.toNat*5),none⟩) λB17 O18=>BR B17 (O18+1) λX19=>U4 jn Q m1 x0 key1 free6 i7 B12 (O13+i7.toNat*5) (sEq X19 key1)) (U4 jn Q m1 x0 key1 free6 i7 B12 (O13+i7.toNat*5) false)):=by kernel_rfl
theorem Alp:Au jn PR AA Tryz.f292 [.p x0,.s key1] Q=(A4 λS=>Ad x0 λB1 O2=>Ze S B1 O2 λX3=>Ad x0 λB4 O5=>Fx S B4 (O5+1) λX6=>Zf 117 [.int .u64 X3,.s key1] λX7=>Ao true S<|Bp 116 [.int .u64 X7,.i (X6.n:Int)] λX8=>D3 λm=>Oh jn Q m x0 key1 (-1) X8):=by kernel_rfl
theorem Alq:Au jn PR U2 Tryz.f293 [.p e0,.p n1,.s key2] Q=(A4 λS=>Ad e0 λB1 O2=>EM S B1 (O2+2) λX3=>Ad n1 λB4 O5=>Ax B4 (O5+1) λX6=>Ao true S<|EF 160 [.p X3,.i X6] λX7 X8=>Ad e0 λB9 O10=>Bo B9 (O10+2) λX11=>Bp 162 [.p X11,.s key2] λX12=>Ad n1 λB13 O14=>st B13 (O14+1) (.i X12)<|Q (.tuple #[])):=by kernel_rfl
theorem Alr:Au jn PR Acy Tryz.f294 [.p e0,.agg #[.i n1_0,.i n1_1,.i n1_2],.s key2] Q=(A0 [.i n1_0,.i n1_1,.i n1_2] 270 λB1=>A4 λS=>Ad e0 λB2 O3=>EM S B2 (O3+2) λX4=>Ax B1 1 λX5=>Ao true S<|EF 160 [.p X4,.i X5] λX6 X7=>st B1 1 (.i 0)<|Ax B1 0 λX8=>Aj (X8==3) (st B1 0 (.i 0)<|Ax B1 0 λX9=>Ax B1 1 λX10=>Ax B1 2 λX11=>wz 288 [.p e0,.s key2,.agg #[.i X9,.i X10,.i X11]]<|
 Q (.tuple #[])) (Ax B1 0 λX12=>Ax B1 1 λX13=>Ax B1 2 λX14=>wz 288 [.p e0,.s key2,.agg #[.i X12,.i X13,.i X14]]<|Q (.tuple #[]))):=by kernel_rfl
theorem Als{by2:Int}:Au jn PR Av Tryz.f295 [.p e0,.i is1,.i by2] Q=(Aj (is1==1) (Ad e0 λB1 O2=>Ax B1 (O2+5) λX3=>Ad e0 λB4 O5=>st B4 (O5+5) (.i (IntKind.wrap .i64 (X3+by2)))<|Q (.tuple #[])) (Aj (is1==3) (Ad e0 λB6 O7=>Ax B6 (O7+6) λX8=>Ad e0 λB9 O10=>st B9 (O10+6) (.i (IntKind.wrap .i64 (X8+by2)))<|Q (.tuple #[])) (Q (.tuple #[])))):=by kernel_rfl
theorem Alu:Au jn PR Av Tryz.f296 [.p x0,.s key1] Q=(A0 [.i 0,.i 0,.i 0] 270 λB1=>λw=>Calls PR 282 #[.p x0,.s key1] w λe w'=>∃X2:Int,∃X3:Int,∃X4:Int,∃X5:Bool,e = .returned (.tuple #[.agg #[.i X2,.i X3,.i X4],.b X5])/\(A0 [.i 0,.i 0,.i 0] 270 λB6=>st B6 0 (.i X2)<|st B6 1 (.i X3)<|st B6 2 (.i X4)<|Aj X5 (F5 292 [.p x0,.s key1] λX7 X8=>Ad x0 λB9 O10=>AY B9 (O10+1) λX11=>C7 X11.a X11.n X7 λB12 O13=>st B12 (O13+X7.toNat*5) (.i 1)<|
 st B12 ((O13+X7.toNat*5)+1) (.s Ae)<|st B12 (((O13+X7.toNat*5)+1)+1) (.i 0)<|st B12 ((((O13+X7.toNat*5)+1)+1)+1) (.i 0)<|st B12 (((((O13+X7.toNat*5)+1)+1)+1)+1) (.i 0)<|Ad x0 λB14 O15=>Ax B14 (O15+2) λX16=>Ad x0 λB17 O18=>st B17 (O18+2) (.i (IntKind.wrap .i64 (X16-1)))<|Ax B6 0 λX19=>Ax B6 1 λX20=>Ax B6 2 λX21=>st B1 0 (.i X19)<|st B1 1 (.i X20)<|st B1 2 (.i X21)<|Ax B1 0 λX22=>Ax B1 1 λX23=>Ax B1 2 λX24=>Q (.tuple #[.agg #[.i X22,.i X23,.i X24],.b X5])) (
 Ax B6 0 λX25=>Ax B6 1 λX26=>Ax B6 2 λX27=>st B1 0 (.i X25)<|st B1 1 (.i X26)<|st B1 2 (.i X27)<|Ax B1 0 λX28=>Ax B1 1 λX29=>Ax B1 2 λX30=>Q (.tuple #[.agg #[.i X28,.i X29,.i X30],.b X5]))) w'):=by kernel_rfl
theorem Alv{v2_0 v2_1 v2_2:Int}:Au jn PR IQ Tryz.f297 [.p x0,.s key1,.agg #[.i v2_0,.i v2_1,.i v2_2]] Q=(A0 [.i v2_0,.i v2_1,.i v2_2] 270 λB1=>Aj (Option.isNone x0) (Q (.b false)) (F5 292 [.p x0,.s key1] λX2 X3=>Aj X3 (A4 λS=>Ad x0 λB4 O5=>Fx S B4 (O5+1) λX6=>Ax B1 0 λX7=>Ax B1 1 λX8=>Ax B1 2 λX9=>Ao true S<|C7 X6.a X6.n X2 λB10 O11=>st B10 ((O11+X2.toNat*5)+2) (.i X7)<|st B10 (((O11+X2.toNat*5)+2)+1) (.i X8)<|
 st B10 ((((O11+X2.toNat*5)+2)+1)+1) (.i X9)<|Q (.b false)) (Ax B1 0 λX12=>Ax B1 1 λX13=>Ax B1 2 λX14=>wz 298 [.p x0,.i X2,.s key1,.agg #[.i X12,.i X13,.i X14]]<|A4 λS=>Ad x0 λB15 O16=>Ep S B15 (O16+3) λX17=>Ad x0 λB18 O19=>AY B18 (O19+1) λX20=>Ao true S<|Aj (decide ((IntKind.wrap .i64 (2*X17))>(X20.n:Int))) (wz 299 [.p x0]<|Q (.b true)) (Q (.b true))))):=by kernel_rfl
theorem Mq{v7b v7o:Nat}:Sy jn Q ((.p x0)::(.i i1)::(.s key2)::us 4 ((pq v7b v7o)::us 32 []))=(A4 λS=>Ad x0 λB13 O14=>Fx S B13 (O14+1) λX15=>Ax v7b v7o λX16=>Ax v7b (v7o+1) λX17=>Ax v7b ((v7o+1)+1) λX18=>Ao true S<|C7 X15.a X15.n i1 λB19 O20=>st B19 (O20+i1.toNat*5) (.i 2)<|st B19 ((O20+i1.toNat*5)+1) (.s key2)<|st B19 (((O20+i1.toNat*5)+1)+1) (.i X16)<|st B19 ((((O20+i1.toNat*5)+1)+1)+1) (.i X17)<|st B19 (((((O20+i1.toNat*5)+1)+1)+1)+1) (.i X18)<|Ad x0 λB21 O22=>
 Ax B21 (O22+2) λX23=>Ad x0 λB24 O25=>st B24 (O25+2) (.i (IntKind.wrap .i64 (X23+1)))<|Q (.tuple #[])):=by kernel_rfl
theorem Alw{v3_0 v3_1 v3_2:Int}:Au jn PR Ed Tryz.f298 [.p x0,.i i1,.s key2,.agg #[.i v3_0,.i v3_1,.i v3_2]] Q=(A0 [.i v3_0,.i v3_1,.i v3_2] 270 λB1=>Ad x0 λB2 O3=>AY B2 (O3+1) λX4=>C7 X4.a X4.n i1 λB5 O6=>Ax B5 (O6+i1.toNat*5) λX7=>Aj (X7==0) (Ad x0 λB8 O9=>Ax B8 (O9+3) λX10=>Ad x0 λB11 O12=>st B11 (O12+3) (.i (IntKind.wrap .i64 (X10+1)))<|Ac3 jn Q x0 i1 key2 B1 0) (Ac3 jn Q x0 i1 key2 B1 0)):=by kernel_rfl
theorem Mr:Kv jn Q (m1+1) x0 t28 t29 t30=(Aj (decide (t30<t29)) (C7 t28.a t28.n t30 λB14 O15=>Ax B14 (O15+t30.toNat*5) λX16=>BR B14 ((O15+t30.toNat*5)+1) λX17=>Ax B14 (((O15+t30.toNat*5)+1)+1) λX18=>Ax B14 ((((O15+t30.toNat*5)+1)+1)+1) λX19=>Ax B14 (((((O15+t30.toNat*5)+1)+1)+1)+1) λX20=>A0 [.i 0,.s Ae,.i 0,.i 0,.i 0] 387 λB21=>st B21 0 (.i X16)<|st B21 1 (.s X17)<|st B21 2 (.i X18)<|st B21 3 (.i X19)<|st B21 4 (.i X20)<|Ax B21 0 λX22=>
 Aj (X22==2) (BR B21 1 λX23=>F5 292 [.p x0,.s X23] λX24 X25=>BR B21 1 λX26=>Ax B21 2 λX27=>Ax B21 3 λX28=>Ax B21 4 λX29=>wz 298 [.p x0,.i X24,.s X26,.agg #[.i X27,.i X28,.i X29]]<|Kv jn Q m1 x0 t28 t29 (IntKind.wrap .i64 (t30+1))) (Kv jn Q m1 x0 t28 t29 (IntKind.wrap .i64 (t30+1)))) (Q (.tuple #[]))):=by kernel_rfl
theorem Alx:Au jn PR Dx Tryz.f299 [.p x0] Q=(Ad x0 λB1 O2=>AY B1 (O2+1) λX3=>Ad x0 λB4 O5=>Ax B4 (O5+2) λX6=>Hi 387 48 [.i 0,.s Ae,.i 0,.i 0,.i 0] (if (IntKind.wrap .i64 (4*(IntKind.wrap .i64 (X6+1))))>8 then (IntKind.wrap .i64 (4*(IntKind.wrap .i64 (X6+1)))) else 8) (if (IntKind.wrap .i64 (4*(IntKind.wrap .i64 (X6+1))))>8 then (IntKind.wrap .i64 (4*(IntKind.wrap .i64 (X6+1)))) else 8) λG7=>Ad x0 λB8 O9=>st B8 (O9+1) (.l G7.a G7.n G7.c)<|Ad x0 λB10 O11=>st B10 (O11+2) (.i 0)<|Ad x0 λB12 O13=>st B12 (O13+3) (.i 0)<|
 D3 λm=>Kv jn Q m x0 X3 (X3.n:Int) 0):=by kernel_rfl
theorem Aly:Au jn PR Av Tryz.f300 [.p e0,.s key1] Q=(Aj (Option.isNone e0) (Q (.tuple #[.b false,.l none 0 0])) (Ad e0 λB1 O2=>AY B1 O2 λX3=>Bo B1 (O2+1) λX4=>Bp 310 [.agg #[.l X3.a X3.n X3.c,.p X4],.s key1] λX5=>Aj (X5==2) (Ad e0 λB6 O7=>AY B6 O7 λX8=>Bo B6 (O7+1) λX9=>wz 311 [.agg #[.l X8.a X8.n X8.c,.p X9],.i 2,.s key1]<|Q (.tuple #[.b true,.l none 0 0])) (Aj (X5==0) (Q (.tuple #[.b true,.l none 0 0])) (Aj (X5==1) (Ad e0 λB10 O11=>AY B10 O11 λX12=>
 Bo B10 (O11+1) λX13=>wz 312 [.agg #[.l X12.a X12.n X12.c,.p X13],.s key1]<|F9 313 [.p e0] λX14=>Ad e0 λB15 O16=>AY B15 O16 λX17=>Bo B15 (O16+1) λX18=>wz 311 [.agg #[.l X17.a X17.n X17.c,.p X18],.i 2,.s key1]<|Q (.tuple #[.b false,.l X14.a X14.n X14.c])) (F9 313 [.p e0] λX19=>Ad e0 λB20 O21=>AY B20 O21 λX22=>Bo B20 (O21+1) λX23=>wz 311 [.agg #[.l X22.a X22.n X22.c,.p X23],.i 0,.s key1]<|Q (.tuple #[.b false,.l X19.a X19.n X19.c])))))):=by kernel_rfl
theorem Ms:S3 jn Q (us 5 ((.s key5)::us 68 []))=(Q (.tuple #[.s key5,.b true])):=by kernel_rfl
theorem Mt{m3:Nat}:Oi jn Q (m3+1) e0 key5=(A4 λS=>Ad e0 λB35 O36=>Fx S B35 O36 λX37=>EM S B35 (O36+1) λX38=>Ad e0 λB39 O40=>Ep S B39 (O40+4) λX41=>A0 [.i 1] 3 λB42=>Ao true S<|Bp 314 [.agg #[.l X37.a X37.n X37.c,.p X38],.l (some ⟨B42,0,none⟩) 1 1] λX43=>Ao true S<|Aj (decide (X43>X41)) (A4 λS=>Ad e0 λB44 O45=>Fx S B44 O45 λX46=>EM S B44 (O45+1) λX47=>Ad e0 λB48 O49=>AY B48 O49 λX50=>Bo B48 (O49+1) λX51=>Ao true S<|TH 315 [.agg #[.l X50.a X50.n X50.c,.p X51],.i 1] λX52=>
 Ao true S<|wz 312 [.agg #[.l X46.a X46.n X46.c,.p X47],.s X52]<|Oi jn Q m3 e0 key5) (Ate jn Q key5)):=by kernel_rfl
theorem Xm:S1 jn Q ((.p e0)::us 73 [])=(Ad e0 λB26 O27=>AY B26 O27 λX28=>Bo B26 (O27+1) λX29=>TH 315 [.agg #[.l X28.a X28.n X28.c,.p X29],.i 0] λX30=>Ad e0 λB31 O32=>AY B31 O32 λX33=>Bo B31 (O32+1) λX34=>wz 311 [.agg #[.l X33.a X33.n X33.c,.p X34],.i 1,.s X30]<|D3 λm=>Oi jn Q m e0 X30):=by kernel_rfl
theorem Xl{t28:Bool}:Sz jn Q ((.p e0)::us 27 ((.b t28)::us 45 []))=(Aj t28 (Ad e0 λB17 O18=>AY B17 O18 λX19=>Bo B17 (O18+1) λX20=>TH 315 [.agg #[.l X19.a X19.n X19.c,.p X20],.i 2] λX21=>Ad e0 λB22 O23=>AY B22 O23 λX24=>Bo B22 (O23+1) λX25=>wz 312 [.agg #[.l X24.a X24.n X24.c,.p X25],.s X21]<|Q (.tuple #[.s X21,.b true])) (Atd jn Q e0)):=by kernel_rfl
theorem Al0:Au jn PR HA Tryz.f301 [.p e0] Q=(Bp 305 [.p e0] λX1=>Aj (X1==0) (Q (.tuple #[.s Ae,.b false])) (A4 λS=>Ad e0 λB2 O3=>Fx S B2 O3 λX4=>EM S B2 (O3+1) λX5=>Ad e0 λB6 O7=>Ep S B6 (O7+3) λX8=>A0 [.i 0] 3 λB9=>Ao true S<|Bp 314 [.agg #[.l X4.a X4.n X4.c,.p X5],.l (some ⟨B9,0,none⟩) 1 1] λX10=>Ao true S<|Aj (decide (X10<=X8)) (Ad e0 λB11 O12=>Fx S B11 O12 λX13=>EM S B11 (O12+1) λX14=>A0 [.i 2] 3 λB15=>
 Ao true S<|Bp 314 [.agg #[.l X13.a X13.n X13.c,.p X14],.l (some ⟨B15,0,none⟩) 1 1] λX16=>U9 jn Q e0 (decide (X16>0))) (Ao true S<|U9 jn Q e0 false))):=by kernel_rfl
theorem Al1:Au jn PR Av Tryz.f303 [.p e0,.s key1] Q=(Aj (Option.isNone e0) (Q (.b false)) (Ad e0 λB1 O2=>AY B1 O2 λX3=>Bo B1 (O2+1) λX4=>Bp 310 [.agg #[.l X3.a X3.n X3.c,.p X4],.s key1] λX5=>Aj (X5==0) (Q (.b true)) (Q (.b (X5==2))))):=by kernel_rfl
theorem Al2:Au jn PR Av Tryz.f304 [.p e0] Q=(Aj (Option.isNone e0) (Q (.l none 0 0)) (Ad e0 λB1 O2=>AY B1 O2 λX3=>Bo B1 (O2+1) λX4=>A0 [.i 0,.i 2] 3 λB5=>F9 316 [.agg #[.l X3.a X3.n X3.c,.p X4],.l (some ⟨B5,0,none⟩) 2 2] λX6=>Q (.l X6.a X6.n X6.c))):=by kernel_rfl
theorem Al3:Au jn PR Av Tryz.f305 [.p e0] Q=(Aj (Option.isNone e0) (Q (.i 0)) (Ad e0 λB1 O2=>AY B1 O2 λX3=>Bo B1 (O2+1) λX4=>A0 [.i 0,.i 2] 3 λB5=>Bp 314 [.agg #[.l X3.a X3.n X3.c,.p X4],.l (some ⟨B5,0,none⟩) 2 2] λX6=>Q (.i X6))):=by kernel_rfl
theorem Xn:S4 jn Q ((.p e0)::(.s key1)::us 25 [])=(Ad e0 λB6 O7=>AY B6 O7 λX8=>Bo B6 (O7+1) λX9=>wz 311 [.agg #[.l X8.a X8.n X8.c,.p X9],.i 2,.s key1]<|Q (.b true)):=by kernel_rfl
theorem Al4:Au jn PR Ac4 Tryz.f306 [.p e0,.s key1] Q=(A4 λS=>Aj (Option.isNone e0) (Ao true S<|Ao true S<|Q (.b false)) (D4 303 [.p e0,.s key1] λX1=>Ao true S<|Aj X1 (Ao true S<|Q (.b false)) (Ad e0 λB2 O3=>Ep S B2 (O3+2) λX4=>Bp 305 [.p e0] λX5=>Ao true S<|Aj (X5==X4) (Q (.b false)) (Atf jn Q e0 key1)))):=by kernel_rfl
theorem Al5:Au jn PR Av Tryz.f307 [.p e0,.s key1] Q=(D4 303 [.p e0,.s key1] λX1=>Aj (!X1) (Q (.b false)) (Ad e0 λB2 O3=>AY B2 O3 λX4=>Bo B2 (O3+1) λX5=>wz 312 [.agg #[.l X4.a X4.n X4.c,.p X5],.s key1]<|Q (.b true))):=by kernel_rfl
theorem Al6:Au jn PR Av Tryz.f308 [.p e0] Q=(Aj (Option.isNone e0) (Q (.i 0)) (Ad e0 λB1 O2=>Ax B1 (O2+2) λX3=>Q (.i X3))):=by kernel_rfl
theorem Al7:Au jn PR Ath Tryz.f313 [.p e0] Q=(A4 λS=>Ad e0 λB1 O2=>Ep S B1 (O2+2) λX3=>Bp 305 [.p e0] λX4=>Ao true S<|Aj (decide (X4<X3)) (Q (.l none 0 0)) (EF 301 [.p e0] λX5 X6=>A0 [.s X5] 9 λB7=>Q (.l (some ⟨B7,0,none⟩) 1 1))):=by kernel_rfl
theorem Mv:S6 jn Q (us 80 [])=(Q (.tuple #[.b true,.l none 0 0])):=by kernel_rfl
theorem Mw:Oj jn Q (m2+1) e0=(A4 λS=>Ad e0 λB14 O15=>Fx S B14 O15 λX16=>EM S B14 (O15+1) λX17=>Ad e0 λB18 O19=>Ep S B18 (O19+5) λX20=>A0 [.i 2] 3 λB21=>Ao true S<|Bp 336 [.agg #[.l X16.a X16.n X16.c,.p X17],.l (some ⟨B21,0,none⟩) 1 1] λX22=>Ao true S<|Aj (decide (X22>X20)) (A4 λS=>Ad e0 λB23 O24=>Fx S B23 O24 λX25=>EM S B23 (O24+1) λX26=>Ad e0 λB27 O28=>AY B27 O28 λX29=>Bo B27 (O28+1) λX30=>Ao true S<|TH 337 [.agg #[.l X29.a X29.n X29.c,.p X30],.i 2] λX31=>
 Ao true S<|wz 335 [.agg #[.l X25.a X25.n X25.c,.p X26],.i 1,.s X31]<|Oj jn Q m2 e0) (Atq jn Q)):=by kernel_rfl
theorem Xs:S8 jn Q (us 7 ((.l gone7.a gone7.n gone7.c)::us 72 []))=(Q (.tuple #[.b false,.l gone7.a gone7.n gone7.c])):=by kernel_rfl
theorem Mx{m5:Nat}:Ol jn Q (m5+1) e0 gone7=(A4 λS=>Ad e0 λB36 O37=>Fx S B36 O37 λX38=>EM S B36 (O37+1) λX39=>Ad e0 λB40 O41=>Ep S B40 (O41+3) λX42=>A0 [.i 0] 3 λB43=>Ao true S<|Bp 336 [.agg #[.l X38.a X38.n X38.c,.p X39],.l (some ⟨B43,0,none⟩) 1 1] λX44=>Ao true S<|Aj (decide (X44>X42)) (F9 338 [.p e0] λX45=>Bt 9 1 16 [.s Ae] ⟨gone7.a,gone7.n,gone7.c⟩ X45.n (λw=>HM w X45.a (X45.n*1)) λG46=>Ol jn Q m5 e0 G46) (Ats jn Q gone7)):=by kernel_rfl
theorem Xr:S7 jn Q ((.p e0)::(.s key1)::us 78 [])=(Ad e0 λB32 O33=>AY B32 O33 λX34=>Bo B32 (O33+1) λX35=>wz 335 [.agg #[.l X34.a X34.n X34.c,.p X35],.i 0,.s key1]<|D3 λm=>Ol jn Q m e0 ⟨none,0,0⟩):=by kernel_rfl
theorem Mu{t28:Bool}:S5 jn Q ((.p e0)::(.s key1)::us 26 ((.b t28)::us 51 []))=(Aj t28 (Ad e0 λB10 O11=>AY B10 O11 λX12=>Bo B10 (O11+1) λX13=>wz 335 [.agg #[.l X12.a X12.n X12.c,.p X13],.i 2,.s key1]<|D3 λm=>Oj jn Q m e0) (Atr jn Q e0 key1)):=by kernel_rfl
theorem Amb:Au jn PR Fg Tryz.f323 [.p e0,.s key1] Q=(Aj (Option.isNone e0) (Q (.tuple #[.b false,.l none 0 0])) (wz 333 [.p e0,.s key1]<|Ad e0 λB1 O2=>AY B1 O2 λX3=>Bo B1 (O2+1) λX4=>Bp 334 [.agg #[.l X3.a X3.n X3.c,.p X4],.s key1] λX5=>Aj (X5==0) (Ad e0 λB6 O7=>AY B6 O7 λX8=>Bo B6 (O7+1) λX9=>wz 335 [.agg #[.l X8.a X8.n X8.c,.p X9],.i 0,.s key1]<|Q (.tuple #[.b true,.l none 0 0])) (Aj (X5==1) (UC jn Q e0 key1 (X5==1)) (UC jn Q e0 key1 (X5==2))))):=by kernel_rfl
theorem Amc:Au jn PR Av Tryz.f324 [.p e0] Q=(Bp 328 [.p e0] λX1=>Aj (X1==0) (Q (.tuple #[.s Ae,.b false])) (F5 339 [.p e0] λX2 X3=>Ad e0 λB4 O5=>AY B4 O5 λX6=>Bo B4 (O5+1) λX7=>TH 337 [.agg #[.l X6.a X6.n X6.c,.p X7],.i X2] λX8=>Ad e0 λB9 O10=>AY B9 O10 λX11=>Bo B9 (O10+1) λX12=>wz 340 [.agg #[.l X11.a X11.n X11.c,.p X12],.s X8]<|Q (.tuple #[.s X8,.b true]))):=by kernel_rfl
theorem Amd:Au jn PR Av Tryz.f326 [.p e0,.s key1] Q=(Aj (Option.isNone e0) (Q (.b false)) (Ad e0 λB1 O2=>AY B1 O2 λX3=>Bo B1 (O2+1) λX4=>Bp 334 [.agg #[.l X3.a X3.n X3.c,.p X4],.s key1] λX5=>Aj (X5==0) (Q (.b true)) (Aj (X5==1) (Q (.b true)) (Q (.b (X5==2)))))):=by kernel_rfl
theorem Ame:Au jn PR Av Tryz.f327 [.p e0] Q=(Aj (Option.isNone e0) (Q (.l none 0 0)) (Ad e0 λB1 O2=>AY B1 O2 λX3=>Bo B1 (O2+1) λX4=>A0 [.i 0,.i 1,.i 2] 3 λB5=>F9 341 [.agg #[.l X3.a X3.n X3.c,.p X4],.l (some ⟨B5,0,none⟩) 3 3] λX6=>Q (.l X6.a X6.n X6.c))):=by kernel_rfl
theorem Amf:Au jn PR Av Tryz.f328 [.p e0] Q=(Aj (Option.isNone e0) (Q (.i 0)) (Ad e0 λB1 O2=>AY B1 O2 λX3=>Bo B1 (O2+1) λX4=>A0 [.i 0,.i 1,.i 2] 3 λB5=>Bp 336 [.agg #[.l X3.a X3.n X3.c,.p X4],.l (some ⟨B5,0,none⟩) 3 3] λX6=>Q (.i X6))):=by kernel_rfl
theorem Xt:S9 jn Q ((.p e0)::(.s key1)::us 42 [])=(A4 λS=>Ad e0 λB6 O7=>Fx S B6 O7 λX8=>EM S B6 (O7+1) λX9=>Ad e0 λB10 O11=>Ep S B10 (O11+4) λX12=>A0 [.i 1,.i 2] 3 λB13=>Ao true S<|Bp 336 [.agg #[.l X8.a X8.n X8.c,.p X9],.l (some ⟨B13,0,none⟩) 2 2] λX14=>Ao true S<|Aj (decide (X14<X12)) (Ad e0 λB15 O16=>AY B15 O16 λX17=>Bo B15 (O16+1) λX18=>wz 335 [.agg #[.l X17.a X17.n X17.c,.p X18],.i 1,.s key1]<|Q (.b true)) (Ad e0 λB19 O20=>
 AY B19 O20 λX21=>Bo B19 (O20+1) λX22=>wz 335 [.agg #[.l X21.a X21.n X21.c,.p X22],.i 0,.s key1]<|Q (.b true))):=by kernel_rfl
theorem Amg:Au jn PR Ac6 Tryz.f329 [.p e0,.s key1] Q=(A4 λS=>Aj (Option.isNone e0) (Ao true S<|Ao true S<|Q (.b false)) (D4 326 [.p e0,.s key1] λX1=>Ao true S<|Aj X1 (Ao true S<|Q (.b false)) (Ad e0 λB2 O3=>Ep S B2 (O3+2) λX4=>Bp 328 [.p e0] λX5=>Ao true S<|Aj (X5==X4) (Q (.b false)) (Att jn Q e0 key1)))):=by kernel_rfl
theorem Amh:Au jn PR Av Tryz.f330 [.p e0,.s key1] Q=(D4 326 [.p e0,.s key1] λX1=>Aj (!X1) (Q (.b false)) (Ad e0 λB2 O3=>AY B2 O3 λX4=>Bo B2 (O3+1) λX5=>wz 340 [.agg #[.l X4.a X4.n X4.c,.p X5],.s key1]<|Q (.b true))):=by kernel_rfl
theorem Ami:Au jn PR Av Tryz.f331 [.p e0] Q=(Aj (Option.isNone e0) (Q (.i 0)) (Ad e0 λB1 O2=>Ax B1 (O2+2) λX3=>Q (.i X3))):=by kernel_rfl
theorem Amj:Au jn PR Av Tryz.f333 [.p e0,.s key1] Q=(Ad e0 λB1 O2=>Bo B1 (O2+7) λX3=>D4 342 [.p X3,.s key1] λX4=>Aj (!X4) (Q (.tuple #[])) (Ad e0 λB5 O6=>Bo B5 (O6+6) λX7=>Bp 343 [.p X7] λX8=>Ad e0 λB9 O10=>Bo B9 (O10+6) λX11=>wz 344 [.p X11,.s key1]<|Ad e0 λB12 O13=>Bo B12 (O13+6) λX14=>Bp 343 [.p X14] λX15=>Aj (decide (X15<X8)) (Ad e0 λB16 O17=>Bo B16 (O17+7) λX18=>wz 345 [.p X18]<|
 Q (.tuple #[])) (Q (.tuple #[])))):=by kernel_rfl
theorem Xu:SB jn Q ((.p e0)::us 2 ((.s key3)::(.i row4)::us 75 []))=(Ad e0 λB26 O27=>AY B26 O27 λX28=>Bo B26 (O27+1) λX29=>TH 337 [.agg #[.l X28.a X28.n X28.c,.p X29],.i row4] λX30=>Ad e0 λB31 O32=>AY B31 O32 λX33=>Bo B31 (O32+1) λX34=>wz 340 [.agg #[.l X33.a X33.n X33.c,.p X34],.s X30]<|Ad e0 λB35 O36=>AY B35 O36 λX37=>Bo B35 (O36+1) λX38=>wz 335 [.agg #[.l X37.a X37.n X37.c,.p X38],.i 1,.s key3]<|A0 [.s X30] 9 λB39=>
 Q (.l (some ⟨B39,0,none⟩) 1 1)):=by kernel_rfl
theorem My:SA jn Q ((.p e0)::us 2 ((.s key3)::(.i row4)::us 30 ((.b t35)::us 44 [])))=(Aj t35 (Ad e0 λB21 O22=>AY B21 O22 λX23=>Bo B21 (O22+1) λX24=>wz 340 [.agg #[.l X23.a X23.n X23.c,.p X24],.s key3]<|A0 [.s key3] 9 λB25=>Q (.l (some ⟨B25,0,none⟩) 1 1)) (Atx jn Q e0 key3 row4)):=by kernel_rfl
theorem Amk:Au jn PR On Tryz.f338 [.p e0] Q=(Ad e0 λB1 O2=>AY B1 O2 λX3=>Bo B1 (O2+1) λX4=>TH 337 [.agg #[.l X3.a X3.n X3.c,.p X4],.i 0] λX5=>F5 339 [.p e0] λX6 X7=>A4 λS=>Ad e0 λB8 O9=>Fx S B8 O9 λX10=>EM S B8 (O9+1) λX11=>Ad e0 λB12 O13=>Ep S B12 (O13+4) λX14=>A0 [.i 1,.i 2] 3 λB15=>Ao true S<|Bp 336 [.agg #[.l X10.a X10.n X10.c,.p X11],.l (some ⟨B15,0,none⟩) 2 2] λX16=>Ao true S<|
 Aj (decide (X16<X14)) (Ad e0 λB17 O18=>AY B17 O18 λX19=>Bo B17 (O18+1) λX20=>wz 335 [.agg #[.l X19.a X19.n X19.c,.p X20],.i 1,.s X5]<|Q (.l none 0 0)) (A4 λS=>Aj (!X7) (Ao true S<|Om jn Q e0 X5 X6 true) (Ad e0 λB40 O41=>Fx S B40 O41 λX42=>EM S B40 (O41+1) λX43=>Bp 348 [.p e0,.s X5] λX44=>Ao true S<|TH 337 [.agg #[.l X42.a X42.n X42.c,.p X43],.i X6] λX45=>Bp 348 [.p e0,.s X45] λX46=>Om jn Q e0 X5 X6 (decide (X44<=X46))))):=by kernel_rfl
theorem Xv:SC jn Q (us 22 [])=(Q (.tuple #[.i 0,.b false])):=by kernel_rfl
theorem Is{t6:Sl}{t7 t8:Int}:UD jn Q (m1+1) e0 t6 t7 t8=(Aj (decide (t8<t7)) (C7 t6.a t6.n t8 λB2 O3=>Ax B2 (O3+t8.toNat*1) λX4=>Ad e0 λB5 O6=>AY B5 O6 λX7=>Bo B5 (O6+1) λX8=>A0 [.i X4] 3 λB9=>Bp 336 [.agg #[.l X7.a X7.n X7.c,.p X8],.l (some ⟨B9,0,none⟩) 1 1] λX10=>Aj (decide (X10>0)) (Q (.tuple #[.i X4,.b true])) (UD jn Q m1 e0 t6 t7 (IntKind.wrap .i64 (t8+1)))) (Atz jn Q)):=by kernel_rfl
theorem Aml:Au jn PR Oo Tryz.f339 [.p e0] Q=(A0 [.i 1,.i 2] 3 λB1=>D3 λm=>UD jn Q m e0 ⟨(some ⟨B1,0,none⟩),2,2⟩ 2 0):=by kernel_rfl
theorem Xw:SD jn Q (us 5 ((.b was5)::us 30 []))=(Q (.b was5)):=by kernel_rfl
theorem Mz{t14:Int}:Ot jn Q (m1+1) d0 key1 was5 t14=(Aj (decide (t14<3)) (Gh (.int .i64) (.int .u64) PR 351 [.p d0,.i t14,.s key1] λ(X2:Int)(X3:Int)=>Ad d0 λB4 O5=>AY B4 O5 λX6=>C7 X6.a X6.n X2 λB7 O8=>D1 B7 (O8+X2.toNat*1) λX9=>C7 X6.a X6.n X2 λB10 O11=>st B10 (O11+X2.toNat*1) (.int .u64 (bits .or .u64 X9 X3))<|Ot jn Q m1 d0 key1 was5 (IntKind.wrap .i64 (t14+1))) (At4 jn Q was5)):=by kernel_rfl
theorem Amm:Au jn PR Oq Tryz.f342 [.p d0,.s key1] Q=(Aj (Option.isNone d0) (Q (.b false)) (D4 350 [.p d0,.s key1] λX1=>D3 λm=>Ot jn Q m d0 key1 X1 0)):=by kernel_rfl
theorem Amn:Au jn PR Av Tryz.f343 [.p s0] Q=(Aj (Option.isNone s0) (Q (.i 0)) (Ad s0 λB1 O2=>Ax B1 (O2+2) λX3=>Q (.i X3))):=by kernel_rfl
theorem Xx:SE jn Q ((.p s0)::us 51 [])=(Ad s0 λB9 O10=>Ax B9 (O10+2) λX11=>Ad s0 λB12 O13=>st B12 (O13+2) (.i (IntKind.wrap .i64 (X11+1)))<|A4 λS=>Ad s0 λB14 O15=>Ep S B14 (O15+2) λX16=>Ad s0 λB17 O18=>Ax B17 O18 λX19=>Ao true S<|Aj (X16==(IntKind.wrap .i64 (10*X19))) (wz 356 [.p s0]<|Q (.tuple #[])) (Q (.tuple #[]))):=by kernel_rfl
theorem M0{low4 t17_0 t17_1 t17_2 t17_3 t18:Int}:Kx jn Q (m1+1) s0 low4 t17_0 t17_1 t17_2 t17_3 t18=(Aj (decide (t18<4)) (AX ((0:Int)<=t18/\t18<((4:Nat):Int))<|λw=>∃X6:Int,([.i t17_0,.i t17_1,.i t17_2,.i t17_3]:List Value)[t18.toNat]? = some (.i X6)/\Cu (.i X6)=false/\(Bp 354 [.p s0,.i X6] λX7=>Aj (decide (X7<=low4)) (Bp 119 [.i X7,.i 15] λX8=>wz 355 [.p s0,.i X6,.i X8]<|Kx jn Q m1 s0 low4 t17_0 t17_1 t17_2 t17_3 (IntKind.wrap .i64 (t18+1))) (
 Kx jn Q m1 s0 low4 t17_0 t17_1 t17_2 t17_3 (IntKind.wrap .i64 (t18+1)))) w) (At6 jn Q s0)):=by kernel_rfl
theorem Amo:Au jn PR Ou Tryz.f344 [.p s0,.s key1] Q=(Aj (Option.isNone s0) (Q (.tuple #[])) (Bp 352 [.p s0,.s key1] λX1=>Aj (X1==15) (Q (.tuple #[])) (λw=>Calls PR 353 #[.p s0,.s key1] w λe w'=>∃X2:Int,∃X3:Int,∃X4:Int,∃X5:Int,e = .returned (.agg #[.i X2,.i X3,.i X4,.i X5])/\(D3 λm=>Kx jn Q m s0 X1 X2 X3 X4 X5 0) w'))):=by kernel_rfl
theorem Amp:Au jn PR Av Tryz.f345 [.p d0] Q=(Aj (!Option.isNone d0) (Ad d0 λB1 O2=>AY B1 O2 λX3=>Aqo [.int .u64 0] X3.a X3.n<|Q (.tuple #[])) (Q (.tuple #[]))):=by kernel_rfl
end Go.Proofs.YtjipofkjmmpjdaaGreat
namespace Go.Proofs.YtjipofkjmmpjdaaGreat
open Go.Hb
section
variable(jn:Jn)(Q:VW)
def Ov:KP:=⟨[(11,[0,1,10]),(22,[])],[]⟩
def At8:EW:=sE Tryz.f350 Ov jn Q [1,1,1] (rE Tryz.f350 Q) A5
def SF:EW:=cE Tryz.f350 Ov jn Q [1,1,1] (rE Tryz.f350 Q) A5
def At9:WP:=jn 22 (SF jn Q) (us 31 [])
def Ow(m1:Nat)(d0:OA)(key1:BA)(t10:Int):WP:=CG PR Ov jn (bE Tryz.f350 [1,1,0,1,0,0]) (A6 0 (At8 jn Q) A5) (rE Tryz.f350 Q) m1 ((.p d0)::(.s key1)::us 8 ((.i t10)::us 20 []))
def Aua:KP:=⟨[],[(1,[0,1,2,3,5,6,7,8,9,10,12]),(2,[0,1,2,3,4,5,6])]⟩
def Ox:KP:=⟨[(13,[0,5,12,13]),(20,[5])],[]⟩
def Aub:EW:=sE Tryz.f352 Ox jn Q [1,1,1,1] (rE Tryz.f352 Q) A5
def SG:EW:=cE Tryz.f352 Ox jn Q [1,1,1,1] (rE Tryz.f352 Q) A5
def Auc(low5:Int):WP:=jn 20 (SG jn Q) (us 5 ((.i low5)::us 17 []))
def Oy(m1:Nat)(s0:OA)(low5 t12_0 t12_1 t12_2 t12_3 t13:Int):WP:=CG PR Ox jn (bE Tryz.f352 [1,1,1,0,1,0,0]) (A6 0 (Aub jn Q) A5) (rE Tryz.f352 Q) m1 ((.p s0)::us 4 ((.i low5)::us 6 ((.agg #[.i t12_0,.i t12_1,.i t12_2,.i t12_3])::(.i t13)::us 9 [])))
def Oz:KP:=⟨[(9,[0,1,4,5,7]),(16,[4,5])],[(5,[0,1,2,3,4,5,6,7,8,9,10,12,13,14,15,17,18])]⟩
def Aud:EW:=sE Tryz.f353 Oz jn Q [1,1,1] (rE Tryz.f353 Q) A5
def SH:EW:=cE Tryz.f353 Oz jn Q [1,1,1] (rE Tryz.f353 Q) A5
def Aue(t4b t4o l5b l5o:Nat):WP:=jn 16 (SH jn Q) (us 4 ((pq t4b t4o)::(pq l5b l5o)::us 25 []))
def O0(m1:Nat)(s0:OA)(key1:BA)(t4b t4o l5b l5o:Nat)(t7:Int):WP:=CG PR Oz jn (bE Tryz.f353 [1,1,0,1,0,0]) (A6 0 (Aud jn Q) A5) (rE Tryz.f353 Q) m1 ((.p s0)::(.s key1)::us 2 ((pq t4b t4o)::(pq l5b l5o)::us 1 ((.i t7)::us 23 [])))
def Auf:KP:=⟨[],[(1,[0,1,2,3,4,5,6,7,8,10,11,12,14,15,16,17,18,19,20,21,22])]⟩
def O1:KP:=⟨[(7,[0,9,10]),(14,[0])],[]⟩
def Aug:EW:=sE Tryz.f356 O1 jn Q [1,1] (rE Tryz.f356 Q) A5
def SI:EW:=cE Tryz.f356 O1 jn Q [1,1] (rE Tryz.f356 Q) A5
def Auh(s0:OA):WP:=jn 14 (SI jn Q) ((.p s0)::us 27 [])
def OB(m1:Nat)(s0:OA)(t9 t10:Int):WP:=CG PR O1 jn (bE Tryz.f356 [1,0,1,0,0]) (A6 0 (Aug jn Q) A5) (rE Tryz.f356 Q) m1 ((.p s0)::us 8 ((.i t9)::(.i t10)::us 17 []))
def Ac8(m1:Nat):EW:=Ib PR AA jn (bE Tryz.f357 [1,1,1,0,0]) (A6 0 (rE Tryz.f357 Q) A5) (rE Tryz.f357 Q) m1
def Ky(m1:Nat):EW:=sE Tryz.f357 AA jn Q [1,1,1,0,0,1] (Ac8 jn Q m1) (A6 0 (rE Tryz.f357 Q) A5)
def Aui(m1:Nat):Nat->EW:=A6 1 (Ky jn Q m1) (A6 0 (rE Tryz.f357 Q) A5)
def UE(m1:Nat):Nat->EW:=A6 2 (Ky jn Q m1) (Aui jn Q m1)
def Afo(m1:Nat):EW:=cE Tryz.f357 AA jn Q [1,1,1,0,0,1] (Ac8 jn Q m1) (A6 0 (rE Tryz.f357 Q) A5)
def Afp(m1:Nat):EW:=cE Tryz.f357 AA jn Q [1,1,1,0,0,0,0,1,0,1,1,1,1,1] (Ky jn Q m1) (UE jn Q m1)
def Afn(m1:Nat):EW:=cE Tryz.f357 AA jn Q [1,1,1,0,0,0,0,1,0,1,1,1] (Ky jn Q m1) (UE jn Q m1)
def Afm(m1:Nat):EW:=cE Tryz.f357 AA jn Q [1,1,1,0,0,0,0,1,0,1] (Ky jn Q m1) (UE jn Q m1)
def Auj(m1:Nat)(x0:OA)(key1:BA)(free6 i7:Int):WP:=CG PR AA jn (bE Tryz.f357 [1,1,1,0,0]) (A6 0 (rE Tryz.f357 Q) A5) (rE Tryz.f357 Q) m1 ((.p x0)::(.s key1)::us 4 ((.i free6)::(.i i7)::us 71 []))
def Afq:EW:=cE Tryz.f358 Ed jn Q [1,1] (rE Tryz.f358 Q) A5
def Auk(m1:Nat)(x0:OA)(t28:Sl)(t29 t30:Int):WP:=CG PR Dx jn (bE Tryz.f359 [1,1,1,0,0]) (A6 0 (rE Tryz.f359 Q) A5) (rE Tryz.f359 Q) m1 ((.p x0)::us 27 ((.l t28.a t28.n t28.c)::(.i t29)::(.i t30)::us 21 []))
def OC:KP:=⟨[(19,[0,1,8]),(24,[0,1,8])],[(5,[0,1,2,3,4,5]),(8,[0,2,3,4,5,6])]⟩
def Amz:EW:=sE Tryz.f360 OC jn Q [1,1,1,1,1] (rE Tryz.f360 Q) A5
def SJ:EW:=cE Tryz.f360 OC jn Q [1,1,1,1,1] (rE Tryz.f360 Q) A5
def Ac9(e0:OA)(key1:BA)(gone8:Sl):WP:=jn 24 (SJ jn Q) ((.p e0)::(.s key1)::us 6 ((.l gone8.a gone8.n gone8.c)::us 53 []))
def OD(m1:Nat)(e0:OA)(key1:BA)(gone8:Sl):WP:=CG PR OC jn (bE Tryz.f360 [1,1,1,1,0,0,0]) (A6 0 (Amz jn Q) A5) (rE Tryz.f360 Q) m1 ((.p e0)::(.s key1)::us 6 ((.l gone8.a gone8.n gone8.c)::us 53 []))
def UG:KP:=⟨[(10,[0,28])],[(3,[0,1,2,3,6,7,8,9,10,11,12,13,14,15,18,19])]⟩
def Aum:EW:=sE Tryz.f361 UG jn Q [1,1,1] (rE Tryz.f361 Q) A5
def SK:EW:=cE Tryz.f361 UG jn Q [1,1,0,1] (Aum jn Q) A5
def UF(e0:OA)(t28:Bool):WP:=jn 10 (SK jn Q) ((.p e0)::us 27 ((.b t28)::us 9 []))
def Aun:KP:=⟨[],[(1,[0,1,2,3,4,6,7,8,10,11,12,13,14,15])]⟩
def Aup:EW:=sE Tryz.f372 Bl jn Q [1,1,1] (rE Tryz.f372 Q) A5
def Afr:EW:=cE Tryz.f372 Bl jn Q [1,1,1] (rE Tryz.f372 Q) A5
def Auq(m1:Nat)(r2b r2o:Nat)(n5:Int)(t8:Sl)(t9 t10:Int):WP:=CG PR Bl jn (bE Tryz.f372 [1,1,0,1,0,0]) (A6 0 (Aup jn Q) A5) (rE Tryz.f372 Q) m1 (us 2 ((pq r2b r2o)::us 2 ((.i n5)::us 2 ((.l t8.a t8.n t8.c)::(.i t9)::(.i t10)::us 13 []))))
def Gm:KP:=⟨[(5,[0]),(19,[0,4]),(22,[4]),(24,[])],[(8,[0,1,2,3,6,7,8,9,10]),(9,[0,1,2,3,4,5,6])]⟩
def UI:EW:=sE Tryz.f373 Gm jn Q [1,1] (rE Tryz.f373 Q) A5
def UJ(m1:Nat):EW:=Ib PR Gm jn (bE Tryz.f373 [1,0,0,0]) (A6 0 (UI jn Q) A5) (rE Tryz.f373 Q) m1
def UK(m1:Nat):Nat->EW:=A6 1 (UJ jn Q m1) (A6 0 (UI jn Q) A5)
def Am9(m1:Nat):EW:=sE Tryz.f373 Gm jn Q [1,0,0,0,1,0,1,1,1,1,1] (UJ jn Q m1) (UK jn Q m1)
def Ana(m1:Nat):Nat->EW:=A6 2 (Am9 jn Q m1) (UK jn Q m1)
def SM(m1:Nat):EW:=cE Tryz.f373 Gm jn Q [1,0,0,0,1,0,1,1,1,1,1] (UJ jn Q m1) (UK jn Q m1)
def Aur(m1:Nat)(key4:BA):WP:=jn 22 (SM jn Q m1) (us 4 ((.s key4)::us 59 []))
def OF(m1 m2:Nat)(e0:OA)(key4:BA):WP:=CG PR Gm jn (bE Tryz.f373 [1,0,0,0,1,0,1,1,1,1,0,0,0]) (Ana jn Q m1) (rE Tryz.f373 Q) m2 ((.p e0)::us 3 ((.s key4)::us 59 []))
def SN:EW:=cE Tryz.f373 Gm jn Q [1,1] (rE Tryz.f373 Q) A5
def Aus:WP:=jn 24 (SN jn Q) (us 64 [])
def OE(m1:Nat)(e0:OA):WP:=CG PR Gm jn (bE Tryz.f373 [1,0,0,0]) (A6 0 (UI jn Q) A5) (rE Tryz.f373 Q) m1 ((.p e0)::us 63 [])
def Ada:KP:=⟨[(5,[0])],[]⟩
def OG(m1:Nat)(e0:OA):WP:=CG PR Ada jn (bE Tryz.f374 [1,0,0]) (A6 0 (rE Tryz.f374 Q) A5) (rE Tryz.f374 Q) m1 ((.p e0)::us 30 [])
def Aut:EW:=sE Tryz.f375 Bl jn Q [1,1,1] (rE Tryz.f375 Q) A5
def Afs:EW:=cE Tryz.f375 Bl jn Q [1,1,1] (rE Tryz.f375 Q) A5
def Auu(m1:Nat)(r2b r2o:Nat)(l5 t8:Sl)(t9 t10:Int):WP:=CG PR Bl jn (bE Tryz.f375 [1,1,0,1,0,0]) (A6 0 (Aut jn Q) A5) (rE Tryz.f375 Q) m1 (us 2 ((pq r2b r2o)::us 2 ((.l l5.a l5.n l5.c)::us 2 ((.l t8.a t8.n t8.c)::(.i t9)::(.i t10)::us 13 []))))
def Aft:EW:=cE Tryz.f377 Ec jn Q [1,1] (rE Tryz.f377 Q) A5
def Adb(m1:Nat):EW:=Ib PR AA jn (bE Tryz.f381 [1,1,1,0,0]) (A6 0 (rE Tryz.f381 Q) A5) (rE Tryz.f381 Q) m1
def Kz(m1:Nat):EW:=sE Tryz.f381 AA jn Q [1,1,1,0,0,1] (Adb jn Q m1) (A6 0 (rE Tryz.f381 Q) A5)
def Auv(m1:Nat):Nat->EW:=A6 1 (Kz jn Q m1) (A6 0 (rE Tryz.f381 Q) A5)
def UL(m1:Nat):Nat->EW:=A6 2 (Kz jn Q m1) (Auv jn Q m1)
def Afw(m1:Nat):EW:=cE Tryz.f381 AA jn Q [1,1,1,0,0,1] (Adb jn Q m1) (A6 0 (rE Tryz.f381 Q) A5)
def Afx(m1:Nat):EW:=cE Tryz.f381 AA jn Q [1,1,1,0,0,0,0,1,0,1,1,1,1,1] (Kz jn Q m1) (UL jn Q m1)
def Afv(m1:Nat):EW:=cE Tryz.f381 AA jn Q [1,1,1,0,0,0,0,1,0,1,1,1] (Kz jn Q m1) (UL jn Q m1)
def Afu(m1:Nat):EW:=cE Tryz.f381 AA jn Q [1,1,1,0,0,0,0,1,0,1] (Kz jn Q m1) (UL jn Q m1)
def Auw(m1:Nat)(x0:OA)(key1:BA)(free6 i7:Int):WP:=CG PR AA jn (bE Tryz.f381 [1,1,1,0,0]) (A6 0 (rE Tryz.f381 Q) A5) (rE Tryz.f381 Q) m1 ((.p x0)::(.s key1)::us 4 ((.i free6)::(.i i7)::us 71 []))
def Afy:EW:=cE Tryz.f384 Ed jn Q [1,1] (rE Tryz.f384 Q) A5
def Aux(m1:Nat)(x0:OA)(t28:Sl)(t29 t30:Int):WP:=CG PR Dx jn (bE Tryz.f385 [1,1,1,0,0]) (A6 0 (rE Tryz.f385 Q) A5) (rE Tryz.f385 Q) m1 ((.p x0)::us 27 ((.l t28.a t28.n t28.c)::(.i t29)::(.i t30)::us 21 []))
end
variable{jn:Jn}{Q:VW}{e0 s0 d0:OA}{key1 key2 key4:BA}{m1 t4b t4o l5b l5o:Nat}{i1 t10 low5:Int}{gone8:Sl}
theorem Amq:Au jn PR Av Tryz.f348 [.p e0,.s key1] Q=(Ad e0 λB1 O2=>Bo B1 (O2+6) λX3=>Bp 352 [.p X3,.s key1] λX4=>Ad e0 λB5 O6=>Bo B5 (O6+7) λX7=>D4 350 [.p X7,.s key1] λX8=>Aj X8 (Q (.i (IntKind.wrap .i64 (X4+1)))) (Q (.i X4))):=by kernel_rfl
theorem Xz:SF jn Q (us 31 [])=(Q (.b true)):=by kernel_rfl
theorem M1:Ow jn Q (m1+1) d0 key1 t10=(Aj (decide (t10<3)) (Gh (.int .i64) (.int .u64) PR 351 [.p d0,.i t10,.s key1] λ(X1:Int)(X2:Int)=>Ad d0 λB3 O4=>AY B3 O4 λX5=>C7 X5.a X5.n X1 λB6 O7=>D1 B6 (O7+X1.toNat*1) λX8=>Aj ((bits .and .u64 X8 X2)==0) (Q (.b false)) (Ow jn Q m1 d0 key1 (IntKind.wrap .i64 (t10+1)))) (At9 jn Q)):=by kernel_rfl
theorem Ams:Au jn PR Ov Tryz.f350 [.p d0,.s key1] Q=(Aj (Option.isNone d0) (Q (.b false)) (D3 λm=>Ow jn Q m d0 key1 0)):=by kernel_rfl
theorem Amt:Au jn PR Aua Tryz.f351 [.p d0,.i i1,.s key2] Q=(A4 λS=>Ad d0 λB1 O2=>Fx S B1 O2 λX3=>Zf 117 [.int .u64 (IntKind.wrap .u64 (IntKind.wrap .i64 (11+i1))),.s key2] λX4=>Ao true S<|Bp 116 [.int .u64 X4,.i (IntKind.wrap .i64 (64*(X3.n:Int)))] λX5=>A4 λS=>AX ((64:Int)≠0)<|AX ((64:Int)≠0)<|AX ((0:Int)<=(Int.tmod X5 (64:Int)))<|Q (.tuple #[.i (IntKind.wrap .i64 (Int.tdiv X5 64)),.int .u64 (GL .u64 1 (Int.tmod X5 64))])):=by kernel_rfl
theorem X0:SG jn Q (us 5 ((.i low5)::us 17 []))=(Q (.i low5)):=by kernel_rfl
theorem M2{t12_0 t12_1 t12_2 t12_3 t13:Int}:Oy jn Q (m1+1) s0 low5 t12_0 t12_1 t12_2 t12_3 t13=(Aj (decide (t13<4)) (AX ((0:Int)<=t13/\t13<((4:Nat):Int))<|λw=>∃X5:Int,([.i t12_0,.i t12_1,.i t12_2,.i t12_3]:List Value)[t13.toNat]? = some (.i X5)/\Cu (.i X5)=false/\(Bp 354 [.p s0,.i X5] λX6=>Oy jn Q m1 s0 (if X6<low5 then X6 else low5) t12_0 t12_1 t12_2 t12_3 (IntKind.wrap .i64 (t13+1))) w) (Auc jn Q low5)):=by kernel_rfl
theorem Amu:Au jn PR Ox Tryz.f352 [.p s0,.s key1] Q=(Aj (Option.isNone s0) (Q (.i 0)) (λw=>Calls PR 353 #[.p s0,.s key1] w λe w'=>∃X1:Int,∃X2:Int,∃X3:Int,∃X4:Int,e = .returned (.agg #[.i X1,.i X2,.i X3,.i X4])/\(D3 λm=>Oy jn Q m s0 15 X1 X2 X3 X4 0) w')):=by kernel_rfl
theorem XA:SH jn Q (us 4 ((pq t4b t4o)::(pq l5b l5o)::us 25 []))=(Ax l5b l5o λX11=>Ax l5b (l5o+1) λX12=>Ax l5b ((l5o+1)+1) λX13=>Ax l5b (((l5o+1)+1)+1) λX14=>st t4b t4o (.i X11)<|st t4b (t4o+1) (.i X12)<|st t4b ((t4o+1)+1) (.i X13)<|st t4b (((t4o+1)+1)+1) (.i X14)<|Ax t4b t4o λX15=>Ax t4b (t4o+1) λX16=>Ax t4b ((t4o+1)+1) λX17=>Ax t4b (((t4o+1)+1)+1) λX18=>Q (.agg #[.i X15,.i X16,.i X17,.i X18])):=by kernel_rfl
theorem M3{t7:Int}:O0 jn Q (m1+1) s0 key1 t4b t4o l5b l5o t7=(Aj (decide (t7<4)) (A4 λS=>Ad s0 λB3 O4=>Ep S B3 O4 λX5=>Ad s0 λB6 O7=>Ep S B6 O7 λX8=>Zf 117 [.int .u64 (IntKind.wrap .u64 (IntKind.wrap .i64 (t7+1))),.s key1] λX9=>Ao true S<|Bp 116 [.int .u64 X9,.i X8] λX10=>Ao true S<|AX ((0:Int)<=t7/\t7<((4:Nat):Int))<|st l5b (l5o+t7.toNat*1) (.i (IntKind.wrap .i64 ((IntKind.wrap .i64 (t7*X5))+X10)))<|O0 jn Q m1 s0 key1 t4b t4o l5b l5o (IntKind.wrap .i64 (t7+1))) (
 Aue jn Q t4b t4o l5b l5o)):=by kernel_rfl
theorem Amv:Au jn PR Oz Tryz.f353 [.p s0,.s key1] Q=(A0 [.i 0,.i 0,.i 0,.i 0] 405 λB1=>A0 [.i 0,.i 0,.i 0,.i 0] 405 λB2=>D3 λm=>O0 jn Q m s0 key1 B1 0 B2 0 0):=by kernel_rfl
theorem Amw:Au jn PR Av Tryz.f354 [.p s0,.i i1] Q=(Ad s0 λB1 O2=>AY B1 (O2+1) λX3=>AX ((2:Int)≠0)<|C7 X3.a X3.n (IntKind.wrap .i64 (Int.tdiv i1 2)) λB4 O5=>ld (.int .u8) B4 (O5+((IntKind.wrap .i64 (Int.tdiv i1 (2:Int)))).toNat*1) λ(X6:Int)=>AX ((2:Int)≠0)<|AX ((0:Int)<=(IntKind.wrap .i64 ((Int.tmod i1 (2:Int))*(4:Int))))<|Q (.i (bits .and .i64 (IntKind.wrap .i64 (C8 .u8 X6 (IntKind.wrap .i64 ((Int.tmod i1 2)*4)))) 15))):=by kernel_rfl
theorem Amx{v2:Int}:Au jn PR Auf Tryz.f355 [.p s0,.i i1,.i v2] Q=(AX ((2:Int)≠0)<|A4 λS=>Ad s0 λB1 O2=>Fx S B1 (O2+1) λX3=>AX ((2:Int)≠0)<|Ad s0 λB4 O5=>AX ((2:Int)≠0)<|AX ((0:Int)<=(IntKind.wrap .i64 ((Int.tmod i1 (2:Int))*(4:Int))))<|AX ((0:Int)<=(IntKind.wrap .i64 ((Int.tmod i1 (2:Int))*(4:Int))))<|AY B4 (O5+1) λX6=>Ao true S<|C7 X6.a X6.n (IntKind.wrap .i64 (Int.tdiv i1 2)) λB7 O8=>ld (.int .u8) B7 (O8+((IntKind.wrap .i64 (Int.tdiv i1 (2:Int)))).toNat*1) λ(X9:Int)=>Ao true S<|C7 X3.a X3.n (IntKind.wrap .i64 (Int.tdiv i1 2)) λB10 O11=>
 st B10 (O11+((IntKind.wrap .i64 (Int.tdiv i1 (2:Int)))).toNat*1) (.int .u8 (bits .or .u8 (bits .andNot .u8 X9 (GL .u8 15 (IntKind.wrap .i64 ((Int.tmod i1 2)*4)))) (GL .u8 (IntKind.wrap .u8 v2) (IntKind.wrap .i64 ((Int.tmod i1 2)*4)))))<|Q (.tuple #[])):=by kernel_rfl
theorem XB:SI jn Q ((.p s0)::us 27 [])=(Ad s0 λB5 O6=>Ax B5 (O6+2) λX7=>AX ((2:Int)≠0)<|Ad s0 λB8 O9=>st B8 (O9+2) (.i (IntKind.wrap .i64 (Int.tdiv X7 2)))<|Q (.tuple #[])):=by kernel_rfl
theorem M4{t9:Int}:OB jn Q (m1+1) s0 t9 t10=(Aj (decide (t10<t9)) (Bp 354 [.p s0,.i t10] λX4=>AX ((2:Int)≠0)<|wz 355 [.p s0,.i t10,.i (IntKind.wrap .i64 (Int.tdiv X4 2))]<|OB jn Q m1 s0 t9 (IntKind.wrap .i64 (t10+1))) (Auh jn Q s0)):=by kernel_rfl
theorem Amy:Au jn PR O1 Tryz.f356 [.p s0] Q=(Aj (Option.isNone s0) (Q (.tuple #[])) (Ad s0 λB1 O2=>Ax B1 O2 λX3=>D3 λm=>OB jn Q m s0 (IntKind.wrap .i64 (4*X3)) 0)):=by kernel_rfl
theorem XC:SJ jn Q ((.p e0)::(.s key1)::us 6 ((.l gone8.a gone8.n gone8.c)::us 53 []))=(Ad e0 λB20 O21=>AY B20 O21 λX22=>Bo B20 (O21+1) λX23=>Bp 370 [.agg #[.l X22.a X22.n X22.c,.p X23],.s key1] λX24=>Aj (X24==2) (wz 371 [.p e0,.i 1,.s key1,.i 0]<|Q (.tuple #[.b false,.l gone8.a gone8.n gone8.c])) (wz 371 [.p e0,.i 0,.s key1,.i 0]<|Q (.tuple #[.b false,.l gone8.a gone8.n gone8.c]))):=by kernel_rfl
theorem M5:OD jn Q (m1+1) e0 key1 gone8=(A4 λS=>Ad e0 λB12 O13=>Ep S B12 (O13+2) λX14=>Bp 365 [.p e0] λX15=>Ao true S<|Aj (decide (X15>=X14)) (EF 361 [.p e0] λX16 X17=>A0 [.s X16] 9 λB18=>Bt 9 1 16 [.s Ae] ⟨gone8.a,gone8.n,gone8.c⟩ 1 (λw=>HM w (some ⟨B18,0,none⟩) (1*1)) λG19=>OD jn Q m1 e0 key1 G19) (Ac9 jn Q e0 key1 gone8)):=by kernel_rfl
theorem Am0:Au jn PR OC Tryz.f360 [.p e0,.s key1] Q=(Aj (Option.isNone e0) (Q (.tuple #[.b false,.l none 0 0])) (D4 363 [.p e0,.s key1] λX1=>Aj X1 (Ad e0 λB2 O3=>Bo B2 (O3+5) λX4=>F5 192 [.p X4,.s key1] λX5 X6=>A4 λS=>Ad e0 λB7 O8=>EM S B7 (O8+5) λX9=>Bp 119 [.i X5,.i 3] λX10=>Ao true S<|D4 161 [.p X9,.s key1,.i X10] λX11=>Q (.tuple #[.b true,.l none 0 0])) (D3 λm=>OD jn Q m e0 key1 ⟨none,0,0⟩))):=by kernel_rfl
theorem XD{t28:Bool}:SK jn Q ((.p e0)::us 27 ((.b t28)::us 9 []))=(Aj t28 (EF 373 [.p e0] λX11 X12=>Aj X12 (Q (.tuple #[.s X11,.b true])) (TH 374 [.p e0] λX13=>Q (.tuple #[.s X13,.b true]))) (TH 374 [.p e0] λX14=>Q (.tuple #[.s X14,.b true]))):=by kernel_rfl
theorem Am1:Au jn PR UG Tryz.f361 [.p e0] Q=(Bp 365 [.p e0] λX1=>Aj (X1==0) (Q (.tuple #[.s Ae,.b false])) (A4 λS=>Ad e0 λB2 O3=>Fx S B2 O3 λX4=>EM S B2 (O3+1) λX5=>Ad e0 λB6 O7=>Ep S B6 (O7+3) λX8=>A0 [.i 0] 3 λB9=>Ao true S<|Bp 372 [.agg #[.l X4.a X4.n X4.c,.p X5],.l (some ⟨B9,0,none⟩) 1 1] λX10=>Ao true S<|Aj (decide (X10>X8)) (Ao true S<|UF jn Q e0 true) (Ad e0 λB15 O16=>Fx S B15 O16 λX17=>EM S B15 (O16+1) λX18=>
 A0 [.i 1] 3 λB19=>Ao true S<|Bp 372 [.agg #[.l X17.a X17.n X17.c,.p X18],.l (some ⟨B19,0,none⟩) 1 1] λX20=>UF jn Q e0 (X20==0)))):=by kernel_rfl
theorem Am2:Au jn PR Av Tryz.f363 [.p e0,.s key1] Q=(Aj (Option.isNone e0) (Q (.b false)) (Ad e0 λB1 O2=>AY B1 O2 λX3=>Bo B1 (O2+1) λX4=>Bp 370 [.agg #[.l X3.a X3.n X3.c,.p X4],.s key1] λX5=>Aj (X5==0) (Q (.b true)) (Q (.b (X5==1))))):=by kernel_rfl
theorem Am3:Au jn PR Av Tryz.f364 [.p e0] Q=(Aj (Option.isNone e0) (Q (.l none 0 0)) (Ad e0 λB1 O2=>AY B1 O2 λX3=>Bo B1 (O2+1) λX4=>A0 [.i 0,.i 1] 3 λB5=>F9 375 [.agg #[.l X3.a X3.n X3.c,.p X4],.l (some ⟨B5,0,none⟩) 2 2] λX6=>Q (.l X6.a X6.n X6.c))):=by kernel_rfl
theorem Am4:Au jn PR Av Tryz.f365 [.p e0] Q=(Aj (Option.isNone e0) (Q (.i 0)) (Ad e0 λB1 O2=>AY B1 O2 λX3=>Bo B1 (O2+1) λX4=>A0 [.i 0,.i 1] 3 λB5=>Bp 372 [.agg #[.l X3.a X3.n X3.c,.p X4],.l (some ⟨B5,0,none⟩) 2 2] λX6=>Q (.i X6))):=by kernel_rfl
theorem Am5:Au jn PR Aun Tryz.f366 [.p e0,.s key1] Q=(A4 λS=>Aj (Option.isNone e0) (Ao true S<|Ao true S<|Q (.b false)) (D4 363 [.p e0,.s key1] λX1=>Ao true S<|Aj X1 (Ao true S<|Q (.b false)) (Ad e0 λB2 O3=>Ep S B2 (O3+2) λX4=>Bp 365 [.p e0] λX5=>Ao true S<|Aj (X5==X4) (Q (.b false)) (wz 371 [.p e0,.i 1,.s key1,.i 0]<|Q (.b true))))):=by kernel_rfl
theorem Am6:Au jn PR Av Tryz.f367 [.p e0,.s key1] Q=(D4 363 [.p e0,.s key1] λX1=>Aj (!X1) (Q (.b false)) (wz 376 [.p e0,.s key1]<|Q (.b true))):=by kernel_rfl
theorem Am7:Au jn PR Av Tryz.f368 [.p e0] Q=(Aj (Option.isNone e0) (Q (.i 0)) (Ad e0 λB1 O2=>Ax B1 (O2+2) λX3=>Q (.i X3))):=by kernel_rfl
theorem Am8{row1:Int}{count3:Int}:Au jn PR Av Tryz.f371 [.p e0,.i row1,.s key2,.i count3] Q=(Ad e0 λB1 O2=>AY B1 O2 λX3=>Bo B1 (O2+1) λX4=>wz 378 [.agg #[.l X3.a X3.n X3.c,.p X4],.i row1,.s key2]<|Ad e0 λB5 O6=>Bo B5 (O6+5) λX7=>D4 161 [.p X7,.s key2,.i count3] λX8=>Q (.tuple #[])):=by kernel_rfl
theorem M6:SM jn Q m1 (us 4 ((.s key4)::us 59 []))=(Q (.tuple #[.s key4,.b true])):=by kernel_rfl
theorem M8{m2:Nat}:OF jn Q m1 (m2+1) e0 key4=(A4 λS=>Ad e0 λB21 O22=>Fx S B21 O22 λX23=>EM S B21 (O22+1) λX24=>Ad e0 λB25 O26=>Ep S B25 (O26+4) λX27=>A0 [.i 2] 3 λB28=>Ao true S<|Bp 372 [.agg #[.l X23.a X23.n X23.c,.p X24],.l (some ⟨B28,0,none⟩) 1 1] λX29=>Ao true S<|Aj (decide (X29>X27)) (A4 λS=>Ad e0 λB30 O31=>Fx S B30 O31 λX32=>EM S B30 (O31+1) λX33=>Ad e0 λB34 O35=>AY B34 O35 λX36=>Bo B34 (O35+1) λX37=>Ao true S<|TH 379 [.agg #[.l X36.a X36.n X36.c,.p X37],.i 2] λX38=>
 Ao true S<|wz 380 [.agg #[.l X32.a X32.n X32.c,.p X33],.s X38]<|OF jn Q m1 m2 e0 key4) (Aur jn Q m1 key4)):=by kernel_rfl
theorem XH:SN jn Q (us 64 [])=(Q (.tuple #[.s Ae,.b false])):=by kernel_rfl
theorem M7:OE jn Q (m1+1) e0=(Ad e0 λB1 O2=>AY B1 O2 λX3=>Bo B1 (O2+1) λX4=>A0 [.i 0] 3 λB5=>Bp 372 [.agg #[.l X3.a X3.n X3.c,.p X4],.l (some ⟨B5,0,none⟩) 1 1] λX6=>Aj (decide (X6>0)) (Ad e0 λB7 O8=>AY B7 O8 λX9=>Bo B7 (O8+1) λX10=>TH 379 [.agg #[.l X9.a X9.n X9.c,.p X10],.i 0] λX11=>Ad e0 λB12 O13=>Bo B12 (O13+5) λX14=>F5 192 [.p X14,.s X11] λX15 X16=>Aj (decide (X15>1)) (wz 371 [.p e0,.i 1,.s X11,.i 0]<|
 OE jn Q m1 e0) (wz 376 [.p e0,.s X11]<|Ad e0 λB17 O18=>AY B17 O18 λX19=>Bo B17 (O18+1) λX20=>wz 378 [.agg #[.l X19.a X19.n X19.c,.p X20],.i 2,.s X11]<|D3 λm=>OF jn Q m1 m e0 X11)) (Aus jn Q)):=by kernel_rfl
theorem Anb:Au jn PR Gm Tryz.f373 [.p e0] Q=(D3 λm=>OE jn Q m e0):=by kernel_rfl
theorem XI:OG jn Q (m1+1) e0=(Ad e0 λB1 O2=>AY B1 O2 λX3=>Bo B1 (O2+1) λX4=>TH 379 [.agg #[.l X3.a X3.n X3.c,.p X4],.i 1] λX5=>Ad e0 λB6 O7=>Bo B6 (O7+5) λX8=>F5 192 [.p X8,.s X5] λX9 X10=>Aj (X9==0) (wz 376 [.p e0,.s X5]<|Q (.s X5)) (wz 371 [.p e0,.i 1,.s X5,.i (IntKind.wrap .i64 (X9-1))]<|OG jn Q m1 e0)):=by kernel_rfl
theorem Anc:Au jn PR Ada Tryz.f374 [.p e0] Q=(D3 λm=>OG jn Q m e0):=by kernel_rfl
theorem Ane:Au jn PR Av Tryz.f376 [.p e0,.s key1] Q=(Ad e0 λB1 O2=>AY B1 O2 λX3=>Bo B1 (O2+1) λX4=>wz 380 [.agg #[.l X3.a X3.n X3.c,.p X4],.s key1]<|Ad e0 λB5 O6=>Bo B5 (O6+5) λX7=>F5 159 [.p X7,.s key1] λX8 X9=>Q (.tuple #[])):=by kernel_rfl
end Go.Proofs.YtjipofkjmmpjdaaGreat
namespace Go.Hb
section
variable{W0 w:World}{L M:List HP}{b:Nat}
theorem Ab3{c cap s r s' r':Nat}{B B':Array Value}(h:Ab W0 w (F6 c (.chan cap B false s r false)::M)):Ab W0 (w.setChan c cap B' false s' r' false) (F6 c (.chan cap B' false s' r' false)::M):=by
 have hb:=h.objC;have hlt:c<w.heap.size:=(Array.getElem?_eq_some_iff.1 hb).1;refine h.swapC rfl rfl ?_ (λx y hx hy=>?_)
 ·simp[World.setChan,hlt]
 ·simp only[World.setChan];rw[Array.getElem?_setIfInBounds_ne (Ne.symm hx)];exact hy
end
end Go.Hb
namespace Go.Proofs.YtjipofkjmmpjdaaGreat
open Go.Conc Go.RowKit Go.Hb
set_option maxRecDepth 100000 in
theorem YE{b o:Nat}(w:World)(h:w.cell? ⟨b,o+4,none⟩=some (.bool true)):Calls PR 200 #[pq b o] w λe w'=>e = .returned (.bool true)/\w'=w:=by
 refine calls_of_loneTo λcs=>?_;have e:Frame.enter PR 200 #[pq b o] .normal=(base 200).at ⟨#[pq b o,undef,undef,undef,undef,undef,undef,undef,undef,undef,undef,undef,undef,undef,undef,undef,undef,undef,undef,undef,undef,undef,undef,undef,undef],[]⟩ [.code (Tryz.f200.body.getD .skip)]:=by
  simp[Frame.enter,Frame.at,Tryz.func200,base,Tryz.f200]
 rw[e];refine LoneTo.goes (n:=18) ?_;simp only[Tryz.f200,Option.getD_some]
 s_c stepG_seq
 s_reg
 s_op
 s_c stepG_region_end
 s_c stepG_seq
 s_c stepG_seq
 s_reg
 s_op
 s_op
 s_op
 s_op
 s_c stepG_region_end
 s_cond true
 s_c stepG_seq
 s_reg
 s_op
 s_c stepG_region_end
 s_c stepG_ret'
 s_stop
 refine LoneTo.done ⟨.returned (.bool true),_,rfl,⟨rfl,?_⟩,rfl,rfl,rfl,rfl,_,Tryz.func200,by simp[results,Tryz.f200,Frame.at]⟩;rfl
set_option maxRecDepth 100000 in
theorem Tt{b o c cap s r:Nat}{tm:Bool}(w:World)(h:w.cell? ⟨b,o+4,none⟩=some (.bool false))(h0:w.cell? ⟨b,o,none⟩=some (.chan (some c)))(hc:w.heap[c]? = some (.chan cap #[] false s r tm)):Calls PR 200 #[pq b o] w λe w'=>e = .returned (.bool false)/\w'=w:=by
 refine calls_of_loneTo λcs=>?_;have e:Frame.enter PR 200 #[pq b o] .normal=(base 200).at ⟨#[pq b o,undef,undef,undef,undef,undef,undef,undef,undef,undef,undef,undef,undef,undef,undef,undef,undef,undef,undef,undef,undef,undef,undef,undef,undef],[]⟩ [.code (Tryz.f200.body.getD .skip)]:=by
  simp[Frame.enter,Frame.at,Tryz.func200,base,Tryz.f200]
 rw[e];refine LoneTo.goes (n:=24) ?_;simp only[Tryz.f200,Option.getD_some]
 s_c stepG_seq
 s_reg
 s_op
 s_c stepG_region_end
 s_c stepG_seq
 s_c stepG_seq
 s_reg
 s_op
 s_op
 s_op
 s_op
 s_c stepG_region_end
 s_cond false
 s_c stepG_skip
 s_c stepG_seq
 s_c stepG_seq
 s_reg
 s_op
 s_op
 s_op
 s_op
 s_c stepG_region_end
 s_c stepG_seq
 s_reg
 s_stop
 refine LoneTo.step (step_lone_select_default (c:=c) (z:=(.agg #[.i 0,.string ⟨#[]⟩,.i 0])) (cap:=cap) (s:=s) (r:=r) (tm:=tm) (stepG_comm (cases:=#[rcase c (.agg #[.i 0,.string ⟨#[]⟩,.i 0])]) (blocking:=false) (shape:=.select) (w':=w) rfl rfl (by decide) (by simp[go_sem,execOp,rcase,Act.eval])) hc) ?_;rw[Frame.finish_at]
 walk_nrm
 refine LoneTo.goes (n:=18) ?_
 s_op
 s_op
 s_c stepG_region_end
 s_c stepG_block
 s_cond false
 s_c stepG_skip
 s_c stepG_inBlock
 s_c stepG_seq
 s_reg
 s_op
 s_op
 s_op
 s_op
 s_op
 s_c stepG_region_end
 s_c stepG_ret'
 s_stop
 refine LoneTo.done ⟨.returned (.bool false),_,rfl,⟨rfl,?_⟩,rfl,rfl,rfl,rfl,_,Tryz.func200,by simp[results,Tryz.f200,Frame.at]⟩;rfl
def A3r(cs:List Value)(o:Nat)(k:Int)(key:BA)(n:Int):List Value:=(((cs.set (o+1) (.i k)).set (o+1+1) (.string key)).set (o+1+1+1) (.i n)).set (o+4) (.bool true)
set_option maxRecDepth 100000 in
theorem Tu{W w:World}{L:List HP}{b o c cap s r:Nat}{k n:Int}{key:BA}{cs buf:List Value}(hl:o+5<=cs.length)(h:cs[o+4]? = some (.bool false))(h0:cs[o]? = some (.chan (some c)))
  (hs:Ab W w (F6 c (.chan cap (.agg #[.i k,.string key,.i n]::buf).toArray false s r false)::blk b cs::L)):Calls PR 200 #[pq b o] w λe w'=>e = .returned (.bool true)/\Ab W w' (F6 c (.chan cap buf.toArray false s (r+1) false)::blk b (A3r cs o k key n)::L):=by
 have hc:=hs.objC;have h:=(hs.cell (q:=1) rfl).trans h;have h0:=(hs.cell (q:=1) rfl).trans h0;have hs1:=Ab3 (s':=s) (r':=r+1) (B':=buf.toArray) hs;generalize hw1:w.setChan c cap buf.toArray false s (r+1) false=w1 at *;have a1:w1.cell? ⟨b,o+1,none⟩=some cs[o+1]:=(hs1.cell (q:=1) rfl).trans (List.getElem?_eq_getElem (by omega));have f1:=hs1.frozen (q:=1) (b:=b) (o:=o+1) rfl (by omega);have hs2:=hs1.set (q:=1) (b:=b) (o:=o+1) (v:=.i k) rfl;have a2:=(hs2.cell (q:=1) rfl).trans (List.getElem?_eq_getElem (show o+1+1<_ by simp;omega))
 have f2:=hs2.frozen (q:=1) (b:=b) (o:=o+1+1) rfl (by simp;omega);have hs3:=hs2.set (q:=1) (b:=b) (o:=o+1+1) (v:=.string key) rfl;have a3:=(hs3.cell (q:=1) rfl).trans (List.getElem?_eq_getElem (show o+1+2<_ by simp;omega))
 have f3:=hs3.frozen (q:=1) (b:=b) (o:=o+1+2) rfl (by simp;omega);have hs4:=hs3.set (q:=1) (b:=b) (o:=o+1+2) (v:=.i n) rfl;have a4:=(hs4.cell (q:=1) rfl).trans (List.getElem?_eq_getElem (show o+4<_ by simp;omega))
 have f4:=hs4.frozen (q:=1) (b:=b) (o:=o+4) rfl (by simp;omega);have hs5:=hs4.set (q:=1) (b:=b) (o:=o+4) (v:=.bool true) rfl;obtain⟨w5,hw5⟩:∃w5,(((w1.setCell ⟨b,o+1,none⟩ (.i k)).setCell ⟨b,o+1+1,none⟩ (.string key)).setCell ⟨b,o+1+2,none⟩ (.i n)).setCell ⟨b,o+4,none⟩ (.bool true)=w5:=⟨_,rfl⟩;rw[hw5] at hs5;have h4:w5.cell? ⟨b,o+4,none⟩=some (.bool true):=(hs5.cell (q:=1) (o:=o+4) rfl).trans (by rw[List.getElem?_set_self (by simp;omega)])
 have hx:(Value.agg #[.i k,.string key,.i n]::buf).toArray.extract 1 (Value.agg #[.i k,.string key,.i n]::buf).toArray.size=buf.toArray:=by simp
 refine calls_of_loneTo λcs_=>?_;have e:Frame.enter PR 200 #[pq b o] .normal=(base 200).at ⟨#[pq b o,undef,undef,undef,undef,undef,undef,undef,undef,undef,undef,undef,undef,undef,undef,undef,undef,undef,undef,undef,undef,undef,undef,undef,undef],[]⟩ [.code (Tryz.f200.body.getD .skip)]:=by
  simp[Frame.enter,Frame.at,Tryz.func200,base,Tryz.f200]
 rw[e];clear e;refine LoneTo.goes (n:=24) ?_;simp only[Tryz.f200,Option.getD_some]
 s_c stepG_seq
 s_reg
 s_op
 s_c stepG_region_end
 s_c stepG_seq
 s_c stepG_seq
 s_reg
 s_op
 s_op
 s_op
 s_op
 s_c stepG_region_end
 s_cond false
 s_c stepG_skip
 s_c stepG_seq
 s_c stepG_seq
 s_reg
 s_op
 s_op
 s_op
 s_op
 s_c stepG_region_end
 s_c stepG_seq
 s_reg
 s_stop
 refine LoneTo.step (step_lone_select_recv_buf (c:=c) (z:=(.agg #[.i 0,.string ⟨#[]⟩,.i 0])) (stepG_comm (cases:=#[rcase c (.agg #[.i 0,.string ⟨#[]⟩,.i 0])]) (blocking:=false) (shape:=.select) (w':=w) rfl rfl (by decide) (by simp[go_sem,execOp,rcase,Act.eval])) hc (by simp)) ?_;rw[Frame.finish_at,hx,hw1]
 walk_nrm
 refine LoneTo.goes (n:=34) ?_
 s_op
 s_op
 s_c stepG_region_end
 s_c stepG_block
 s_cond true
 s_c stepG_seq
 s_reg
 s_op
 s_op
 s_op
 s_op
 s_op
 s_c stepG_region_end
 s_reg
 s_op
 s_op
 s_op
 s_op
 clear hw5
 s_c stepG_region_end
 s_c stepG_inBlock
 s_c stepG_seq
 s_reg
 s_op
 s_op
 s_op
 s_op
 s_op
 s_c stepG_region_end
 s_c stepG_ret'
 s_stop
 have hs6:=hs5;simp only[List.set_cons_succ,List.set_cons_zero] at hs6;clear hs hs1 hs2 hs3 hs4 hs5 a1 a2 a3 a4 f1 f2 f3 f4 h4;refine LoneTo.done ⟨.returned (.bool true),_,rfl,⟨rfl,by unfold A3r;exact hs6⟩,rfl,rfl,rfl,rfl,_,Tryz.func200,?_⟩
 simp[results,Tryz.f200,Frame.at]
set_option maxRecDepth 100000 in
theorem QV{W w:World}{L:List HP}{b o c cap s r:Nat}{kd n:Int}{key:BA}{cs buf:List Value}(hl:10<cs.length)(h0:cs[o]? = some (.chan (some c)))(hn:cs[10]? = some (.i n))(hr:buf.length<cap)
  (hs:Ab W w (F6 c (.chan cap buf.toArray false s r false)::blk b cs::L)):Calls PR 122 #[pq b 0,pq b o,.i kd,.string key] w λe w'=>e = .returned (.bool true)/\Ab W w' (F6 c (.chan cap (buf++[Value.agg #[.i kd,.string key,.i n]]).toArray false (s+1) r false)::blk b (cs.set 10 (.i (IntKind.wrap .i64 (n+1))))::L):=by
 have hc:=hs.objC;have h0:=(hs.cell (q:=1) rfl).trans h0;have hn0:=(hs.cell (q:=1) rfl).trans hn;have hs1:=Ab3 (s':=s+1) (r':=r) (B':=(buf++[Value.agg #[.i kd,.string key,.i n]]).toArray) hs;have hp:buf.toArray.push (Value.agg #[.i kd,.string key,.i n])=(buf++[Value.agg #[.i kd,.string key,.i n]]).toArray:=by simp
 generalize hw1:w.setChan c cap (buf++[Value.agg #[.i kd,.string key,.i n]]).toArray false (s+1) r false=w1 at *;have a1:=(hs1.cell (q:=1) rfl).trans hn;have f1:=hs1.frozen (q:=1) (b:=b) (o:=10) rfl (by omega);have hs2:=hs1.set (q:=1) (b:=b) (o:=10) (v:=.i (IntKind.wrap .i64 (n+1))) rfl;refine calls_of_loneTo λcs_=>?_;have e:Frame.enter PR 122 #[pq b 0,pq b o,.i kd,.string key] .normal=(base 122).at ⟨#[pq b 0,pq b o,.i kd,.string key,undef,undef,undef,undef,undef,undef,undef,undef,undef,undef,undef,undef,undef,undef,undef,undef,undef,undef,undef,undef,undef,undef,undef,undef,undef,undef,undef],[]⟩ [.code (Tryz.f122.body.getD .skip)]:=by
  simp[Frame.enter,Frame.at,Tryz.func122,base,Tryz.f122]
 rw[e];clear e;refine LoneTo.goes (n:=24) ?_;simp only[Tryz.f122,Option.getD_some]
 s_c stepG_seq
 s_reg
 s_op
 s_c stepG_region_end
 s_c stepG_seq
 s_c stepG_seq
 s_reg
 s_op
 s_op
 s_op
 s_op
 s_c stepG_region_end
 s_reg
 s_op
 s_op
 s_op
 s_op
 s_op
 s_op
 s_op
 s_op
 s_c stepG_region_end
 s_c stepG_seq
 s_reg
 s_stop
 refine LoneTo.step (step_lone_select_send_room (c:=c) (v:=(Value.agg #[.i kd,.string key,.i n])) (z':=(.agg #[.i 0,.string ⟨#[]⟩,.i 0])) (stepG_comm (cases:=#[scase c (Value.agg #[.i kd,.string key,.i n]) (.agg #[.i 0,.string ⟨#[]⟩,.i 0])]) (blocking:=false) (shape:=.select) (w':=w) rfl rfl (by decide) (by simp[go_sem,execOp,scase,Act.eval])) hc (by simpa using hr)) ?_;rw[Frame.finish_at,hp,hw1]
 walk_nrm
 refine LoneTo.goes (n:=30) ?_
 s_op
 s_op
 s_c stepG_region_end
 s_c stepG_block
 s_cond true
 s_c stepG_seq
 s_reg
 s_op
 s_op
 s_op
 s_op
 s_op
 s_op
 s_op
 s_op
 s_c stepG_region_end
 s_c stepG_seq
 s_reg
 s_op
 s_c stepG_region_end
 s_c stepG_ret'
 s_stop
 refine LoneTo.done ⟨.returned (.bool true),_,rfl,⟨rfl,hs2⟩,rfl,rfl,rfl,rfl,_,Tryz.func122,?_⟩;simp[results,Tryz.f122,Frame.at]
set_option maxRecDepth 100000 in
theorem QU{W w:World}{L:List HP}{b o c cap s r:Nat}{kd n:Int}{key:BA}{cs buf:List Value}(h0:cs[o]? = some (.chan (some c)))(hn:cs[10]? = some (.i n))(hr:cap<=buf.length)
  (hs:Ab W w (F6 c (.chan cap buf.toArray false s r false)::blk b cs::L)):Calls PR 122 #[pq b 0,pq b o,.i kd,.string key] w λe w'=>e = .returned (.bool false)/\w'=w:=by
 have hc:=hs.objC;have h0:=(hs.cell (q:=1) rfl).trans h0;have hn0:=(hs.cell (q:=1) rfl).trans hn;refine calls_of_loneTo λcs_=>?_;have e:Frame.enter PR 122 #[pq b 0,pq b o,.i kd,.string key] .normal=(base 122).at ⟨#[pq b 0,pq b o,.i kd,.string key,undef,undef,undef,undef,undef,undef,undef,undef,undef,undef,undef,undef,undef,undef,undef,undef,undef,undef,undef,undef,undef,undef,undef,undef,undef,undef,undef],[]⟩ [.code (Tryz.f122.body.getD .skip)]:=by
  simp[Frame.enter,Frame.at,Tryz.func122,base,Tryz.f122]
 rw[e];clear e;refine LoneTo.goes (n:=24) ?_;simp only[Tryz.f122,Option.getD_some]
 s_c stepG_seq
 s_reg
 s_op
 s_c stepG_region_end
 s_c stepG_seq
 s_c stepG_seq
 s_reg
 s_op
 s_op
 s_op
 s_op
 s_c stepG_region_end
 s_reg
 s_op
 s_op
 s_op
 s_op
 s_op
 s_op
 s_op
 s_op
 s_c stepG_region_end
 s_c stepG_seq
 s_reg
 s_stop
 refine LoneTo.step (step_lone_select_send_full (c:=c) (v:=(Value.agg #[.i kd,.string key,.i n])) (z':=(.agg #[.i 0,.string ⟨#[]⟩,.i 0])) (stepG_comm (cases:=#[scase c (Value.agg #[.i kd,.string key,.i n]) (.agg #[.i 0,.string ⟨#[]⟩,.i 0])]) (blocking:=false) (shape:=.select) (w':=w) rfl rfl (by decide) (by simp[go_sem,execOp,scase,Act.eval])) hc (by simpa using hr)) ?_;rw[Frame.finish_at]
 walk_nrm
 refine LoneTo.goes (n:=30) ?_
 s_op
 s_op
 s_c stepG_region_end
 s_c stepG_block
 s_cond false
 s_c stepG_seq
 s_reg
 s_op
 s_c stepG_region_end
 s_c stepG_ret'
 s_stop
 refine LoneTo.done ⟨.returned (.bool false),_,rfl,⟨rfl,rfl⟩,rfl,rfl,rfl,rfl,_,Tryz.func122,?_⟩;simp[results,Tryz.f122,Frame.at]
end Go.Proofs.YtjipofkjmmpjdaaGreat
namespace Go.Hb
structure Pl(V:Type) where
 is_:Int
 key:BA
 v:V
instance {V:Type} [Inhabited V]:Inhabited (Pl V):=⟨⟨0,⟨#[]⟩,default⟩⟩
def Cr{V:Type}(RV:Rec V):Rec (Pl V):=⟨2+RV.sz,λp=>.i p.is_::.s p.key::RV.cells p.v,λp=>by simp[RV.len];omega⟩
instance {V:Type} {RV:Rec V}:GR (Cr RV):=⟨by show 0<2+_;omega⟩
section
variable{V:Type}[Inhabited V]
def Bq(ps:List (Pl V))(i:Nat):Int:=(ps.getD i default).is_
def Dy(ps:List (Pl V))(i:Nat):BA:=(ps.getD i default).key
def AB(ps:List (Pl V))(k:BA):Nat->Option Nat->Nat->Nat×Bool
 | 0,_,i=>(i,false)
 | f+1,free,i=>
  if Bq ps i=2/\Dy ps i=k then (i,true)
  else if Bq ps i=1/\free=none then AB ps k f (some i) ((i+1) % ps.length)
  else if Bq ps i=0 then (free.getD i,false)
  else AB ps k f free ((i+1) % ps.length)
def SX(ps:List (Pl V))(k:BA)(i:Nat):Prop:=Bq ps i=2/\Dy ps i=k
theorem DG(i e n:Nat):((i+1) % n+e) % n=(i+(e+1)) % n:=by
 rw[Nat.mod_add_mod];congr 1;omega
theorem J8(ps:List (Pl V))(k:BA):∀(f:Nat)(free:Option Nat)(i:Nat),i<ps.length->(AB ps k f free i).2=true->SX ps k (AB ps k f free i).1/\(AB ps k f free i).1<ps.length
 | 0,_,_,_,h=>by simp[AB] at h
 | f+1,free,i,hi,h=>by
  have hm:(i+1) % ps.length<ps.length:=Nat.mod_lt _ (by omega);unfold AB at h ⊢;split at h
  ·rename_i h1;rw[if_pos h1];exact⟨h1,hi⟩
  ·rename_i h1;rw[if_neg h1]
   split at h
   ·rename_i h2;rw[if_pos h2];exact J8 ps k f _ _ hm h
   ·rename_i h2;rw[if_neg h2]
    split at h
    ·simp at h
    ·rename_i h3;rw[if_neg h3];exact J8 ps k f _ _ hm h
theorem It(ps:List (Pl V))(k:BA):∀(f:Nat)(free:Option Nat)(i:Nat),i<ps.length->(∃e,e<f/\Bq ps ((i+e) % ps.length)=0)->(AB ps k f free i).2=false ->
  ∃d,Bq ps ((i+d) % ps.length)=0/\(∀e,e<d->Bq ps ((i+e) % ps.length)≠0/\¬SX ps k ((i+e) % ps.length)) /\
   (∀j,free=some j->(AB ps k f free i).1=j)/\(free=none->∃e,e<=d/\(AB ps k f free i).1=(i+e) % ps.length/\Bq ps ((i+e) % ps.length)≠2)
 | 0,_,_,_,⟨e,he,_⟩,_=>by omega
 | f+1,free,i,hi,⟨e,he,hz⟩,h=>by
  have hm:(i+1) % ps.length<ps.length:=Nat.mod_lt _ (by omega);have hi0:(i+0) % ps.length=i:=by rw[Nat.add_zero,Nat.mod_eq_of_lt hi]
  have next:Bq ps i≠0->∃e',e'<f/\Bq ps (((i+1) % ps.length+e') % ps.length)=0:=by
   intro hne;cases e with
   | zero=>rw[hi0] at hz;exact absurd hz hne
   | succ e=>exact⟨e,by omega,by rw[DG];exact hz⟩
  unfold AB at h ⊢;split at h
  ·simp at h
  rename_i h1;rw[if_neg h1];split at h
  ·rename_i h2;rw[if_pos h2];obtain⟨d,d1,d2,d3,d4⟩:=It ps k f (some i) _ hm (next (by rw[h2.1];decide)) h
   refine⟨d+1,by rw[DG] at d1;exact d1,λe he=>?_,λj hj=>(by rw[h2.2] at hj;cases hj),λ_=>?_⟩
   ·cases e with
    | zero=>rw[hi0];exact⟨by rw[h2.1];decide,h1⟩
    | succ e=>have:=d2 e (by omega);rw[DG] at this;exact this
   ·exact⟨0,by omega,by rw[hi0];exact d3 i rfl,by rw[hi0,h2.1];decide⟩
  ·rename_i h2;rw[if_neg h2];split at h
   ·rename_i h3;rw[if_pos h3];refine⟨0,by rw[hi0];exact h3,λe he=>by omega,λj hj=>by rw[hj];rfl,λhf=>⟨0,by omega,by rw[hf,hi0];rfl,by rw[hi0,h3];decide⟩⟩
   ·rename_i h3;rw[if_neg h3];obtain⟨d,d1,d2,d3,d4⟩:=It ps k f free _ hm (next h3) h;refine⟨d+1,by rw[DG] at d1;exact d1,λe he=>?_,d3,λhf=>?_⟩
    ·cases e with
     | zero=>rw[hi0];exact⟨h3,h1⟩
     | succ e=>have:=d2 e (by omega);rw[DG] at this;exact this
    ·obtain⟨e,e1,e2,e3⟩:=d4 hf;exact⟨e+1,by omega,by rw[e2,DG],by rw[DG] at e3;exact e3⟩
def Em(p:Pl V):List (BA×V):=if p.is_=2 then [(p.key,p.v)] else []
theorem Fs{p:Pl V}(h:p.is_=2):Em p=[(p.key,p.v)]:=if_pos h
theorem Hl{p:Pl V}(h:p.is_≠2):Em p=[]:=if_neg h
def AP(ps:List (Pl V)):List (BA×V):=ps.flatMap Em
theorem B0(a b:List (Pl V)):AP (a++b)=AP a++AP b:=by simp[AP]
theorem QI{α:Type}[Inhabited α]{l:List α}{i:Nat}(h:i<l.length):l=l.take i++l.getD i default::l.drop (i+1):=by
 rw[List.getD_eq_getElem?_getD,List.getElem?_eq_getElem h];simp
theorem LA{α:Type}{l:List α}{i:Nat}(h:i<l.length)(a:α):l.set i a=l.take i++a::l.drop (i+1):=by
 rw[List.set_eq_take_append_cons_drop,if_pos h]
theorem PE{ps:List (Pl V)}{i:Nat}(h:i<ps.length):(AP ps).Perm (Em (ps.getD i default)++AP (ps.take i++ps.drop (i+1))):=by
 have:AP ps=AP (ps.take i)++(Em (ps.getD i default)++AP (ps.drop (i+1))):=by
  conv=>lhs;rw[QI h]
  rw[B0];rfl
 rw[this,B0];rw[<- List.append_assoc,<- List.append_assoc];exact List.Perm.append_right _ List.perm_append_comm
theorem Lq{ps:List (Pl V)}{i:Nat}(h:i<ps.length)(p:Pl V):(AP (ps.set i p)).Perm (Em p++AP (ps.take i++ps.drop (i+1))):=by
 have:AP (ps.set i p)=AP (ps.take i)++(Em p++AP (ps.drop (i+1))):=by
  rw[LA h,B0];rfl
 rw[this,B0];rw[<- List.append_assoc,<- List.append_assoc];exact List.Perm.append_right _ List.perm_append_comm
def A7(ps:List (Pl V)):Nat:=ps.countP λp=>decide (p.is_≠0)
theorem Bj{ps:List (Pl V)}{i:Nat}(h:i<ps.length)(p:Pl V)(hp:p.is_≠0):A7 (ps.set i p)=A7 ps+(if Bq ps i=0 then 1 else 0):=by
 have h1:A7 ps=A7 (ps.take i)+((if Bq ps i=0 then 0 else 1)+A7 (ps.drop (i+1))):=by
  conv=>lhs;rw[QI h]
  unfold A7 Bq;rw[List.countP_append,List.countP_cons]
  by_cases h0:(ps.getD i default).is_=0 <;> simp[h0] <;> omega
 have h2:A7 (ps.set i p)=A7 (ps.take i)+(1+A7 (ps.drop (i+1))):=by
  rw[LA h];unfold A7;rw[List.countP_append,List.countP_cons];simp[hp];omega
 rw[h1,h2];split <;> omega
theorem Zd{ps:List (Pl V)}(h:A7 ps<ps.length):∃i,i<ps.length/\Bq ps i=0:=by
 unfold A7 at h
 induction ps with
 | nil=>simp at h
 | cons p ps ih=>
  by_cases hp:p.is_=0
  ·exact⟨0,by simp,hp⟩
  ·rw[List.countP_cons,if_pos (by simp[hp])] at h;simp only[List.length_cons] at h;obtain⟨i,hi,hz⟩:=ih (by omega);exact⟨i+1,by simpa using hi,hz⟩
theorem PM{ps:List (Pl V)}{i j:Nat}(h:i<ps.length)(p:Pl V):Bq (ps.set i p) j=if j=i then p.is_ else Bq ps j:=by
 unfold Bq;rw[List.getD_eq_getElem?_getD,List.getElem?_set,List.getD_eq_getElem?_getD]
 by_cases e:i=j
 ·subst e;simp[h]
 ·rw[if_neg e,if_neg (Ne.symm e)]
theorem Ta{ps:List (Pl V)}{i j:Nat}(h:i<ps.length)(p:Pl V):Dy (ps.set i p) j=if j=i then p.key else Dy ps j:=by
 unfold Dy;rw[List.getD_eq_getElem?_getD,List.getElem?_set,List.getD_eq_getElem?_getD]
 by_cases e:i=j
 ·subst e;simp[h]
 ·rw[if_neg e,if_neg (Ne.symm e)]
structure BW(st:BA->Nat)(ps:List (Pl V))(m:List (BA×V)):Prop where
 big:8<=ps.length
 small:ps.length<4611686018427387904
 start:∀k,st k<ps.length
 perm:(AP ps).Perm m
 nodup:(m.map (·.1)).Nodup
 reach:∀i,i<ps.length->Bq ps i=2->∃e,i=(st (Dy ps i)+e) % ps.length/\∀e',e'<e->Bq ps ((st (Dy ps i)+e') % ps.length)≠0
 room:A7 ps<ps.length
section
variable{st:BA->Nat}{ps:List (Pl V)}{m:List (BA×V)}
theorem BW.stop(h:BW st ps m)(k:BA):∃e,e<ps.length/\Bq ps ((st k+e) % ps.length)=0:=by
 obtain⟨i,hi,hz⟩:=Zd h.room;have hs:=h.start k
 by_cases hle:st k<=i
 ·exact⟨i-st k,by omega,by rw[show st k+(i-st k)=i by omega,Nat.mod_eq_of_lt hi];exact hz⟩
 ·refine⟨i+ps.length-st k,by omega,?_⟩;rw[show st k+(i+ps.length-st k)=i+ps.length by omega,Nat.add_mod_right,Nat.mod_eq_of_lt hi];exact hz
def AI(st:BA->Nat)(ps:List (Pl V))(k:BA):Nat×Bool:=AB ps k ps.length none (st k)
theorem Aov{i:Nat}(hi:i<ps.length)(h2:Bq ps i=2):(Dy ps i,(ps.getD i default).v)∈AP ps:=by
 refine(PE hi).symm.subset ?_;have:Em (ps.getD i default)=[(Dy ps i,(ps.getD i default).v)]:=Fs h2;rw[this];simp
theorem Anz{e:BA×V}(h:e∈AP ps):∃i,i<ps.length/\Bq ps i=2/\Dy ps i=e.1/\(ps.getD i default).v=e.2:=by
 unfold AP at h;rw[List.mem_flatMap] at h;obtain⟨p,hp,he⟩:=h;obtain⟨i,hi,rfl⟩:=List.mem_iff_getElem.1 hp;unfold Em at he;split at he
 ·rename_i h2;simp only[List.mem_singleton] at he;have hg:ps.getD i default=ps[i]:=by rw[List.getD_eq_getElem?_getD,List.getElem?_eq_getElem hi];rfl
  refine⟨i,hi,by unfold Bq;rw[hg];exact h2,by unfold Dy;rw[hg,he],by rw[hg,he]⟩
 ·cases he
def AD(m:List (BA×V))(k:BA):Option V:=(m.find? λe=>decide (e.1=k)).map (·.2)
theorem By{k:BA}{v:V}(hn:(m.map (·.1)).Nodup):AD m k=some v↔(k,v)∈m:=by
 unfold AD
 induction m with
 | nil=>simp
 | cons e m ih=>
  simp only[List.map_cons,List.nodup_cons] at hn;rw[List.find?_cons]
  by_cases he:e.1=k
  ·subst he;simp only[decide_true,Option.map_some,Option.some.injEq];constructor
   ·rintro rfl;simp
   ·intro h;rcases List.mem_cons.1 h with h|h
    ·exact(congrArg Prod.snd h).symm
    ·exact absurd (List.mem_map_of_mem (f:=(·.1)) h) hn.1
  ·simp only[he,decide_false];rw[ih hn.2];constructor
   ·exact λh=>List.mem_cons_of_mem _ h
   ·intro h;rcases List.mem_cons.1 h with h|h
    ·subst h;exact absurd rfl he
    ·exact h
theorem Bs{k:BA}:AD m k=none↔∀e∈m,e.1≠k:=by
 unfold AD;simp
theorem Agr{m':List (BA×V)}(hn:(m.map (·.1)).Nodup)(hp:m.Perm m')(k:BA):AD m k=AD m' k:=by
 have hn':(m'.map (·.1)).Nodup:=(hp.map _).nodup_iff.1 hn;cases h:AD m k with
 | some v=>exact((By hn').2 (hp.subset ((By hn).1 h))).symm
 | none=>exact(Bs.2 λe he=>Bs.1 h e (hp.symm.subset he)).symm
theorem BW.hit(h:BW st ps m){k:BA}(hf:(AI st ps k).2=true):(AI st ps k).1<ps.length/\SX ps k (AI st ps k).1/\AD m k=some (ps.getD (AI st ps k).1 default).v:=by
 obtain⟨h1,h2⟩:=J8 ps k ps.length none (st k) (h.start k) hf;refine⟨h2,h1,(By h.nodup).2 ?_⟩;have:=Aov (i:=(AI st ps k).1) h2 h1.1;rw[show Dy ps (AI st ps k).1=k from h1.2] at this;exact h.perm.subset this
theorem BW.miss(h:BW st ps m){k:BA}(hf:(AI st ps k).2=false):(AI st ps k).1<ps.length/\Bq ps (AI st ps k).1≠2/\AD m k=none /\
  ∃e,(AI st ps k).1=(st k+e) % ps.length/\∀e',e'<e->Bq ps ((st k+e') % ps.length)≠0:=by
 obtain⟨d,d1,d2,_,d4⟩:=It ps k ps.length none (st k) (h.start k) (h.stop k) hf;obtain⟨e,e1,e2,e3⟩:=d4 rfl;have hp:0<ps.length:=by have:=h.big;omega
 have hfe:(AI st ps k).1=(st k+e) % ps.length:=e2;refine⟨by rw[hfe];exact Nat.mod_lt _ hp,by rw[hfe];exact e3,?_,e,hfe,λe' he'=>(d2 e' (by omega)).1⟩
 rw[Bs];intro x hx hk;obtain⟨i,hi,i2,ik,_⟩:=Anz (h.perm.symm.subset hx);obtain⟨a,a1,a2⟩:=h.reach i hi i2;rw[ik,hk] at a1 a2
 by_cases hda:d<a
 ·exact a2 d hda d1
 ·by_cases hde:d=a
  ·subst hde;rw[<- a1,i2] at d1;cases d1
  ·have:=(d2 a (by omega)).2;rw[<- a1] at this;exact this ⟨i2,by rw[ik,hk]⟩
def E6(m:List (BA×V))(k:BA)(v:V):List (BA×V):=m.map λe=>if e.1=k then (k,v) else e
def BI(m:List (BA×V))(k:BA):List (BA×V):=m.filter λe=>decide (e.1≠k)
def Ch(m:List (BA×V))(k:BA)(v:V):List (BA×V):=match AD m k with
 | some _=>E6 m k v
 | none=>(k,v)::m
theorem L2(m:List (BA×V))(k:BA)(v:V):(E6 m k v).map (·.1)=m.map (·.1):=by
 unfold E6;rw[List.map_map];apply List.map_congr_left;intro e _;simp only[Function.comp];split
 ·rename_i h;exact h.symm
 ·rfl
theorem YG{j:Nat}{k:BA}(hj:j<ps.length)(hit:SX ps k j)(hp:(AP ps).Perm m):((k,(ps.getD j default).v)::AP (ps.take j++ps.drop (j+1))).Perm m:=by
 have h1:=(PE hj).symm.trans hp;have:Em (ps.getD j default)=[(k,(ps.getD j default).v)]:=by rw[<- hit.2];exact Fs hit.1
 rw[this] at h1;exact h1
theorem BW.set(h:BW st ps m){k:BA}{v:V}{j:Nat}(hj:j<ps.length)(hit:SX ps k j):BW st (ps.set j { ps.getD j default with v:=v }) (E6 m k v):=by
 have h0:=YG hj hit h.perm;have hn:=(h0.map (·.1)).nodup_iff.2 h.nodup;simp only[List.map_cons,List.nodup_cons] at hn;have hset:(AP (ps.set j { ps.getD j default with v:=v })).Perm ((k,v)::AP (ps.take j++ps.drop (j+1))):=by
  have:=Lq hj { ps.getD j default with v:=v };have e:Em { ps.getD j default with v:=v }=[(k,v)]:=by rw[<- hit.2];exact Fs (p:={ ps.getD j default with v:=v }) hit.1
  rw[e] at this;exact this
 have hm:(E6 m k v).Perm ((k,v)::AP (ps.take j++ps.drop (j+1))):=by
  have h1:(E6 m k v).Perm (E6 ((k,(ps.getD j default).v)::AP (ps.take j++ps.drop (j+1))) k v):=(h0.map _).symm;refine h1.trans ?_;unfold E6;rw[List.map_cons,if_pos rfl];rw[List.map_congr_left (g:=id) (λe he=>?_),List.map_id];rw[if_neg];rfl
  intro hk;exact hn.1 (by rw[<- hk];exact List.mem_map_of_mem he)
 have hi:∀x,Bq (ps.set j { ps.getD j default with v:=v }) x=Bq ps x:=by
  intro x;rw[PM hj];split
  ·rename_i e;subst e;rfl
  ·rfl
 have hk:∀x,Dy (ps.set j { ps.getD j default with v:=v }) x=Dy ps x:=by
  intro x;rw[Ta hj];split
  ·rename_i e;subst e;rfl
  ·rfl
 refine⟨by rw[List.length_set];exact h.big,by rw[List.length_set];exact h.small,by rw[List.length_set];exact h.start,hset.trans hm.symm,by rw[L2];exact h.nodup,?_,?_⟩
 ·intro i hil h2;rw[List.length_set] at hil ⊢;rw[hi] at h2;simp only[hi,hk];exact h.reach i hil h2
 ·rw[Bj hj _ (by show Bq ps j≠0;rw[hit.1];decide),List.length_set,if_neg (by rw[hit.1];decide)];exact h.room
theorem T3{p:Pl V}{j:Nat}(h:BW st ps m)(hj:j<ps.length)(hp:p.is_≠0)(hnew:p.is_=2->∃e,j=(st p.key+e) % ps.length/\∀e',e'<e->Bq ps ((st p.key+e') % ps.length)≠0) :
  ∀i,i<(ps.set j p).length->Bq (ps.set j p) i=2->∃e,i=(st (Dy (ps.set j p) i)+e) % (ps.set j p).length/\∀e',e'<e->Bq (ps.set j p) ((st (Dy (ps.set j p) i)+e') % (ps.set j p).length)≠0:=by
 intro i hi h2;rw[List.length_set] at hi ⊢;have mono:∀x,Bq ps x≠0->Bq (ps.set j p) x≠0:=by
  intro x hx;rw[PM hj];split
  ·exact hp
  ·exact hx
 rw[PM hj] at h2;rw[Ta hj]
 by_cases e:i=j
 ·subst e;rw[if_pos rfl] at h2 ⊢;obtain⟨e,e1,e2⟩:=hnew h2;exact⟨e,e1,λe' he'=>mono _ (e2 e' he')⟩
 ·rw[if_neg e] at h2 ⊢;obtain⟨e,e1,e2⟩:=h.reach i hi h2;exact⟨e,e1,λe' he'=>mono _ (e2 e' he')⟩
theorem BW.add(h:BW st ps m){k:BA}{v:V}{j:Nat}(hj:j<ps.length)(h2:Bq ps j≠2)(hno:AD m k=none)
  (hr:∃e,j=(st k+e) % ps.length/\∀e',e'<e->Bq ps ((st k+e') % ps.length)≠0) (hroom:A7 ps+1<ps.length):BW st (ps.set j ⟨2,k,v⟩) ((k,v)::m):=by
 have hfull:(AP (ps.set j ⟨2,k,v⟩)).Perm ((k,v)::m):=by
  have h1:=Lq hj (⟨2,k,v⟩:Pl V);have h3:=(PE hj).symm.trans h.perm;have e1:Em (⟨2,k,v⟩:Pl V)=[(k,v)]:=rfl;have e2:Em (ps.getD j default)=[]:=Hl h2;rw[e1] at h1;rw[e2,List.nil_append] at h3;exact h1.trans (List.Perm.cons _ h3)
 refine⟨by rw[List.length_set];exact h.big,by rw[List.length_set];exact h.small,by rw[List.length_set];exact h.start,hfull,?_,T3 h hj (by show(2:Int)≠0;decide) (λ_=>hr),?_⟩
 ·rw[List.map_cons,List.nodup_cons];refine⟨λhm=>?_,h.nodup⟩;rw[List.mem_map] at hm;obtain⟨e,he,hk⟩:=hm;exact Bs.1 hno e he hk
 ·rw[Bj hj _ (by show(2:Int)≠0;decide),List.length_set];split <;> omega
theorem BW.del(h:BW st ps m){k:BA}{z:Pl V}{j:Nat}(hj:j<ps.length)(hit:SX ps k j)(hz:z.is_=1):BW st (ps.set j z) (BI m k):=by
 have h0:=YG hj hit h.perm;have hn:=(h0.map (·.1)).nodup_iff.2 h.nodup;simp only[List.map_cons,List.nodup_cons] at hn;have hset:(AP (ps.set j z)).Perm (AP (ps.take j++ps.drop (j+1))):=by
  have:=Lq hj z;have e:Em z=[]:=by unfold Em;rw[if_neg (by rw[hz];decide)]
  rw[e] at this;exact this
 have hm:(BI m k).Perm (AP (ps.take j++ps.drop (j+1))):=by
  have h1:(BI m k).Perm (BI ((k,(ps.getD j default).v)::AP (ps.take j++ps.drop (j+1))) k):=(h0.filter _).symm;refine h1.trans ?_;unfold BI;rw[List.filter_cons_of_neg (by simp)];rw[List.filter_eq_self.2];intro e he;simp only[ne_eq,decide_not,Bool.not_eq_eq_eq_not,Bool.not_true,decide_eq_false_iff_not];intro hk;exact hn.1 (by rw[<- hk];exact List.mem_map_of_mem he)
 refine⟨by rw[List.length_set];exact h.big,by rw[List.length_set];exact h.small,by rw[List.length_set];exact h.start,hset.trans hm.symm,?_,T3 h hj (by rw[hz];decide) (λh2=>by rw[hz] at h2;cases h2),?_⟩
 ·exact(List.Nodup.sublist ((List.filter_sublist).map _) h.nodup)
 ·rw[Bj hj _ (by rw[hz];decide),List.length_set,if_neg (by rw[hit.1];decide)];exact h.room
theorem KF(hn:(m.map (·.1)).Nodup){k:BA}{v:V}(h:AD m k=some v):(BI m k).length+1=m.length:=by
 have hm:=(By hn).1 h;obtain⟨a,b,rfl⟩:=List.append_of_mem hm;unfold BI;simp only[List.map_append,List.map_cons] at hn;rw[List.nodup_append] at hn;simp only[List.nodup_cons] at hn;rw[List.filter_append,List.filter_cons_of_neg (by simp),List.filter_eq_self.2,List.filter_eq_self.2]
 ·simp;omega
 ·intro e he;simp only[ne_eq,decide_not,Bool.not_eq_eq_eq_not,Bool.not_true,decide_eq_false_iff_not];rintro rfl;exact hn.2.1.1 (List.mem_map_of_mem he)
 ·intro e he;simp only[ne_eq,decide_not,Bool.not_eq_eq_eq_not,Bool.not_true,decide_eq_false_iff_not];rintro rfl;exact hn.2.2 _ (List.mem_map_of_mem he) e.1 (by simp) rfl
theorem BW.new{n:Nat}{z:Pl V}(hz:z.is_=0)(h8:8<=n)(hn:n<4611686018427387904)(hst:∀k,st k<n):BW st (List.replicate n z) []:=by
 have hu:A7 (List.replicate n z)=0:=by
  unfold A7;rw[List.countP_eq_zero]
  intro a ha;rw[List.eq_of_mem_replicate ha];simp[hz]
 refine⟨by simpa using h8,by simpa using hn,by simpa using hst,?_,by simp,?_,by rw[hu];simp;omega⟩
 ·have:AP (List.replicate n z)=[]:=by
   unfold AP;rw[List.flatMap_eq_nil_iff]
   intro a ha;rw[List.eq_of_mem_replicate ha];unfold Em;rw[if_neg (by rw[hz];decide)]
  rw[this]
 ·intro i hi h2;rw[List.length_replicate] at hi;unfold Bq at h2;rw[List.getD_eq_getElem?_getD,List.getElem?_eq_getElem (by simpa using hi)] at h2;simp only[List.getElem_replicate,Option.getD_some,hz] at h2;cases h2
end
end
end Go.Hb
namespace Go.Hb
def Abc(x0:Int):Int:=
 (bits .xor .u64 (IntKind.wrap .u64 ((bits .xor .u64 (IntKind.wrap .u64 ((bits .xor .u64 x0 (C8 .u64 x0 (30:Int)))*(13787848793156543929:Int))) (C8 .u64 (IntKind.wrap .u64 ((bits .xor .u64 x0 (C8 .u64 x0 (30:Int)))*(13787848793156543929:Int))) (27:Int)))*(10723151780598845931:Int))) (C8 .u64 (IntKind.wrap .u64 ((bits .xor .u64 (IntKind.wrap .u64 ((bits .xor .u64 x0 (C8 .u64 x0 (30:Int)))*(13787848793156543929:Int))) (C8 .u64 (IntKind.wrap .u64 ((bits .xor .u64 x0 (C8 .u64 x0 (30:Int)))*(13787848793156543929:Int))) (27:Int)))*(10723151780598845931:Int))) (31:Int)))
theorem Ad3(x:Int):0<=Abc x/\Abc x<=18446744073709551615:=by
 have h:(Lit.int .u64 (Abc x)).wf=true:=wf_bits _ _ _ _;generalize Abc x=n at h;simpa[Lit.wf,IntKind.min,IntKind.max,IntKind.signed,IntKind.bits] using h
def PK(s:BA):Nat->Nat->Int->Int
 | 0,_,h=>h
 | m+1,i,h=>PK s m (i+1) (Abc (IntKind.wrap .u64 ((bits .xor .u64 h (IntKind.wrap .u64 (AU s i)))+(11400714819323198485:Int))))
def Yq(seed:Int)(s:BA):Int:=PK s s.size 0 (Abc (bits .xor .u64 seed (IntKind.wrap .u64 (s.size:Int))))
noncomputable def EH(seed:Int)(s:BA):Int:=Classical.choose (⟨Yq seed s,rfl⟩:∃x,x=Yq seed s)
theorem Yp(seed:Int)(s:BA):EH seed s=Yq seed s:=Classical.choose_spec (⟨Yq seed s,rfl⟩:∃x,x=Yq seed s)
theorem SW(s:BA):∀(m i:Nat)(h:Int),(0<=h/\h<=18446744073709551615)->0<=PK s m i h/\PK s m i h<=18446744073709551615
 | 0,_,_,h=>h
 | m+1,i,_,_=>SW s m (i+1) _ (Ad3 _)
theorem FR(seed:Int)(s:BA):0<=EH seed s/\EH seed s<=18446744073709551615:=by
 rw[Yp];exact SW s _ _ _ (Ad3 _)
noncomputable def Az(seed:Int)(n:Nat)(k:BA):Nat:=(EH seed k).toNat % n
theorem Jh(seed:Int)(n:Nat)(k:BA):(EH seed k).toNat % n=Az seed n k:=by unfold Az;rfl
theorem CA{seed:Int}{n:Nat}(h:0<n)(k:BA):Az seed n k<n:=Nat.mod_lt _ h
def Rec.ii:Rec (Int×Int):=⟨2,λv=>[.i v.1,.i v.2],λ_=>rfl⟩
def Rec.iii:Rec (Int×Int×Int):=⟨3,λv=>[.i v.1,.i v.2.1,.i v.2.2],λ_=>rfl⟩
def Rec.si:Rec (BA×Int):=⟨2,λv=>[.s v.1,.i v.2],λ_=>rfl⟩
def Lp:Option Nat->Int
 | some j=>(j:Int)
 | none=>-1
theorem Gp(f:Option Nat):Lp f<0↔f=none:=by
 cases f with
 | none=>simp[Lp]
 | some j=>simp[Lp]
section
variable{V:Type}[Inhabited V]
noncomputable def ixr(RV:Rec V)(b:Nat)(seed:Int)(m:List (BA×V)):HP:=
 JX λ(x:Sl×List (Pl V))=>EC (BW (Az seed x.2.length) x.2 m/\2*A7 x.2<=x.2.length)
  (AH [blk b [.int .u64 seed,.l x.1.a x.1.n x.1.c,.i (m.length:Int),.i (A7 x.2:Int)],recs (Cr RV) x.1 x.2])
variable{RV:Rec V}{b:Nat}{seed:Int}{m:List (BA×V)}{W w:World}{M L:List HP}
instance At.ixr:At (ixr RV b seed m::L) b (ixr RV b seed m) (λx=>x::L):=⟨DX⟩
theorem Cx(h:Ab W w (ixr RV b seed m::M)):∃(s:Sl) (ps:List (Pl V)),BW (Az seed ps.length) ps m/\2*A7 ps<=ps.length/\s.n=ps.length /\
  Ab W w (blk b [.int .u64 seed,.l s.a s.n s.c,.i (m.length:Int),.i (A7 ps:Int)]::recs (Cr RV) s ps::M):=by
 obtain⟨⟨s,ps⟩,h⟩:=h.openE;obtain⟨⟨h1,h2⟩,h⟩:=h.openA;have h:=h.openL;have h:Ab W w (blk b [.int .u64 seed,.l s.a s.n s.c,.i (m.length:Int),.i (A7 ps:Int)]::recs (Cr RV) s ps::M):=h;exact⟨s,ps,h1,h2,(Bw (s:=s) h (GR.pos)).1,h⟩
theorem AV(s:Sl){ps:List (Pl V)}{n u:Int}(h1:BW (Az seed ps.length) ps m)(h2:2*A7 ps<=ps.length)(hn:n=m.length)(hu:u=A7 ps)
  (h:Ab W w (blk b [.int .u64 seed,.l s.a s.n s.c,.i n,.i u]::recs (Cr RV) s ps::M)):Ab W w (ixr RV b seed m::M):=by
 subst hn hu;exact Ab.shutE (s,ps) (Ab.shutA ⟨h1,h2⟩ (Ab.shutL (Ps:=[_,_]) h))
theorem BW.perm'{st:BA->Nat}{ps:List (Pl V)}{m m':List (BA×V)}(h:BW st ps m)(hp:m.Perm m'):BW st ps m':=
 ⟨h.big,h.small,h.start,h.perm.trans hp,(hp.map _).nodup_iff.1 h.nodup,h.reach,h.room⟩
theorem An8{m':List (BA×V)}(hp:m.Perm m')(h:Ab W w (ixr RV b seed m::M)):Ab W w (ixr RV b seed m'::M):=by
 obtain⟨s,ps,h1,h2,_,h⟩:=Cx h;exact AV s (h1.perm' hp) h2 (by rw[hp.length_eq]) rfl h
theorem Af7(h:Ab W w (ixr RV b seed m::M)):(m.map (·.1)).Nodup:=by
 obtain⟨s,ps,h1,_⟩:=Cx h;exact h1.nodup
theorem DI{α:Type}(E:Rec α)(z:α):∀n,Da (E.cells z) n=E.flat (List.replicate n z)
 | 0=>rfl
 | n+1=>by rw[Da,DI E z n,List.replicate_succ];rfl
theorem VC{α:Type}[Inhabited α]{E:Rec α}{b o i n j:Nat}{s:Sl}{rows:List α}{F:HP->List HP}{vs pre mid tl:List Value}{a':α}{K:WP}(h:Ab W w L)[hA:At L b (reca E b o s rows) F](hn:n=E.sz)(hi:i<rows.length)
  (ha:E.cells (rows.getD i default)=pre++mid++tl) (hj:pre.length=j) (hm:mid.length=vs.length) (ha':E.cells a'=pre++vs++tl) (hK:∀w',Ab W w' (F (reca E b o s (rows.set i a')))->K w'):sts vs b (o+i*n+j) K w:=by
 subst hn hj;refine At.one (hA:=hA) h λM h hb=>?_;have hsa:s.a=some ⟨b,o,none⟩:=h.pure (q:=0) rfl λ_ hg=>hg.1;have h':=h.turn (q:=0) (p':=recs E s rows) rfl λ_ hg=>hg.2;obtain⟨pr,tl2,hp,hl,hn,ht,h2⟩:=h'.openS (q:=0) rfl hsa;have h2:Ab W w (blk b (pr++E.flat rows++tl2)::M):=h2;have hr:rows=rows.take i++rows.getD i default::rows.drop (i+1):=QI hi;have hfr:E.flat rows=E.flat (rows.take i)++(E.cells (rows.getD i default)++E.flat (rows.drop (i+1))):=by
  have h:=congrArg E.flat hr;rw[Rec.flat_append] at h;exact h
 have hfs:E.flat (rows.set i a')=E.flat (rows.take i)++(E.cells a'++E.flat (rows.drop (i+1))):=by
  rw[LA hi,Rec.flat_append];rfl
 rw[hfr,ha] at h2;have e1:pr++(E.flat (rows.take i)++(pre++mid++tl++E.flat (rows.drop (i+1))))++tl2=(pr++E.flat (rows.take i)++pre)++mid++(tl++E.flat (rows.drop (i+1))++tl2):=by simp only[List.append_assoc]
 have e2:pr++(E.flat (rows.take i)++(pre++vs++tl++E.flat (rows.drop (i+1))))++tl2=(pr++E.flat (rows.take i)++pre)++vs++(tl++E.flat (rows.drop (i+1))++tl2):=by simp only[List.append_assoc]
 rw[e1] at h2;have hpl:(pr++E.flat (rows.take i)++pre).length=o+i*E.sz+pre.length:=by
  rw[List.length_append,List.length_append,hp,Rec.flat_length,List.length_take,Nat.min_eq_left (by omega)]
 rw[<- hpl];refine OU 0 vs w _ _ mid _ K h2 rfl hm λw' h3=>hK w' (hb _ _ ?_);have h3:Ab W w' (blk b ((pr++E.flat (rows.take i)++pre)++vs++(tl++E.flat (rows.drop (i+1))++tl2))::M):=h3;rw[<- e2,<- ha',<- hfs] at h3;have h4:=h3.shutS (q:=0) (s:=s) (sz:=E.sz) rfl hsa hp (by rw[Rec.flat_length,List.length_set,<- Rec.flat_length];exact hl) hn ht
 exact h4.turn (q:=0) rfl λ_ hg=>⟨hsa,hg⟩
end
end Go.Hb
namespace Go.Hb
open Go.Sort Go.Proofs
section
variable{W0 w w':World}{L M:List HP}{F:HP->List HP}{b:Nat}
theorem Ab.write{cs cs':List Value}(h:Ab W0 w (blk b cs::M))(ho:w'.os=w.os)(hu:w'.output=w.output)(hoth:∀x o,x≠b->w.heap[x]? = some o->w'.heap[x]? = some o)
  (hb:∀T fr,w.heap[b]? = some (.cells cs.toArray T fr)->w'.heap[b]? = some (.cells cs'.toArray T fr)) (hl:cs'.length=cs.length):Ab W0 w' (blk b cs'::M):=by
 obtain⟨h1,h2,ha,hb2,hc,⟨T,lo,hi,hd,hf⟩,he⟩:=h.st;have hwb:w.heap[b]? = some (.cells cs.toArray T (lo,hi)):=ha _ _ hd;have hnew:=hb _ _ hwb;refine⟨by rw[ho];exact h.os,by rw[hu];exact h.out,λx=>if x=b then some (.cells cs'.toArray T (lo,hi)) else none,h2,λx y hx=>?_,λx y hx=>?_,λx=>?_,⟨T,lo,hi,by simp,λi hi'=>hf i (by omega)⟩,he⟩
 ·simp only at hx;split at hx
  ·rename_i hxb;subst hxb;cases hx;exact hnew
  ·cases hx
 ·have hxb:x≠b:=by
   intro hxb;subst hxb
   rcases hc x with h'|h'
   ·rw[hd] at h';cases h'
   ·rw[hx] at h';cases h'
  exact hoth x y hxb (hb2 _ _ hx)
 ·simp only
  by_cases hxb:x=b
  ·subst hxb;rcases hc x with h'|h'
   ·rw[hd] at h';cases h'
   ·exact .inr h'
  ·left;rw[if_neg hxb]
def GN(k:BA):List UInt8:=k.data.toList
def txB(l:List UInt8):BA:=⟨l.toArray⟩
theorem Aei(k:BA):txB (GN k)=k:=by unfold txB GN;simp
theorem Ayy(l:List UInt8):GN (txB l)=l:=by unfold txB GN;simp
def EA(l:List BA):List BA:=((l.map GN).mergeSort λx y=>decide (x<=y)).map txB
theorem Af5(l:List (List UInt8)):Rec.str.flat (l.map txB)=l.map encStr:=by
 unfold Rec.flat Rec.str
 induction l with
 | nil=>rfl
 | cons x l ih=>simp only[List.map_cons,List.flatten_cons];rw[ih];rfl
theorem Axb{pre cs tl:List Value}{d:List (List UInt8)}(hl:d.length=cs.length):putCells encStr pre.length d.toArray (pre++cs++tl).toArray=(pre++d.map encStr++tl).toArray:=by
 unfold putCells;apply Array.ext_getElem?;intro i;simp only[Array.getElem?_mapIdx,List.getElem?_toArray,List.size_toArray]
 by_cases h1:i<pre.length
 ·rw[List.getElem?_append_left (by simp;omega),List.getElem?_append_left h1,List.getElem?_append_left (by simp;omega),List.getElem?_append_left h1,List.getElem?_eq_getElem h1];simp only[Option.map_some];rw[if_neg (by omega)]
 ·by_cases h2:i<pre.length+cs.length
  ·rw[List.getElem?_append_left (by simp;omega),List.getElem?_append_right (by omega),List.getElem?_append_left (by simp;omega),List.getElem?_append_right (by omega),List.getElem?_eq_getElem (by omega),List.getElem?_map,List.getElem?_eq_getElem (by omega)];simp only[Option.map_some];rw[if_pos (by omega),getElem!_pos _ _ (by simp;omega)]
   simp
  ·rw[List.getElem?_append_right (by simp;omega),List.getElem?_append_right (by simp;omega)];simp only[List.length_append,List.length_map,hl];cases tl[i-(pre.length+cs.length)]? with
   | none=>rfl
   | some v=>simp only[Option.map_some];rw[if_neg (by omega)]
theorem Ahl{P:Program}{f:FuncId}{s:Sl}{keys:List BA}
  (hC:∀(blk off cap:Nat)(ss:List (List UInt8))(w:World),Holds encStr w blk off ss.toArray->blk<w.heap.size->ss.length<4611686018427387904 ->
   Calls P f #[.l (some ⟨blk,off,none⟩) ss.length cap] w λe w'=>e = .returned (.tuple #[])/\∃n os,w'=grow (putRow encStr (Sort.ahead w n) blk off (ss.mergeSort λx y=>decide (x<=y)).toArray) os)
  (hN:∀(cap:Nat)(w:World),Calls P f #[.l none 0 cap] w λe w'=>e = .returned (.tuple #[])/\w'=w)
  (h:Ab W0 w L) [hA:Jp L s (recs Rec.str s keys) F] (hk:keys.length<4611686018427387904):Calls P f #[.l s.a s.n s.c] w λe w'=>e = .returned (.tuple #[])/\Ab W0 w' (F (recs Rec.str s (EA keys))):=by
 have hn:=(Bw (hA:=hA) h).1;refine Jp.one (hA:=hA) h λM h hb=>?_;obtain⟨g,_,⟨h1,h2⟩,h3⟩:=h.get (q:=0) rfl;have hsl:(EA keys).length=keys.length:=by simp[EA]
 rcases h3 with⟨ha,hn0,_⟩|⟨b,o,pre0,tl0,ha,_⟩
 ·have hk0:keys=[]:=List.length_eq_zero_iff.1 (by omega);subst hk0;rw[ha,hn0];exact(hN _ w).mono λe w' ⟨he,hw⟩=>⟨he,by subst hw;rw[show EA []=[] by simp[EA]];exact hb _ _ h⟩
 ·obtain⟨pre,tl,hp,hl,hsn,ht,h4⟩:=Ab.openS (q:=0) h rfl ha;subst hp;have h4:Ab W0 w (blk b (pre++Rec.str.flat keys++tl)::M):=h4;have hfl:(Rec.str.flat keys).length=keys.length:=by rw[Rec.flat_length];simp[Rec.str]
  have hblk:b<w.heap.size:=by
   obtain⟨g,hg,T,lo,hi,hb0,_⟩:=h4.get (q:=0) rfl;exact(Array.getElem?_eq_some_iff.1 (hg _ _ hb0)).1
  have hH:Holds encStr w b pre.length (keys.map GN).toArray:=by
   intro j hj;have hj:j<keys.length:=by simpa using hj
   refine⟨?_,h4.frozen (q:=0) rfl (by simp[hfl];omega)⟩;rw[h4.cell (q:=0) rfl,List.append_assoc,List.getElem?_append_right (by omega),List.getElem?_append_left (by rw[hfl];omega)]
   have:=Rec.flat_get (E:=Rec.str) (rows:=keys) (i:=j) (j:=0) (List.getElem?_eq_getElem hj) (by decide);have hj2:j*Rec.str.sz+0=j:=by show j*1+0=j;omega
   rw[hj2] at this;rw[Nat.add_sub_cancel_left,this,getElem!_pos _ _ (by simpa using hj)];simp only[List.getElem_toArray,List.getElem_map];show some (Value.string keys[j])=some (Value.string (txB (GN keys[j])));rw[Aei]
  rw[ha,hn,<- List.length_map (f:=GN)];refine(hC b pre.length s.c (keys.map GN) w hH hblk (by simpa using hk)).mono λe w' ⟨he,n,os,hw⟩=>⟨he,?_⟩;have hd:((keys.map GN).mergeSort λx y=>decide (x<=y)).length=(Rec.str.flat keys).length:=by simp[hfl]
  have h5:Ab W0 w' (blk b (pre++((keys.map GN).mergeSort λx y=>decide (x<=y)).map encStr++tl)::M):=by
   subst hw;refine Ab.write h4 rfl rfl (λx o hx ho=>?_) (λT fr hT=>?_) (by simp[hfl])
   ·unfold grow putRow mapBlock;simp only[Sort.ahead];have hlt:=(Array.getElem?_eq_some_iff.1 ho).1;rw[Array.getElem?_append_left (by simpa using hlt),Array.getElem?_modify,if_neg (Ne.symm hx)];exact ho
   ·unfold grow putRow mapBlock;simp only[Sort.ahead];rw[Array.getElem?_append_left (by simpa using hblk),Array.getElem?_modify,if_pos rfl,hT];simp only[Option.map_some,onCells];rw[Axb hd]
  rw[<- Af5] at h5;have h6:=h5.shutS (q:=0) (s:=s) (sz:=1) rfl ha rfl (by show(Rec.str.flat (EA keys)).length=_;rw[Rec.flat_length,hsl,hn];rfl) hsn ht
  exact hb _ _ h6
end
theorem Apo(a b:BA):sLt a b=decide (GN a<GN b):=by
 unfold sLt GN;rw[ByteArray.toList_eq,ByteArray.toList_eq,bytesLess_eq]
theorem Aej{a b:BA}(h:GN a=GN b):a=b:=by
 rw[<- Aei a,<- Aei b,h]
def DP(l:List BA):Prop:=l.Pairwise λa b=>GN a<GN b
theorem DP.nodup{l:List BA}(h:DP l):l.Nodup:=by
 refine List.Pairwise.imp (λ{a b} hab=>?_) h;rintro rfl;exact absurd hab (List.lt_irrefl _)
theorem FY:∀{l l':List BA},l.Pairwise (λa b=>GN a<=GN b)->l'.Pairwise (λa b=>GN a<=GN b)->l.Perm l'->l=l'
 | [],l',_,_,hp=>(List.nil_perm.1 hp).symm
 | a::l,[],_,_,hp=>absurd hp.symm (by simp)
 | a::l,b::l',h,h',hp=>by
  simp only[List.pairwise_cons] at h h';have hab:GN a=GN b:=by
   have h1:b∈a::l:=hp.symm.subset (by simp);have h2:a∈b::l':=hp.subset (by simp);have h3:GN a<=GN b:=by
    rcases List.mem_cons.1 h1 with rfl|h1
    ·exact List.le_refl _
    ·exact h.1 b h1
   have h4:GN b<=GN a:=by
    rcases List.mem_cons.1 h2 with rfl|h2
    ·exact List.le_refl _
    ·exact h'.1 a h2
   exact List.le_antisymm h3 h4
  have:=Aej hab;subst this;rw[FY h.2 h'.2 (List.Perm.cons_inv hp)]
theorem JR(l:List BA):(EA l).Perm l:=by
 unfold EA;have:=(List.mergeSort_perm (l.map GN) λx y=>decide (x<=y)).map txB;refine this.trans ?_;have e:(l.map GN).map txB=l:=by
  rw[List.map_map];conv=>rhs;rw[<- List.map_id l]
  exact List.map_congr_left λa _=>Aei a
 rw[e]
theorem HU(l:List BA):(EA l).Pairwise λa b=>GN a<=GN b:=by
 unfold EA;rw[List.pairwise_map];have:=List.pairwise_mergeSort (le:=λx y:List UInt8=>decide (x<=y)) (λa b c h1 h2=>by simp only[decide_eq_true_eq] at *;exact List.le_trans h1 h2) (λa b=>by simp only[Bool.or_eq_true,decide_eq_true_eq];exact List.le_total a b) (l.map GN)
 refine List.Pairwise.imp (λ{a b} h=>?_) this;rw[Ayy,Ayy];simpa using h
theorem DP.le{l:List BA}(h:DP l):l.Pairwise λa b=>GN a<=GN b:=List.Pairwise.imp (λ{a b} h=>List.le_of_lt h) h
theorem Apy{l r:List BA}(hp:l.Perm r)(hr:DP r):EA l=r:=FY (HU l) hr.le ((JR l).trans hp)
end Go.Hb
namespace Go.Hb
section
variable{V:Type}[Inhabited V]
def Rw:List (BA×V)->BA->Nat×Bool
 | [],_=>(0,false)
 | e::r,k=>if sLt e.1 k then ((Rw r k).1+1,(Rw r k).2) else (0,decide (e.1=k))
def BQ(m:List (BA×V)):Prop:=DP (m.map (·.1))
theorem BQ.nodup{m:List (BA×V)}(h:BQ m):(m.map (·.1)).Nodup:=DP.nodup h
theorem BQ.tail{e:BA×V}{m:List (BA×V)}(h:BQ (e::m)):BQ m:=by
 unfold BQ DP at h ⊢;simp only[List.map_cons,List.pairwise_cons] at h;exact h.2
theorem Im:∀{m:List (BA×V)}{k:BA},(Rw m k).2=true->∃v,m[(Rw m k).1]? = some (k,v)
 | [],_,h=>by cases h
 | e::r,k,h=>by
  unfold Rw at h ⊢;split at h
  ·rename_i h1;rw[if_pos h1];obtain⟨v,hv⟩:=Im h;exact⟨v,by simpa using hv⟩
  ·rename_i h1;rw[if_neg h1];simp only[decide_eq_true_eq] at h;exact⟨e.2,by simp[<- h]⟩
theorem Agq{a k:BA}(h1:sLt a k=false)(h2:a≠k):GN k<GN a:=by
 rw[Apo] at h1;have h3:GN k<=GN a:=by simpa using h1
 rcases List.le_iff_lt_or_eq.1 h3 with h|h
 ·exact h
 ·exact absurd (Aej h).symm h2
theorem IN:∀{m:List (BA×V)}{k:BA},BQ m->(Rw m k).2=false->(∀e∈m,e.1≠k)/\∀v,BQ (m.take (Rw m k).1++(k,v)::m.drop (Rw m k).1)
 | [],_,_,_=>⟨(λ_ h=>by cases h),λv=>by simp[BQ,DP,Rw]⟩
 | e::r,k,hr,h=>by
  unfold Rw at h ⊢;split at h
  ·rename_i h1;rw[if_pos h1];obtain⟨h2,h3⟩:=IN hr.tail h;have hlt:GN e.1<GN k:=by rw[Apo] at h1;simpa using h1
   refine⟨λx hx=>?_,λv=>?_⟩
   ·rcases List.mem_cons.1 hx with rfl|hx
    ·intro he;rw[he] at hlt;exact absurd hlt (List.lt_irrefl _)
    ·exact h2 x hx
   ·have h4:=h3 v;unfold BQ DP at h4 hr ⊢;simp only[List.take_succ_cons,List.drop_succ_cons,List.cons_append,List.map_cons,List.pairwise_cons] at hr ⊢;refine⟨λx hx=>?_,h4⟩;simp only[List.map_append,List.map_cons,List.mem_append,List.mem_cons] at hx;rcases hx with hx|hx|hx
    ·exact hr.1 x (((List.take_sublist _ _).map _).subset hx)
    ·rw[hx];exact hlt
    ·exact hr.1 x (((List.drop_sublist _ _).map _).subset hx)
  ·rename_i h1;rw[if_neg h1];simp only[decide_eq_false_iff_not] at h;have hlt:=Agq (by simpa using h1) h;have hall:∀x∈(e::r).map (·.1),GN k<GN x:=by
    intro x hx;rw[List.map_cons,List.mem_cons] at hx;rcases hx with rfl|hx
    ·exact hlt
    ·unfold BQ DP at hr;simp only[List.map_cons,List.pairwise_cons] at hr;exact List.lt_trans hlt (hr.1 x hx)
   refine⟨λx hx he=>?_,λv=>?_⟩
   ·have:=hall x.1 (List.mem_map_of_mem hx);rw[he] at this;exact absurd this (List.lt_irrefl _)
   ·show BQ ((k,v)::e::r);unfold BQ DP at hr ⊢;rw[List.map_cons,List.pairwise_cons];exact⟨hall,hr⟩
theorem Ad2{m:List (BA×V)}{k:BA}(hr:BQ m):AD m k=if (Rw m k).2 then (m[(Rw m k).1]?).map (·.2) else none:=by
 cases h:(Rw m k).2 with
 | true=>
  obtain⟨v,hv⟩:=Im h;rw[hv];exact(By hr.nodup).2 (List.mem_of_getElem? hv)
 | false=>exact Bs.2 (IN hr h).1
theorem Vn{m:List (BA×V)}{i:Nat}{k:BA}{v u:V}(h:m[i]? = some (k,v)):(m.set i (k,u)).map (·.1)=m.map (·.1):=by
 obtain⟨hlt,hri⟩:=List.getElem?_eq_some_iff.1 h;rw[List.map_set];apply List.ext_getElem?;intro j;rw[List.getElem?_set];split
 ·rename_i h;subst h;simp[hlt,hri]
 ·rfl
theorem Ape{m:List (BA×V)}{i:Nat}{k:BA}{v u:V}(hr:BQ m)(h:m[i]? = some (k,v)):BQ (m.set i (k,u)):=by
 unfold BQ;rw[Vn h];exact hr
theorem YQ{m:List (BA×V)}{i:Nat}{k:BA}{v u:V}(hn:(m.map (·.1)).Nodup)(h:m[i]? = some (k,v)):m.set i (k,u)=E6 m k u:=by
 obtain⟨hlt,hri⟩:=List.getElem?_eq_some_iff.1 h;unfold E6;apply List.ext_getElem?;intro j;rw[List.getElem?_set,List.getElem?_map]
 by_cases e:i=j
 ·subst e;simp[hlt,hri]
 ·rw[if_neg e];cases hj:m[j]? with
  | none=>rfl
  | some x=>
   simp only[Option.map_some];rw[if_neg];intro hk;obtain⟨hjl,hjx⟩:=List.getElem?_eq_some_iff.1 hj;have:(m.map (·.1))[i]? = (m.map (·.1))[j]?:=by simp[hlt,hjl,hri,hjx,hk]
   exact e ((List.getElem?_inj (by simpa using hlt) hn).1 this)
theorem GF{m:List (BA×V)}{i:Nat}{k:BA}{v:V}(hn:(m.map (·.1)).Nodup)(h:m[i]? = some (k,v)):m.eraseIdx i=BI m k:=by
 obtain⟨hlt,hri⟩:=List.getElem?_eq_some_iff.1 h;have hs:m=m.take i++(k,v)::m.drop (i+1):=by rw[<- hri];simp
 rw[List.eraseIdx_eq_take_drop_succ];unfold BI
 conv=>rhs;rw[hs]
 rw[hs] at hn;simp only[List.map_append,List.map_cons] at hn;rw[List.nodup_append] at hn;simp only[List.nodup_cons] at hn;rw[List.filter_append,List.filter_cons_of_neg (by simp),List.filter_eq_self.2,List.filter_eq_self.2]
 ·intro e he;simp only[ne_eq,decide_not,Bool.not_eq_eq_eq_not,Bool.not_true,decide_eq_false_iff_not];rintro rfl;exact hn.2.1.1 (List.mem_map_of_mem he)
 ·intro e he;simp only[ne_eq,decide_not,Bool.not_eq_eq_eq_not,Bool.not_true,decide_eq_false_iff_not];rintro rfl;exact hn.2.2 _ (List.mem_map_of_mem he) e.1 (by simp) rfl
def Ho(m:List (BA×V))(k:BA)(v:V):List (BA×V):=if (Rw m k).2 then m.set (Rw m k).1 (k,v) else m.take (Rw m k).1++(k,v)::m.drop (Rw m k).1
theorem Hp{m:List (BA×V)}{k:BA}{v:V}(hr:BQ m):BQ (Ho m k v):=by
 unfold Ho;split
 ·rename_i h;obtain⟨u,hu⟩:=Im h;exact Ape hr hu
 ·rename_i h;exact(IN hr (by simpa using h)).2 v
theorem Jc{m:List (BA×V)}{k:BA}{v:V}(hr:BQ m):(Ho m k v).Perm (Ch m k v):=by
 unfold Ho Ch;cases h:(Rw m k).2 with
 | true=>
  obtain⟨u,hu⟩:=Im h;have hg:AD m k=some u:=by rw[Ad2 hr,h,hu];rfl
  rw[hg];simp only[if_true];rw[YQ hr.nodup hu]
 | false=>
  have hg:AD m k=none:=by rw[Ad2 hr,h];rfl
  rw[hg];simp only[Bool.false_eq_true,if_false];refine List.perm_middle.trans ?_;rw[List.take_append_drop]
def Ex(m:List (BA×V))(k:BA):List (BA×V):=if (Rw m k).2 then m.eraseIdx (Rw m k).1 else m
theorem Fj{m:List (BA×V)}{k:BA}(hr:BQ m):Ex m k=BI m k:=by
 unfold Ex;split
 ·rename_i h;obtain⟨u,hu⟩:=Im h;exact GF hr.nodup hu
 ·rename_i h;have:=(IN hr (by simpa using h)).1;unfold BI;rw[List.filter_eq_self.2];intro e he;simpa using this e he
theorem L8{m:List (BA×V)}{k:BA}(hr:BQ m):BQ (Ex m k):=by
 rw[Fj hr];unfold BQ DP BI at *;exact List.Pairwise.sublist ((List.filter_sublist).map _) hr
theorem Tk{m m':List (BA×V)}{k:BA}(hp:m.Perm m'):(BI m k).Perm (BI m' k):=hp.filter _
theorem Tl{m:List (BA×V)}{k:BA}{v:V}{P:BA->Prop}(hm:∀e∈m,P e.1)(hk:P k):∀e∈Ch m k v,P e.1:=by
 unfold Ch;cases AD m k with
 | none=>
  intro e he;rcases List.mem_cons.1 he with rfl|he
  ·exact hk
  ·exact hm e he
 | some u=>
  intro e he;unfold E6 at he;rw[List.mem_map] at he;obtain⟨x,hx,rfl⟩:=he;split
  ·exact hk
  ·exact hm x hx
theorem I7{m:List (BA×V)}{k:BA}{P:BA->Prop}(hm:∀e∈m,P e.1):∀e∈BI m k,P e.1:=λe he=>hm e (List.mem_filter.1 he).1
theorem Awz(m:List (BA×V))(k:BA):(BI m k).length<=m.length:=List.length_filter_le _ _
end
end Go.Hb
namespace Go.Hb
theorem SZ{ls:List Lk}{h:Nat}{l:Lk}(hl:h<ls.length):Dp (ls.set h l)=upd (Dp ls) h (l.v,l.there):=by
 funext x;unfold Dp upd;rw[E3 hl];split <;> rfl
theorem PG{ls:List Lk}{l:Lk}(x:Nat):(ls++[l]).getD x default=if x=ls.length then l else ls.getD x default:=by
 rw[List.getD_eq_getElem?_getD,List.getD_eq_getElem?_getD];rcases Nat.lt_trichotomy x ls.length with h|h|h
 ·rw[List.getElem?_append_left h,if_neg (by omega)]
 ·subst h;rw[if_pos rfl,List.getElem?_append_right (by omega)];simp
 ·rw[List.getElem?_append_right (by omega),if_neg (by omega),List.getElem?_eq_none (by simp;omega),List.getElem?_eq_none (by omega)]
theorem Af8{ls:List Lk}{l:Lk}:Dp (ls++[l])=upd (Dp ls) ls.length (l.v,l.there):=by
 funext x;unfold Dp upd;rw[PG];split <;> rfl
theorem Ao5{ls:List Lk}{h:Nat}{l:Lk}(hl:h<ls.length):DK (ls.set h l)=upd (DK ls) h l.next:=by
 funext x;unfold DK upd;rw[E3 hl];split <;> rfl
theorem Apb{ls:List Lk}{h:Nat}{l:Lk}(hl:h<ls.length):DL (ls.set h l)=upd (DL ls) h l.prev:=by
 funext x;unfold DL upd;rw[E3 hl];split <;> rfl
theorem A1q{ls:List Lk}{l:Lk}:DK (ls++[l])=upd (DK ls) ls.length l.next:=by
 funext x;unfold DK upd;rw[PG];split <;> rfl
theorem A1v{ls:List Lk}{l:Lk}:DL (ls++[l])=upd (DL ls) ls.length l.prev:=by
 funext x;unfold DL upd;rw[PG];split <;> rfl
theorem D6.upd_out{nx pv:Nat->Nat}{ord:List Nat}{h a b:Nat}(hs:D6 nx pv ord)(hh:h∉0::ord):D6 (upd nx h a) (upd pv h b) ord:=by
 refine DU.mono hs (λx hx=>Bi ?_) (λy hy=>Bi ?_)
 ·rintro rfl;rw[show(0::(ord++[0]))=(0::ord)++[0] by simp,List.dropLast_concat] at hx;exact hh hx
 ·rintro rfl;simp only[List.tail_cons,List.mem_append,List.mem_singleton] at hy;rcases hy with hy|hy
  ·exact hh (List.mem_cons_of_mem _ hy)
  ·exact hh (by rw[hy];exact List.mem_cons_self)
def TE(cap:Nat)(free:List Nat):Nat:=free.getLastD cap
def GC(ls:List Lk)(free:List Nat)(v:Value):List Lk:=if free=[] then ls++[⟨v,0,0,true⟩] else ls.set (free.getLastD 0) ⟨v,0,0,true⟩
def Rl(ls:List Lk)(h p x:Nat):List Lk:=E9 (E8 (E8 (E9 ls h p) h x) p h) x h
def Gu(ls:List Lk)(h:Nat):List Lk:=E9 (E8 ls (DL ls h) (DK ls h)) (DK ls h) (DL ls h)
theorem Yy(ls:List Lk)(h p x:Nat):(Rl ls h p x).length=ls.length:=by simp[Rl,Cq,BJ]
theorem Awp{ls:List Lk}{h p x:Nat}(hh:h<ls.length)(hp:p<ls.length)(hx:x<ls.length):DK (Rl ls h p x)=upd (upd (DK ls) h x) p h:=by
 unfold Rl;rw[JH (by rw[BJ,BJ,Cq];exact hx),JG (by rw[BJ,Cq];exact hp),JG (by rw[Cq];exact hh),JH hh]
theorem Awq{ls:List Lk}{h p x:Nat}(hh:h<ls.length)(hp:p<ls.length)(hx:x<ls.length):DL (Rl ls h p x)=upd (upd (DL ls) h p) x h:=by
 unfold Rl;rw[JL (by rw[BJ,BJ,Cq];exact hx),JK (by rw[BJ,Cq];exact hp),JK (by rw[Cq];exact hh),JL hh]
theorem Agg{ls:List Lk}{h p x:Nat}(hh:h<ls.length)(hp:p<ls.length)(hx:x<ls.length):Dp (Rl ls h p x)=Dp ls:=by
 unfold Rl;rw[HF (by rw[BJ,BJ,Cq];exact hx),HE (by rw[BJ,Cq];exact hp),HE (by rw[Cq];exact hh),HF hh]
theorem Th(ls:List Lk)(h:Nat):(Gu ls h).length=ls.length:=by simp[Gu,Cq,BJ]
theorem Aoq{ls:List Lk}{h:Nat}(hp:DL ls h<ls.length)(hx:DK ls h<ls.length):DK (Gu ls h)=upd (DK ls) (DL ls h) (DK ls h):=by
 unfold Gu;rw[JH (by rw[BJ];exact hx),JG hp]
theorem Aor{ls:List Lk}{h:Nat}(hp:DL ls h<ls.length)(hx:DK ls h<ls.length):DL (Gu ls h)=upd (DL ls) (DK ls h) (DL ls h):=by
 unfold Gu;rw[JL (by rw[BJ];exact hx),JK hp]
theorem Aa3{ls:List Lk}{h:Nat}(hp:DL ls h<ls.length)(hx:DK ls h<ls.length):Dp (Gu ls h)=Dp ls:=by
 unfold Gu;rw[HF (by rw[BJ];exact hx),HE hp]
end Go.Hb
