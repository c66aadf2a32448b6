import Derived.Test.YtjipofkjmmpjdaaGreatChecked
import Derived.KernelRfl
import Derived.Conc.LoneSelect
import Derived.Laws.Rows
import Derived.OpenShut
import Derived.IntWalk
import Derived.Sort.EncStr
import Derived.Sort.Grow
import Derived.Sort.Walk0
import Derived.Test.YtjipofkjmmpjdaaGreatQMoves1
set_option linter.unusedVariables false
set_option linter.unusedSimpArgs false
set_option linter.unnecessarySimpa false
set_option linter.unusedSectionVars false
set_option maxRecDepth 100000
namespace Go.Proofs.YtjipofkjmmpjdaaGreat
open Go.Hb
noncomputable abbrev PR:=Tryz.prog
abbrev Eh(S:World->Prop)(b o:Nat)(K:Int->WP):WP:=Zj S (.int .i64) b o K
abbrev Fx(S:World->Prop)(b o:Nat)(K:Sl->WP):WP:=Zj S .slc b o K
abbrev EO(S:World->Prop)(b o:Nat)(K:OA->WP):WP:=Zj S .ptr b o K
abbrev wLs(S:World->Prop)(b o:Nat)(K:BA->WP):WP:=Zj S .str b o K
abbrev Zd(S:World->Prop)(b o:Nat)(K:Int->WP):WP:=Zj S (.int .u64) b o K
noncomputable abbrev Dv(f:FuncId)(a:List Value)(K:Bool->WP):WP:=call1 .bool PR f a K
noncomputable abbrev Bw(f:FuncId)(a:List Value)(K:Int->WP):WP:=call1 (.int .i64) PR f a K
noncomputable abbrev F6(f:FuncId)(a:List Value)(K:Sl->WP):WP:=call1 .slc PR f a K
noncomputable abbrev Jh(f:FuncId)(a:List Value)(K:OA->WP):WP:=call1 .ptr PR f a K
noncomputable abbrev TC(f:FuncId)(a:List Value)(K:BA->WP):WP:=call1 .str PR f a K
noncomputable abbrev Ze(f:FuncId)(a:List Value)(K:Int->WP):WP:=call1 (.int .u64) PR f a K
noncomputable abbrev A2t(f:FuncId)(a:List Value)(K:Bool->Int->WP):WP:=Gj .bool (.int .i64) PR f a K
noncomputable abbrev A2u(f:FuncId)(a:List Value)(K:Bool->Sl->WP):WP:=Gj .bool .slc PR f a K
noncomputable abbrev F7(f:FuncId)(a:List Value)(K:Int->Bool->WP):WP:=Gj (.int .i64) .bool PR f a K
noncomputable abbrev Ab0(f:FuncId)(a:List Value)(K:OA->Int->WP):WP:=Gj .ptr (.int .i64) PR f a K
noncomputable abbrev EG(f:FuncId)(a:List Value)(K:BA->Bool->WP):WP:=Gj .str .bool PR f a K
abbrev HZ(b o:Nat)(K:Bool->WP):WP:=ld .bool b o K
abbrev Ax(b o:Nat)(K:Int->WP):WP:=ld (.int .i64) b o K
abbrev Ba(b o:Nat)(K:Sl->WP):WP:=ld .slc b o K
abbrev Br(b o:Nat)(K:OA->WP):WP:=ld .ptr b o K
abbrev BR(b o:Nat)(K:BA->WP):WP:=ld .str b o K
abbrev Dz(b o:Nat)(K:Int->WP):WP:=ld (.int .u64) b o K
noncomputable abbrev wz(f:FuncId)(a:List Value)(K:WP):WP:=VP PR f a K
noncomputable def bE(f:Func)(l:List Nat):Code:=Azd l (AQ f)
def rE(f:Func)(Q:VW):EW:=Bi PR f Q
def cE(f:Func)(kp:KP)(jn:Jn)(Q:VW)(l:List Nat)(X:EW)(Y:Nat->EW):EW:=BD PR kp jn (bE f l) X Y (rE f Q)
def sE(f:Func)(kp:KP)(jn:Jn)(Q:VW)(l:List Nat)(X:EW)(Y:Nat->EW):EW:=JN PR kp jn (bE f l) X Y (rE f Q)
theorem mixed:PR.follows .mixedOrders=true:=by kernel_rfl
section
variable(jn:Jn)(Q:VW)
def A2k:BA:=⟨#[50,113]⟩
def CZ:BA:=⟨#[95,45,46,47,58]⟩
def QF:BA:=⟨#[97]⟩
def Ax0:BA:=⟨#[97,114,99]⟩
def Ae:BA:=⟨#[]⟩
def Ap5:BA:=⟨#[108,105,114,115]⟩
def Abt:BA:=⟨#[115,51,102,105,102,111]⟩
def YX:BA:=⟨#[116,105,110,121,108,102,117]⟩
def QG:BA:=⟨#[120]⟩
def EI:KP:=⟨[(8,[1,2,3]),(19,[2,3,7,9]),(20,[2,3,7,9]),(27,[2,3,7,9,10,11]),(32,[2,3,7,9,10]),(37,[2,3,7,9,10,12]),(38,[2,3,7,9,10,12]),(43,[2,3,7,9,10,12,13]),(48,[2,3,7,9,10,12]),(52,[])],[(23,[0,1,4,5,6,9,10,11,12,14,15,16,17,18,21,22,23,24,25,26,27,28])]⟩
def XU:EW:=sE Tryz.f7 EI jn Q [1,1,1,1,1,1] (rE Tryz.f7 Q) A5
def Anq(m2:Nat):EW:=Ia PR EI jn (bE Tryz.f7 [1,1,1,1,1,0,1,0,0]) (A6 0 (XU jn Q) A5) (rE Tryz.f7 Q) m2
def UQ(m2:Nat):EW:=sE Tryz.f7 EI jn Q [1,1,1,1,1,0,1,0,0,1,1] (Anq jn Q m2) (A6 0 (XU jn Q) A5)
def UR(m2:Nat):Nat->EW:=A6 1 (UQ jn Q m2) (A6 0 (XU jn Q) A5)
def A0r(m2:Nat):EW:=sE Tryz.f7 EI jn Q [1,1,1,1,1,0,1,0,0,1,0,0,1,1] (UQ jn Q m2) (UR jn Q m2)
def A0s(m2:Nat):Nat->EW:=A6 2 (A0r jn Q m2) (UR jn Q m2)
def Pw(m2:Nat):Nat->EW:=A6 4 (UQ jn Q m2) (UR jn Q m2)
def Anr(m2 m5:Nat):EW:=Ia PR EI jn (bE Tryz.f7 [1,1,1,1,1,0,1,0,0,1,0,0,1,1,1,1,0,0]) (Pw jn Q m2) (rE Tryz.f7 Q) m5
def Aac(m2 m5:Nat):EW:=sE Tryz.f7 EI jn Q [1,1,1,1,1,0,1,0,0,1,0,0,1,1,1,1,0,0,1,1] (Anr jn Q m2 m5) (Pw jn Q m2)
def Aad(m2 m5:Nat):Nat->EW:=A6 5 (Aac jn Q m2 m5) (Pw jn Q m2)
def A0t(m2 m5:Nat):EW:=sE Tryz.f7 EI jn Q [1,1,1,1,1,0,1,0,0,1,0,0,1,1,1,1,0,0,1,0,0,1] (Aac jn Q m2 m5) (Aad jn Q m2 m5)
def A0u(m2 m5:Nat):Nat->EW:=A6 6 (A0t jn Q m2 m5) (Aad jn Q m2 m5)
def Adk(m2 m5:Nat):EW:=cE Tryz.f7 EI jn Q [1,1,1,1,1,0,1,0,0,1,0,0,1,1,1,1,0,0,1,1] (Anr jn Q m2 m5) (Pw jn Q m2)
def Ayn(m2 m5:Nat)(to2:Sl)(f3_b f3_o:Nat)(c7:OA)(i9:Int)(in10:Sl)(s12:Int):WP:=jn 38 (Adk jn Q m2 m5) (us 2 ((.l to2.a to2.n to2.c)::(pq f3_b f3_o)::us 3 ((.p c7)::us 1 ((.i i9)::(.l in10.a in10.n in10.c)::us 1 ((.i s12)::us 105 [])))))
def Adj(m2 m5:Nat):EW:=cE Tryz.f7 EI jn Q [1,1,1,1,1,0,1,0,0,1,0,0,1,1,1,1,0,0,1,0,0,1] (Aac jn Q m2 m5) (Aad jn Q m2 m5)
def Ant(m2 m5:Nat)(to2:Sl)(f3_b f3_o:Nat)(c7:OA)(i9:Int)(in10:Sl)(s12:Int):WP:=jn 48 (Adj jn Q m2 m5) (us 2 ((.l to2.a to2.n to2.c)::(pq f3_b f3_o)::us 3 ((.p c7)::us 1 ((.i i9)::(.l in10.a in10.n in10.c)::us 1 ((.i s12)::us 105 [])))))
def Adp(m2 m5 m6:Nat)(to2:Sl)(f3_b f3_o:Nat)(c7:OA)(i9:Int)(in10:Sl)(s12 k13:Int):WP:=CJ PR EI jn (bE Tryz.f7 [1,1,1,1,1,0,1,0,0,1,0,0,1,1,1,1,0,0,1,0,0,0,1,0,0]) (A0u jn Q m2 m5) (rE Tryz.f7 Q) m6 (us 2 ((.l to2.a to2.n to2.c)::(pq f3_b f3_o)::us 3 ((.p c7)::us 1 ((.i i9)::(.l in10.a in10.n in10.c)::us 1 ((.i s12)::(.i k13)::us 104 [])))))
def Adl(m2:Nat):EW:=cE Tryz.f7 EI jn Q [1,1,1,1,1,0,1,0,0,1,1] (Anq jn Q m2) (A6 0 (XU jn Q) A5)
def Ayo(m2:Nat)(to2:Sl)(f3_b f3_o:Nat)(c7:OA)(i9:Int):WP:=jn 20 (Adl jn Q m2) (us 2 ((.l to2.a to2.n to2.c)::(pq f3_b f3_o)::us 3 ((.p c7)::us 1 ((.i i9)::us 108 []))))
def Ado(m2 m5:Nat)(to2:Sl)(f3_b f3_o:Nat)(c7:OA)(i9:Int)(in10:Sl)(s12:Int):WP:=CJ PR EI jn (bE Tryz.f7 [1,1,1,1,1,0,1,0,0,1,0,0,1,1,1,1,0,0]) (Pw jn Q m2) (rE Tryz.f7 Q) m5 (us 2 ((.l to2.a to2.n to2.c)::(pq f3_b f3_o)::us 3 ((.p c7)::us 1 ((.i i9)::(.l in10.a in10.n in10.c)::us 1 ((.i s12)::us 105 [])))))
def Adi(m2:Nat):EW:=cE Tryz.f7 EI jn Q [1,1,1,1,1,0,1,0,0,1,0,0,1,1] (UQ jn Q m2) (UR jn Q m2)
def Aym(m2:Nat)(to2:Sl)(f3_b f3_o:Nat)(c7:OA)(i9:Int)(in10:Sl):WP:=jn 32 (Adi jn Q m2) (us 2 ((.l to2.a to2.n to2.c)::(pq f3_b f3_o)::us 3 ((.p c7)::us 1 ((.i i9)::(.l in10.a in10.n in10.c)::us 107 []))))
def Adn(m2 m3:Nat)(to2:Sl)(f3_b f3_o:Nat)(c7:OA)(i9:Int)(in10:Sl)(s11:Int):WP:=CJ PR EI jn (bE Tryz.f7 [1,1,1,1,1,0,1,0,0,1,0,0,1,0,1,0,0]) (A0s jn Q m2) (rE Tryz.f7 Q) m3 (us 2 ((.l to2.a to2.n to2.c)::(pq f3_b f3_o)::us 3 ((.p c7)::us 1 ((.i i9)::(.l in10.a in10.n in10.c)::(.i s11)::us 106 []))))
def XV:EW:=cE Tryz.f7 EI jn Q [1,1,1,1,1,1] (rE Tryz.f7 Q) A5
def A0v:WP:=jn 52 (XV jn Q) (us 118 [])
def Adm(m2:Nat)(to2:Sl)(f3_b f3_o:Nat)(c7:OA)(i9:Int):WP:=CJ PR EI jn (bE Tryz.f7 [1,1,1,1,1,0,1,0,0]) (A6 0 (XU jn Q) A5) (rE Tryz.f7 Q) m2 (us 2 ((.l to2.a to2.n to2.c)::(pq f3_b f3_o)::us 3 ((.p c7)::us 1 ((.i i9)::us 108 []))))
def Adh:EW:=cE Tryz.f7 EI jn Q [1,1] (rE Tryz.f7 Q) A5
def A28(l1 to2:Sl)(f3_b f3_o:Nat):WP:=jn 8 (Adh jn Q) (us 1 ((.l l1.a l1.n l1.c)::(.l to2.a to2.n to2.c)::(pq f3_b f3_o)::us 114 []))
def SM:KP:=⟨[(7,[0,3]),(10,[0,3]),(14,[])],[]⟩
def Anz:EW:=sE Tryz.f9 SM jn Q [1,1] (rE Tryz.f9 Q) A5
def A29(m1:Nat):EW:=Ia PR SM jn (bE Tryz.f9 [1,0,1,0,0]) (A6 0 (Anz jn Q) A5) (rE Tryz.f9 Q) m1
def Adr(m1:Nat):EW:=cE Tryz.f9 SM jn Q [1,0,1,0,0,1] (A29 jn Q m1) (A6 0 (Anz jn Q) A5)
def A3a(m1:Nat)(l0:Sl)(i3:Int):WP:=jn 10 (Adr jn Q m1) ((.l l0.a l0.n l0.c)::us 2 ((.i i3)::us 26 []))
def Ads:EW:=cE Tryz.f9 SM jn Q [1,1] (rE Tryz.f9 Q) A5
def Ayp:WP:=jn 14 (Ads jn Q) (us 30 [])
def Adt(m1:Nat)(l0:Sl)(i3:Int):WP:=CJ PR SM jn (bE Tryz.f9 [1,0,1,0,0]) (A6 0 (Anz jn Q) A5) (rE Tryz.f9 Q) m1 ((.l l0.a l0.n l0.c)::us 2 ((.i i3)::us 26 []))
def Av:KP:=⟨[],[]⟩
def Ajl:KP:=⟨[(10,[1])],[]⟩
def Ws:EW:=cE Tryz.f12 Ajl jn Q [1,1,1] (rE Tryz.f12 Q) A5
def Azo(c1:OA):WP:=jn 10 (Ws jn Q) (us 1 ((.p c1)::us 31 []))
def TZ:KP:=⟨[(9,[0,5,8,9,10]),(16,[5])],[]⟩
def Azp:EW:=sE Tryz.f14 TZ jn Q [1,1,1] (rE Tryz.f14 Q) A5
def W2:EW:=cE Tryz.f14 TZ jn Q [1,1,1] (rE Tryz.f14 Q) A5
def Azq(all5:Sl):WP:=jn 16 (W2 jn Q) (us 5 ((.l all5.a all5.n all5.c)::us 16 []))
def Ua(m1:Nat)(c0:OA)(all5 t8:Sl)(t9 t10:Int):WP:=CJ PR TZ jn (bE Tryz.f14 [1,1,0,1,0,0]) (A6 0 (Azp jn Q) A5) (rE Tryz.f14 Q) m1 ((.p c0)::us 4 ((.l all5.a all5.n all5.c)::us 2 ((.l t8.a t8.n t8.c)::(.i t9)::(.i t10)::us 11 [])))
def Ug:KP:=⟨[(12,[0,3,4,5,24]),(14,[0,3,4,5])],[(6,[0,1,2,3,4])]⟩
def Azr:EW:=sE Tryz.f15 Ug jn Q [1,1,1,1] (rE Tryz.f15 Q) A5
def W9:EW:=cE Tryz.f15 Ug jn Q [1,1,1,1] (rE Tryz.f15 Q) A5
def Azs(c0:OA)(o3b o3o t4b t4o kinds5b kinds5o:Nat):WP:=jn 14 (W9 jn Q) ((.p c0)::us 2 ((pq o3b o3o)::(pq t4b t4o)::(pq kinds5b kinds5o)::us 27 []))
def W8:EW:=cE Tryz.f15 Ug jn Q [1,1,1,0,1] (Azr jn Q) A5
def Ej(c0:OA)(o3b o3o t4b t4o kinds5b kinds5o:Nat)(t24:Bool):WP:=jn 12 (W8 jn Q) ((.p c0)::us 2 ((pq o3b o3o)::(pq t4b t4o)::(pq kinds5b kinds5o)::us 18 ((.b t24)::us 8 [])))
def Ll:KP:=⟨[(8,[0,1])],[]⟩
def WI:EW:=cE Tryz.f19 Ll jn Q [1,1] (rE Tryz.f19 Q) A5
def Azt(c0:OA)(i1:Int):WP:=jn 8 (WI jn Q) ((.p c0)::(.i i1)::us 25 [])
def Um:KP:=⟨[(11,[0,1,5]),(18,[])],[(6,[0,1,2,3,4,5,6,8])]⟩
def Azu:EW:=sE Tryz.f23 Um jn Q [1,1,1] (rE Tryz.f23 Q) A5
def WJ:EW:=cE Tryz.f23 Um jn Q [1,1,1] (rE Tryz.f23 Q) A5
def Azv:WP:=jn 18 (WJ jn Q) (us 26 [])
def Un(m1:Nat)(a0 b1:Sl)(i5:Int):WP:=CJ PR Um jn (bE Tryz.f23 [1,1,0,1,0,0]) (A6 0 (Azu jn Q) A5) (rE Tryz.f23 Q) m1 ((.l a0.a a0.n a0.c)::(.l b1.a b1.n b1.c)::us 3 ((.i i5)::us 20 []))
def Pj:KP:=⟨[(8,[1]),(13,[1,4,48,49]),(24,[1,4])],[(11,[0,1,2,3,4,8,9,10,11,12])]⟩
def Azw:EW:=sE Tryz.f27 Pj jn Q [1,1,1,1] (rE Tryz.f27 Q) A5
def Xa:EW:=cE Tryz.f27 Pj jn Q [1,1,1,1] (rE Tryz.f27 Q) A5
def Alj(c1b c1o x4b x4o:Nat):WP:=jn 24 (Xa jn Q) (us 1 ((pq c1b c1o)::us 2 ((pq x4b x4o)::us 91 [])))
def Ux(m2:Nat)(c1b c1o x4b x4o:Nat)(t48 t49:Int):WP:=CJ PR Pj jn (bE Tryz.f27 [1,1,1,0,1,0,0]) (A6 0 (Azw jn Q) A5) (rE Tryz.f27 Q) m2 (us 1 ((pq c1b c1o)::us 2 ((pq x4b x4o)::us 43 ((.i t48)::(.i t49)::us 46 []))))
def WZ:EW:=cE Tryz.f27 Pj jn Q [1,1] (rE Tryz.f27 Q) A5
def Azx(c1b c1o:Nat):WP:=jn 8 (WZ jn Q) (us 1 ((pq c1b c1o)::us 94 []))
def Azy:KP:=⟨[],[(1,[0,1,2,4,5,6,7,8,9,11,12,13,14,15,16,18,20,22]),(3,[0,1,2,3,4])]⟩
def Azz:KP:=⟨[],[(1,[0,1,2,4,5,6,7,8,9,10,11,12,13,15,16,17,18,20]),(3,[0,1,2,3,4])]⟩
def Az0:KP:=⟨[],[(1,[0,1,2,4,5,6,7,8,9,11,12,13,14,15,17,19])]⟩
def J2:KP:=⟨[(6,[0,3,4,19]),(8,[0,3,4]),(13,[0,4,33,34,35]),(20,[4])],[(1,[0,2,3,4,5,6,7,8,10,11,12]),(3,[0,1,2,3,4,6,7,8]),(7,[0,1,2,3,4,5,9])]⟩
def Az1:EW:=sE Tryz.f31 J2 jn Q [1,1] (rE Tryz.f31 Q) A5
def Az2:EW:=sE Tryz.f31 J2 jn Q [1,1,1,1] (rE Tryz.f31 Q) A5
def Xo:EW:=cE Tryz.f31 J2 jn Q [1,1,1,1] (rE Tryz.f31 Q) A5
def Az4(r4b r4o:Nat):WP:=jn 20 (Xo jn Q) (us 4 ((pq r4b r4o)::us 46 []))
def U6(m3:Nat)(c0:OA)(r4b r4o:Nat)(t33:Sl)(t34 t35:Int):WP:=CJ PR J2 jn (bE Tryz.f31 [1,1,1,0,1,0,0]) (A6 0 (Az2 jn Q) A5) (rE Tryz.f31 Q) m3 ((.p c0)::us 3 ((pq r4b r4o)::us 28 ((.l t33.a t33.n t33.c)::(.i t34)::(.i t35)::us 15 [])))
def Xn:EW:=cE Tryz.f31 J2 jn Q [1,1] (rE Tryz.f31 Q) A5
def Az3(c0:OA)(o3b o3o r4b r4o:Nat):WP:=jn 8 (Xn jn Q) ((.p c0)::us 2 ((pq o3b o3o)::(pq r4b r4o)::us 46 []))
def Xm:EW:=cE Tryz.f31 J2 jn Q [1,0,1] (Az1 jn Q) A5
def ZB(c0:OA)(o3b o3o r4b r4o:Nat)(t19:Bool):WP:=jn 6 (Xm jn Q) ((.p c0)::us 2 ((pq o3b o3o)::(pq r4b r4o)::us 14 ((.b t19)::us 31 [])))
def Amx:KP:=⟨[(10,[4,5,6])],[(1,[0,1,2,3,4,5,6,9,10,12,13,14,15,16])]⟩
def Xw:EW:=cE Tryz.f34 Amx jn Q [1,1,1] (rE Tryz.f34 Q) A5
def ZF(t4b t4o:Nat)(pick5:Int)(change6:Bool):WP:=jn 10 (Xw jn Q) (us 4 ((pq t4b t4o)::(.i pick5)::(.b change6)::us 23 []))
def Az5:KP:=⟨[],[(1,[0,1,2,3,4,7])]⟩
def J3:KP:=⟨[(6,[0,3,4,16]),(8,[0,3,4]),(11,[0,3,4,21,22,23]),(20,[0,3,4])],[(9,[0,1,2,3,4,5,6,7,8,10,11])]⟩
def Az6:EW:=sE Tryz.f36 J3 jn Q [1,1] (rE Tryz.f36 Q) A5
def Az7:EW:=sE Tryz.f36 J3 jn Q [1,1,1] (rE Tryz.f36 Q) A5
def XE:EW:=cE Tryz.f36 J3 jn Q [1,1,1] (rE Tryz.f36 Q) A5
def Az9(c0:OA)(o3b o3o r4b r4o:Nat):WP:=jn 20 (XE jn Q) ((.p c0)::us 2 ((pq o3b o3o)::(pq r4b r4o)::us 49 []))
def UD(m3:Nat)(c0:OA)(o3b o3o r4b r4o:Nat)(t21:Sl)(t22 t23:Int):WP:=CJ PR J3 jn (bE Tryz.f36 [1,1,0,1,0,0]) (A6 0 (Az7 jn Q) A5) (rE Tryz.f36 Q) m3 ((.p c0)::us 2 ((pq o3b o3o)::(pq r4b r4o)::us 16 ((.l t21.a t21.n t21.c)::(.i t22)::(.i t23)::us 30 [])))
def XD:EW:=cE Tryz.f36 J3 jn Q [1,1] (rE Tryz.f36 Q) A5
def Az8(c0:OA)(o3b o3o r4b r4o:Nat):WP:=jn 8 (XD jn Q) ((.p c0)::us 2 ((pq o3b o3o)::(pq r4b r4o)::us 49 []))
def XC:EW:=cE Tryz.f36 J3 jn Q [1,0,1] (Az6 jn Q) A5
def ZH(c0:OA)(o3b o3o r4b r4o:Nat)(t16:Bool):WP:=jn 6 (XC jn Q) ((.p c0)::us 2 ((pq o3b o3o)::(pq r4b r4o)::us 11 ((.b t16)::us 37 [])))
def Anl:KP:=⟨[(12,[0,1,2])],[]⟩
def XH:EW:=cE Tryz.f48 Anl jn Q [1,1] (rE Tryz.f48 Q) A5
def A0a(kind0 hold1:Int)(t2:OA):WP:=jn 12 (XH jn Q) ((.i kind0)::(.i hold1)::(.p t2)::us 23 [])
def A0b:KP:=⟨[],[(1,[0,1,2,3,4,5,6,7,9,11,13])]⟩
def Po:KP:=⟨[(8,[0,1]),(11,[1,21,22]),(18,[])],[]⟩
def A0c:EW:=sE Tryz.f52 Po jn Q [1,1,1] (rE Tryz.f52 Q) A5
def XJ:EW:=cE Tryz.f52 Po jn Q [1,1,1] (rE Tryz.f52 Q) A5
def A0e:WP:=jn 18 (XJ jn Q) (us 29 [])
def ZO(m2:Nat)(key1:BA)(t21_0 t21_1 t21_2 t21_3 t21_4:OA)(t22:Int):WP:=CJ PR Po jn (bE Tryz.f52 [1,1,0,1,0,0]) (A6 0 (A0c jn Q) A5) (rE Tryz.f52 Q) m2 (us 1 ((.s key1)::us 19 ((.agg #[.p t21_0,.p t21_1,.p t21_2,.p t21_3,.p t21_4])::(.i t22)::us 6 [])))
def XI:EW:=cE Tryz.f52 Po jn Q [1,1] (rE Tryz.f52 Q) A5
def A0d(p0:OA)(key1:BA):WP:=jn 8 (XI jn Q) ((.p p0)::(.s key1)::us 27 [])
def UJ:KP:=⟨[(20,[0,1,2,3,4,14,57]),(26,[0,1,2,3,4,14])],[(8,[0,1,2,4,6,7,8,9,10,12,13,14,15,17,18])]⟩
def Avg:EW:=sE Tryz.f53 UJ jn Q [1,1,1,1,1,1] (rE Tryz.f53 Q) A5
def XL:EW:=cE Tryz.f53 UJ jn Q [1,1,1,1,1,1] (rE Tryz.f53 Q) A5
def A0f(s0:OA)(key1 val2:BA)(now3 life4:Int)(gone14:Sl):WP:=jn 26 (XL jn Q) ((.p s0)::(.s key1)::(.s val2)::(.i now3)::(.i life4)::us 9 ((.l gone14.a gone14.n gone14.c)::us 90 []))
def XK:EW:=cE Tryz.f53 UJ jn Q [1,1,1,1,1,0,1] (Avg jn Q) A5
def UI(s0:OA)(key1 val2:BA)(now3 life4:Int)(gone14:Sl)(t57:Bool):WP:=jn 20 (XK jn Q) ((.p s0)::(.s key1)::(.s val2)::(.i now3)::(.i life4)::us 9 ((.l gone14.a gone14.n gone14.c)::us 42 ((.b t57)::us 47 [])))
def Pp:KP:=⟨[(8,[0,1]),(13,[0,1,5,20,21,22]),(20,[5])],[]⟩
def A0g:EW:=sE Tryz.f55 Pp jn Q [1,1,1,1] (rE Tryz.f55 Q) A5
def XN:EW:=cE Tryz.f55 Pp jn Q [1,1,1,1] (rE Tryz.f55 Q) A5
def A0i(gone5:Sl):WP:=jn 20 (XN jn Q) (us 5 ((.l gone5.a gone5.n gone5.c)::us 28 []))
def UK(m2:Nat)(s0:OA)(now1:Int)(gone5 t20:Sl)(t21 t22:Int):WP:=CJ PR Pp jn (bE Tryz.f55 [1,1,1,0,1,0,0]) (A6 0 (A0g jn Q) A5) (rE Tryz.f55 Q) m2 ((.p s0)::(.i now1)::us 3 ((.l gone5.a gone5.n gone5.c)::us 14 ((.l t20.a t20.n t20.c)::(.i t21)::(.i t22)::us 11 [])))
def XM:EW:=cE Tryz.f55 Pp jn Q [1,1] (rE Tryz.f55 Q) A5
def A0h(s0:OA)(now1:Int):WP:=jn 8 (XM jn Q) ((.p s0)::(.i now1)::us 32 [])
def Anm:KP:=⟨[(24,[0,8])],[(3,[0,1,2,3,4,6,8,9]),(4,[0,1,2,3,4,5,6,10]),(11,[0,1,2,3,4,5,6,8])]⟩
def XO:EW:=cE Tryz.f58 Anm jn Q [1,1,1,1,1] (rE Tryz.f58 Q) A5
def ZT(c0:OA)(pick8:Int):WP:=jn 24 (XO jn Q) ((.p c0)::us 7 ((.i pick8)::us 72 []))
def UL:KP:=⟨[(11,[2,3,13,14]),(20,[2,3])],[(7,[0,1,2,3,4,5,7])]⟩
def A0j:EW:=sE Tryz.f59 UL jn Q [1,1,1] (rE Tryz.f59 Q) A5
def XP:EW:=cE Tryz.f59 UL jn Q [1,1,1] (rE Tryz.f59 Q) A5
def A0k(ghosts2b ghosts2o:Nat)(all3:Int):WP:=jn 20 (XP jn Q) (us 2 ((pq ghosts2b ghosts2o)::(.i all3)::us 25 []))
def ZW(m1:Nat)(ghosts2b ghosts2o:Nat)(all3:Int)(t13_0 t13_1 t13_2 t13_3 t13_4:OA)(t14:Int):WP:=CJ PR UL jn (bE Tryz.f59 [1,1,0,1,0,0]) (A6 0 (A0j jn Q) A5) (rE Tryz.f59 Q) m1 (us 2 ((pq ghosts2b ghosts2o)::(.i all3)::us 9 ((.agg #[.p t13_0,.p t13_1,.p t13_2,.p t13_3,.p t13_4])::(.i t14)::us 14 [])))
def Ann:KP:=⟨[(5,[1,9,10,11])],[]⟩
def UM(m1:Nat)(kind1:Int)(t9:Sl)(t10 t11:Int):WP:=CJ PR Ann jn (bE Tryz.f60 [1,0,0]) (A6 0 (rE Tryz.f60 Q) A5) (rE Tryz.f60 Q) m1 (us 1 ((.i kind1)::us 7 ((.l t9.a t9.n t9.c)::(.i t10)::(.i t11)::us 7 [])))
def XQ:EW:=cE Tryz.f63 Ll jn Q [1,1] (rE Tryz.f63 Q) A5
def A0l(s0:OA)(room1:Int):WP:=jn 8 (XQ jn Q) ((.p s0)::(.i room1)::us 24 [])
def Ano:KP:=⟨[(9,[0,16])],[(5,[0,1,2,3,4,5,8,9,10,11,12,13])]⟩
def ZY(m1:Nat)(p0:OA)(t16:Int):WP:=CJ PR Ano jn (bE Tryz.f64 [1,1,1,0,0]) (A6 0 (rE Tryz.f64 Q) A5) (rE Tryz.f64 Q) m1 ((.p p0)::us 15 ((.i t16)::us 17 []))
def UN:KP:=⟨[(13,[3,11,12,13]),(22,[3])],[]⟩
def A0m:EW:=sE Tryz.f71 UN jn Q [1,1,1,1] (rE Tryz.f71 Q) A5
def XR:EW:=cE Tryz.f71 UN jn Q [1,1,1,1] (rE Tryz.f71 Q) A5
def A0n(l3:Sl):WP:=jn 22 (XR jn Q) (us 3 ((.l l3.a l3.n l3.c)::us 25 []))
def Pt(m1:Nat)(l3 t11:Sl)(t12 t13:Int):WP:=CJ PR UN jn (bE Tryz.f71 [1,1,1,0,1,0,0]) (A6 0 (A0m jn Q) A5) (rE Tryz.f71 Q) m1 (us 3 ((.l l3.a l3.n l3.c)::us 7 ((.l t11.a t11.n t11.c)::(.i t12)::(.i t13)::us 15 [])))
end
variable{jn:Jn}{Q:VW}{c0 s0 c7 p0 t0 m0 t2 x0:OA}{m2 f3_b f3_o m1 o3b o3o r4b r4o m5 m3 t4b t4o c1b c1o kinds5b kinds5o x4b x4o ghosts2b ghosts2o:Nat}{to2 in10 l1 l0 f0_7 c0_7 all5 a0 b1 gone14 gone5 l3:Sl}{o1_0 o1_3 i9 s12 room1 t22 kind0 now3 life4 now1 kind1 f0_0 f0_1 f0_2 f0_3 f0_4 f0_5 f0_6 i3 c0_0 c0_1 c0_2 c0_3 c0_4 c0_5 c0_6 t10 i1 rate0 room0 hold1 now2 all3:Int}{o1_1 o1_2 key1 val2:BA}
theorem Af7:Adk jn Q m2 m5 (us 2 ((.l to2.a to2.n to2.c)::(pq f3_b f3_o)::us 3 ((.p c7)::us 1 ((.i i9)::(.l in10.a in10.n in10.c)::us 1 ((.i s12)::us 105 [])))))=(Ado jn Q m2 m5 to2 f3_b f3_o c7 i9 in10 (IntKind.wrap .i64 (s12+1))):=by kernel_rfl
theorem Af6:Adj jn Q m2 m5 (us 2 ((.l to2.a to2.n to2.c)::(pq f3_b f3_o)::us 3 ((.p c7)::us 1 ((.i i9)::(.l in10.a in10.n in10.c)::us 1 ((.i s12)::us 105 [])))))=(A3 λS=>Jh 19 [.p c7,.i s12] λX44=>An true S<|Dv 22 [.p X44] λX45=>An true S<|Aj X45 (An true S<|An true S<|An true S<|An true S<|An true S<|Q (.b false)) (C1 in10.a in10.n s12 λB46 O47=>Fx S B46 (O47+s12.toNat*1) λX48=>Jh 19 [.p c7,.i s12] λX49=>
 An true S<|F6 21 [.p X49] λX50=>An true S<|Dv 23 [.l X50.a X50.n X50.c,.l X48.a X48.n X48.c] λX51=>An true S<|Aj (!X51) (An true S<|An true S<|Q (.b false)) (C1 to2.a to2.n i9 λB52 O53=>Eh S B52 (O53+i9.toNat*1) λX54=>AX ((5:Int)≠0)<|Jh 19 [.p c7,.i s12] λX55=>An true S<|Bw 24 [.p X55] λX56=>An true S<|Aj (X56 != (Int.tmod (bits .and .i64 X54 1023) 5)) (Q (.b false)) (Ayn jn Q m2 m5 to2 f3_b f3_o c7 i9 in10 s12)))):=by kernel_rfl
theorem SK{m6:Nat}{k13:Int}:Adp jn Q m2 m5 (m6+1) to2 f3_b f3_o c7 i9 in10 s12 k13=(C1 in10.a in10.n s12 λB37 O38=>Ba B37 (O38+s12.toNat*1) λX39=>Aj (decide (k13<=(X39.n:Int))) (λw=>Calls PR 15 #[.p c7,.agg #[.i 6,.s Ae,.s Ae,.i s12]] w λe w'=>∃X40:Int,∃X41:Bool,∃X42:BA,∃X43:Sl,e = .returned (.agg #[.i X40,.b X41,.s X42,.l X43.a X43.n X43.c])/\(Adp jn Q m2 m5 m6 to2 f3_b f3_o c7 i9 in10 s12 (IntKind.wrap .i64 (k13+1))) w') (Ant jn Q m2 m5 to2 f3_b f3_o c7 i9 in10 s12)):=by kernel_rfl
theorem Af8:Adl jn Q m2 (us 2 ((.l to2.a to2.n to2.c)::(pq f3_b f3_o)::us 3 ((.p c7)::us 1 ((.i i9)::us 108 []))))=(Adm jn Q m2 to2 f3_b f3_o c7 (IntKind.wrap .i64 (i9+1))):=by kernel_rfl
theorem SJ:Ado jn Q m2 (m5+1) to2 f3_b f3_o c7 i9 in10 s12=(Ax f3_b f3_o λX36=>Aj (decide (s12<X36)) (D2 λm=>Adp jn Q m2 m5 m to2 f3_b f3_o c7 i9 in10 s12 0) (Ayo jn Q m2 to2 f3_b f3_o c7 i9)):=by kernel_rfl
theorem Af5:Adi jn Q m2 (us 2 ((.l to2.a to2.n to2.c)::(pq f3_b f3_o)::us 3 ((.p c7)::us 1 ((.i i9)::(.l in10.a in10.n in10.c)::us 107 []))))=(C1 to2.a to2.n i9 λB29 O30=>Ax B29 (O30+i9.toNat*1) λX31=>AX ((5:Int)≠0)<|λw=>Calls PR 15 #[.p c7,.agg #[.i 8,.s Ae,.s Ae,.i (Int.tmod (bits .and .i64 X31 1023) 5)]] w λe w'=>∃X32:Int,∃X33:Bool,∃X34:BA,∃X35:Sl,e = .returned (.agg #[.i X32,.b X33,.s X34,.l X35.a X35.n X35.c])/\(D2 λm=>Ado jn Q m2 m to2 f3_b f3_o c7 i9 in10 0) w'):=by kernel_rfl
theorem SI{s11:Int}:Adn jn Q m2 (m3+1) to2 f3_b f3_o c7 i9 in10 s11=(Ax f3_b f3_o λX24=>Aj (decide (s11<X24)) (Jh 19 [.p c7,.i s11] λX25=>F6 21 [.p X25] λX26=>A0 [.l X26.a X26.n X26.c] 36 λB27=>Bn 36 1 24 [.l none 0 0] ⟨in10.a,in10.n,in10.c⟩ 1 (λw=>Hv w (some ⟨B27,0,none⟩) (1*1)) λG28=>Adn jn Q m2 m3 to2 f3_b f3_o c7 i9 G28 (IntKind.wrap .i64 (s11+1))) (Aym jn Q m2 to2 f3_b f3_o c7 i9 in10)):=by kernel_rfl
theorem Aae:XV jn Q (us 118 [])=(Dv 12 [] λX57=>Q (.b X57)):=by kernel_rfl
theorem SH:Adm jn Q (m2+1) to2 f3_b f3_o c7 i9=(Aj (decide (i9<(to2.n:Int))) (D2 λm=>Adn jn Q m2 m to2 f3_b f3_o c7 i9 ⟨none,0,0⟩ 0) (A0v jn Q)):=by kernel_rfl
theorem Af4:Adh jn Q (us 1 ((.l l1.a l1.n l1.c)::(.l to2.a to2.n to2.c)::(pq f3_b f3_o)::us 114 []))=(Ax f3_b f3_o λX12=>Ax f3_b (f3_o+1) λX13=>Ax f3_b ((f3_o+1)+1) λX14=>Ax f3_b (((f3_o+1)+1)+1) λX15=>Ax f3_b ((((f3_o+1)+1)+1)+1) λX16=>Ax f3_b (((((f3_o+1)+1)+1)+1)+1) λX17=>Ax f3_b ((((((f3_o+1)+1)+1)+1)+1)+1) λX18=>Ba f3_b (((((((f3_o+1)+1)+1)+1)+1)+1)+1) λX19=>Gj .ptr .bool PR 13 [.agg #[.i X12,.i X13,.i X14,.i X15,.i X16,.i X17,.i X18,.l X19.a X19.n X19.c]] λ(X20:OA)(X21:Bool)=>
 Aj (!X21) (Dv 12 [] λX22=>Q (.b X22)) (AX ((0:Int)<=(if (150:Int)<(l1.n:Int) then (150:Int) else (l1.n:Int))/\(if (150:Int)<(l1.n:Int) then (150:Int) else (l1.n:Int))<=(l1.c:Int))<|F6 14 [.p X20,.l (Ht l1.a 0 l1.c 4) (((if 150<(l1.n:Int) then 150 else (l1.n:Int))).toNat-0) (l1.c-0)] λX23=>D2 λm=>Adm jn Q m to2 f3_b f3_o X20 0)):=by kernel_rfl
theorem A0w:Au jn PR EI Tryz.f7 [.agg #[.i f0_0,.i f0_1,.i f0_2,.i f0_3,.i f0_4,.i f0_5,.i f0_6,.l f0_7.a f0_7.n f0_7.c],.l l1.a l1.n l1.c,.l to2.a to2.n to2.c] Q=(A0 [.i f0_0,.i f0_1,.i f0_2,.i f0_3,.i f0_4,.i f0_5,.i f0_6,.l f0_7.a f0_7.n f0_7.c] 24 λB1=>Dv 9 [.l l1.a l1.n l1.c] λX2=>Aj X2 (Q (.b true)) (Ax B1 0 λX3=>Ax B1 1 λX4=>Ax B1 2 λX5=>Ax B1 3 λX6=>Ax B1 4 λX7=>
 Ax B1 5 λX8=>Ax B1 6 λX9=>Ba B1 7 λX10=>Dv 10 [.agg #[.i X3,.i X4,.i X5,.i X6,.i X7,.i X8,.i X9,.l X10.a X10.n X10.c]] λX11=>Aj (!X11) (Q (.b true)) (Aj (decide ((to2.n:Int)>8)) (Q (.b true)) (A28 jn Q l1 to2 B1 0)))):=by kernel_rfl
theorem Af9:Adr jn Q m1 ((.l l0.a l0.n l0.c)::us 2 ((.i i3)::us 26 []))=(C1 l0.a l0.n i3 λB1 O2=>BR B1 ((O2+i3.toNat*4)+1) λX3=>Aj (decide ((X3.size:Int)>40)) (Q (.b true)) (C1 l0.a l0.n i3 λB4 O5=>BR B4 ((O5+i3.toNat*4)+2) λX6=>Aj (decide ((X6.size:Int)>100)) (Q (.b true)) (Adt jn Q m1 l0 (IntKind.wrap .i64 (i3+1))))):=by kernel_rfl
theorem IM:Ads jn Q (us 30 [])=(Q (.b false)):=by kernel_rfl
theorem SN:Adt jn Q (m1+1) l0 i3=(Aj (decide (i3<(l0.n:Int))) (Aj (decide (i3<150)) (A3a jn Q m1 l0 i3) (Ayp jn Q)) (Ayp jn Q)):=by kernel_rfl
theorem A06:Au jn PR SM Tryz.f9 [.l l0.a l0.n l0.c] Q=(D2 λm=>Adt jn Q m l0 0):=by kernel_rfl
theorem Are:Au jn PR Av Tryz.f10 [.agg #[.i c0_0,.i c0_1,.i c0_2,.i c0_3,.i c0_4,.i c0_5,.i c0_6,.l c0_7.a c0_7.n c0_7.c]] Q=(A0 [.i c0_0,.i c0_1,.i c0_2,.i c0_3,.i c0_4,.i c0_5,.i c0_6,.l c0_7.a c0_7.n c0_7.c] 24 λB1=>Ax B1 1 λX2=>Aj (decide (X2<=64)) (Ax B1 2 λX3=>Aj (decide (X3<=64)) (Ax B1 3 λX4=>Aj (decide (X4<=64)) (Ba B1 7 λX5=>Q (.b (decide ((X5.n:Int)<=100)))) (Q (.b false))) (Q (.b false))) (
 Q (.b false))):=by kernel_rfl
theorem Z4{c1:OA}:Ws jn Q (us 1 ((.p c1)::us 31 []))=(λw=>Calls PR 15 #[.p c1,.agg #[.i 2,.s QF,.s QG,.i 0]] w λe w'=>∃X3:Int,∃X4:Bool,∃X5:BA,∃X6:Sl,e = .returned (.agg #[.i X3,.b X4,.s X5,.l X6.a X6.n X6.c])/\(λw=>Calls PR 15 #[.p c1,.agg #[.i 1,.s QF,.s Ae,.i 0]] w λe w'=>∃X7:Int,∃X8:Bool,∃X9:BA,∃X10:Sl,e = .returned (.agg #[.i X7,.b X8,.s X9,.l X10.a X10.n X10.c])/\(A0 [.i 0,.b false,.s Ae,.l none 0 0] 38 λB11=>st B11 0 (.i X7)<|st B11 1 (.b X8)<|st B11 2 (.s X9)<|
 st B11 3 (.l X10.a X10.n X10.c)<|HZ B11 1 λX12=>Aj X12 (BR B11 2 λX13=>Aj (sEq X13 QG) (Ax B11 0 λX14=>Q (.b (X14==0))) (Q (.b false))) (Q (.b false))) w') w'):=by kernel_rfl
theorem Arp:Au jn PR Ajl Tryz.f12 [] Q=(Ab0 27 [.agg #[.i 1,.i 2,.i 2,.i 2,.i 0,.i 1,.i 0,.l none 0 0]] λX1 X2=>Aj (X2 != 0) (Q (.b false)) (Aj (Option.isNone X1) (Q (.b false)) (Azo jn Q X1))):=by kernel_rfl
theorem Aru:Au jn PR Av Tryz.f13 [.agg #[.i f0_0,.i f0_1,.i f0_2,.i f0_3,.i f0_4,.i f0_5,.i f0_6,.l f0_7.a f0_7.n f0_7.c]] Q=(A0 [.i f0_0,.i f0_1,.i f0_2,.i f0_3,.i f0_4,.i f0_5,.i f0_6,.l f0_7.a f0_7.n f0_7.c] 24 λB1=>Ax B1 0 λX2=>Ax B1 1 λX3=>Ax B1 2 λX4=>Ax B1 3 λX5=>Ax B1 4 λX6=>Ax B1 5 λX7=>Ax B1 6 λX8=>Ba B1 7 λX9=>Ab0 27 [.agg #[.i X2,.i X3,.i X4,.i X5,.i X6,.i X7,.i X8,.l X9.a X9.n X9.c]] λX10 X11=>
 Aj (X11 != 0) (Q (.tuple #[.p none,.b false])) (Q (.tuple #[.p X10,.b true]))):=by kernel_rfl
theorem Z5:W2 jn Q (us 5 ((.l all5.a all5.n all5.c)::us 16 []))=(Q (.l all5.a all5.n all5.c)):=by kernel_rfl
theorem Pg{t8:Sl}{t9:Int}:Ua jn Q (m1+1) c0 all5 t8 t9 t10=(Aj (decide (t10<t9)) (C1 t8.a t8.n t10 λB1 O2=>Ax B1 (O2+t10.toNat*4) λX3=>BR B1 ((O2+t10.toNat*4)+1) λX4=>BR B1 (((O2+t10.toNat*4)+1)+1) λX5=>Ax B1 ((((O2+t10.toNat*4)+1)+1)+1) λX6=>A0 [.i 0,.s Ae,.s Ae,.i 0] 41 λB7=>st B7 0 (.i X3)<|st B7 1 (.s X4)<|st B7 2 (.s X5)<|st B7 3 (.i X6)<|Ax B7 0 λX8=>BR B7 1 λX9=>BR B7 2 λX10=>Ax B7 3 λX11=>λw=>Calls PR 15 #[.p c0,.agg #[.i X8,.s X9,.s X10,.i X11]] w λe w'=>∃X12:Int,∃X13:Bool,∃X14:BA,∃X15:Sl,e = .returned (.agg #[.i X12,.b X13,.s X14,.l X15.a X15.n X15.c])/\(
 A0 [.i X12,.b X13,.s X14,.l X15.a X15.n X15.c] 38 λB16=>Bn 38 4 56 [.i 0,.b false,.s Ae,.l none 0 0] ⟨all5.a,all5.n,all5.c⟩ 1 (λw=>Hv w (some ⟨B16,0,none⟩) (1*4)) λG17=>Ua jn Q m1 c0 G17 t8 t9 (IntKind.wrap .i64 (t10+1))) w') (Azq jn Q all5)):=by kernel_rfl
theorem Ar3:Au jn PR TZ Tryz.f14 [.p c0,.l l1.a l1.n l1.c] Q=(D2 λm=>Ua jn Q m c0 ⟨none,0,0⟩ l1 (l1.n:Int) 0):=by kernel_rfl
theorem Z6:W9 jn Q ((.p c0)::us 2 ((pq o3b o3o)::(pq t4b t4o)::(pq kinds5b kinds5o)::us 27 []))=(A3 λS=>Eh S o3b o3o λX13=>AX ((0:Int)<=X13/\X13<((10:Nat):Int))<|A1n S kinds5b (kinds5o+X13.toNat*1) (Ax o3b o3o λX14=>BR o3b (o3o+1) λX15=>BR o3b ((o3o+1)+1) λX16=>Ax o3b (((o3o+1)+1)+1) λX17=>An true S<|C8) [
 (15,
 Ax o3b o3o λX18=>BR o3b (o3o+1) λX19=>BR o3b ((o3o+1)+1) λX20=>Ax o3b (((o3o+1)+1)+1) λX21=>An true S<|λw=>Calls PR 15 #[.p c0,.agg #[.i X18,.s X19,.s X20,.i X21]] w λe w'=>∃X22:Int,∃X23:Bool,∃X24:BA,∃X25:Sl,e = .returned (.agg #[.i X22,.b X23,.s X24,.l X25.a X25.n X25.c])/\(st t4b t4o (.i X22)<|st t4b (t4o+1) (.b X23)<|st t4b ((t4o+1)+1) (.s X24)<|st t4b (((t4o+1)+1)+1) (.l X25.a X25.n X25.c)<|Ax t4b t4o λX26=>HZ t4b (t4o+1) λX27=>BR t4b ((t4o+1)+1) λX28=>Ba t4b (((t4o+1)+1)+1) λX29=>
 Q (.agg #[.i X26,.b X27,.s X28,.l X29.a X29.n X29.c])) w'),
 (28,
 Ax o3b o3o λX30=>BR o3b (o3o+1) λX31=>BR o3b ((o3o+1)+1) λX32=>Ax o3b (((o3o+1)+1)+1) λX33=>An true S<|λw=>Calls PR 28 #[.p c0,.agg #[.i X30,.s X31,.s X32,.i X33]] w λe w'=>∃X34:Int,∃X35:Bool,∃X36:BA,∃X37:Sl,e = .returned (.agg #[.i X34,.b X35,.s X36,.l X37.a X37.n X37.c])/\(st t4b t4o (.i X34)<|st t4b (t4o+1) (.b X35)<|st t4b ((t4o+1)+1) (.s X36)<|st t4b (((t4o+1)+1)+1) (.l X37.a X37.n X37.c)<|Ax t4b t4o λX38=>HZ t4b (t4o+1) λX39=>BR t4b ((t4o+1)+1) λX40=>Ba t4b (((t4o+1)+1)+1) λX41=>
 Q (.agg #[.i X38,.b X39,.s X40,.l X41.a X41.n X41.c])) w'),
 (29,
 Ax o3b o3o λX42=>BR o3b (o3o+1) λX43=>BR o3b ((o3o+1)+1) λX44=>Ax o3b (((o3o+1)+1)+1) λX45=>An true S<|λw=>Calls PR 29 #[.p c0,.agg #[.i X42,.s X43,.s X44,.i X45]] w λe w'=>∃X46:Int,∃X47:Bool,∃X48:BA,∃X49:Sl,e = .returned (.agg #[.i X46,.b X47,.s X48,.l X49.a X49.n X49.c])/\(st t4b t4o (.i X46)<|st t4b (t4o+1) (.b X47)<|st t4b ((t4o+1)+1) (.s X48)<|st t4b (((t4o+1)+1)+1) (.l X49.a X49.n X49.c)<|Ax t4b t4o λX50=>HZ t4b (t4o+1) λX51=>BR t4b ((t4o+1)+1) λX52=>Ba t4b (((t4o+1)+1)+1) λX53=>
 Q (.agg #[.i X50,.b X51,.s X52,.l X53.a X53.n X53.c])) w'),
 (30,
 Ax o3b o3o λX54=>BR o3b (o3o+1) λX55=>BR o3b ((o3o+1)+1) λX56=>Ax o3b (((o3o+1)+1)+1) λX57=>An true S<|λw=>Calls PR 30 #[.p c0,.agg #[.i X54,.s X55,.s X56,.i X57]] w λe w'=>∃X58:Int,∃X59:Bool,∃X60:BA,∃X61:Sl,e = .returned (.agg #[.i X58,.b X59,.s X60,.l X61.a X61.n X61.c])/\(st t4b t4o (.i X58)<|st t4b (t4o+1) (.b X59)<|st t4b ((t4o+1)+1) (.s X60)<|st t4b (((t4o+1)+1)+1) (.l X61.a X61.n X61.c)<|Ax t4b t4o λX62=>HZ t4b (t4o+1) λX63=>BR t4b ((t4o+1)+1) λX64=>Ba t4b (((t4o+1)+1)+1) λX65=>
 Q (.agg #[.i X62,.b X63,.s X64,.l X65.a X65.n X65.c])) w'),
 (31,
 Ax o3b o3o λX66=>BR o3b (o3o+1) λX67=>BR o3b ((o3o+1)+1) λX68=>Ax o3b (((o3o+1)+1)+1) λX69=>An true S<|λw=>Calls PR 31 #[.p c0,.agg #[.i X66,.s X67,.s X68,.i X69]] w λe w'=>∃X70:Int,∃X71:Bool,∃X72:BA,∃X73:Sl,e = .returned (.agg #[.i X70,.b X71,.s X72,.l X73.a X73.n X73.c])/\(st t4b t4o (.i X70)<|st t4b (t4o+1) (.b X71)<|st t4b ((t4o+1)+1) (.s X72)<|st t4b (((t4o+1)+1)+1) (.l X73.a X73.n X73.c)<|Ax t4b t4o λX74=>HZ t4b (t4o+1) λX75=>BR t4b ((t4o+1)+1) λX76=>Ba t4b (((t4o+1)+1)+1) λX77=>
 Q (.agg #[.i X74,.b X75,.s X76,.l X77.a X77.n X77.c])) w'),
 (32,
 Ax o3b o3o λX78=>BR o3b (o3o+1) λX79=>BR o3b ((o3o+1)+1) λX80=>Ax o3b (((o3o+1)+1)+1) λX81=>An true S<|λw=>Calls PR 32 #[.p c0,.agg #[.i X78,.s X79,.s X80,.i X81]] w λe w'=>∃X82:Int,∃X83:Bool,∃X84:BA,∃X85:Sl,e = .returned (.agg #[.i X82,.b X83,.s X84,.l X85.a X85.n X85.c])/\(st t4b t4o (.i X82)<|st t4b (t4o+1) (.b X83)<|st t4b ((t4o+1)+1) (.s X84)<|st t4b (((t4o+1)+1)+1) (.l X85.a X85.n X85.c)<|Ax t4b t4o λX86=>HZ t4b (t4o+1) λX87=>BR t4b ((t4o+1)+1) λX88=>Ba t4b (((t4o+1)+1)+1) λX89=>
 Q (.agg #[.i X86,.b X87,.s X88,.l X89.a X89.n X89.c])) w'),
 (33,
 Ax o3b o3o λX90=>BR o3b (o3o+1) λX91=>BR o3b ((o3o+1)+1) λX92=>Ax o3b (((o3o+1)+1)+1) λX93=>An true S<|λw=>Calls PR 33 #[.p c0,.agg #[.i X90,.s X91,.s X92,.i X93]] w λe w'=>∃X94:Int,∃X95:Bool,∃X96:BA,∃X97:Sl,e = .returned (.agg #[.i X94,.b X95,.s X96,.l X97.a X97.n X97.c])/\(st t4b t4o (.i X94)<|st t4b (t4o+1) (.b X95)<|st t4b ((t4o+1)+1) (.s X96)<|st t4b (((t4o+1)+1)+1) (.l X97.a X97.n X97.c)<|Ax t4b t4o λX98=>HZ t4b (t4o+1) λX99=>BR t4b ((t4o+1)+1) λX100=>Ba t4b (((t4o+1)+1)+1) λX101=>
 Q (.agg #[.i X98,.b X99,.s X100,.l X101.a X101.n X101.c])) w'),
 (34,
 Ax o3b o3o λX102=>BR o3b (o3o+1) λX103=>BR o3b ((o3o+1)+1) λX104=>Ax o3b (((o3o+1)+1)+1) λX105=>An true S<|λw=>Calls PR 34 #[.p c0,.agg #[.i X102,.s X103,.s X104,.i X105]] w λe w'=>∃X106:Int,∃X107:Bool,∃X108:BA,∃X109:Sl,e = .returned (.agg #[.i X106,.b X107,.s X108,.l X109.a X109.n X109.c])/\(st t4b t4o (.i X106)<|st t4b (t4o+1) (.b X107)<|st t4b ((t4o+1)+1) (.s X108)<|st t4b (((t4o+1)+1)+1) (.l X109.a X109.n X109.c)<|Ax t4b t4o λX110=>HZ t4b (t4o+1) λX111=>BR t4b ((t4o+1)+1) λX112=>
 Ba t4b (((t4o+1)+1)+1) λX113=>Q (.agg #[.i X110,.b X111,.s X112,.l X113.a X113.n X113.c])) w'),
 (35,
 Ax o3b o3o λX114=>BR o3b (o3o+1) λX115=>BR o3b ((o3o+1)+1) λX116=>Ax o3b (((o3o+1)+1)+1) λX117=>An true S<|λw=>Calls PR 35 #[.p c0,.agg #[.i X114,.s X115,.s X116,.i X117]] w λe w'=>∃X118:Int,∃X119:Bool,∃X120:BA,∃X121:Sl,e = .returned (.agg #[.i X118,.b X119,.s X120,.l X121.a X121.n X121.c])/\(st t4b t4o (.i X118)<|st t4b (t4o+1) (.b X119)<|st t4b ((t4o+1)+1) (.s X120)<|st t4b (((t4o+1)+1)+1) (.l X121.a X121.n X121.c)<|Ax t4b t4o λX122=>HZ t4b (t4o+1) λX123=>BR t4b ((t4o+1)+1) λX124=>
 Ba t4b (((t4o+1)+1)+1) λX125=>Q (.agg #[.i X122,.b X123,.s X124,.l X125.a X125.n X125.c])) w'),
 (36,
 Ax o3b o3o λX126=>BR o3b (o3o+1) λX127=>BR o3b ((o3o+1)+1) λX128=>Ax o3b (((o3o+1)+1)+1) λX129=>An true S<|λw=>Calls PR 36 #[.p c0,.agg #[.i X126,.s X127,.s X128,.i X129]] w λe w'=>∃X130:Int,∃X131:Bool,∃X132:BA,∃X133:Sl,e = .returned (.agg #[.i X130,.b X131,.s X132,.l X133.a X133.n X133.c])/\(st t4b t4o (.i X130)<|st t4b (t4o+1) (.b X131)<|st t4b ((t4o+1)+1) (.s X132)<|st t4b (((t4o+1)+1)+1) (.l X133.a X133.n X133.c)<|Ax t4b t4o λX134=>HZ t4b (t4o+1) λX135=>BR t4b ((t4o+1)+1) λX136=>
 Ba t4b (((t4o+1)+1)+1) λX137=>Q (.agg #[.i X134,.b X135,.s X136,.l X137.a X137.n X137.c])) w')]):=by kernel_rfl
theorem Ph{t24:Bool}:W8 jn Q ((.p c0)::us 2 ((pq o3b o3o)::(pq t4b t4o)::(pq kinds5b kinds5o)::us 18 ((.b t24)::us 8 [])))=(Aj t24 (st t4b t4o (.i 7)<|st t4b (t4o+1) (.b false)<|st t4b ((t4o+1)+1) (.s Ae)<|st t4b (((t4o+1)+1)+1) (.l none 0 0)<|Ax t4b t4o λX9=>HZ t4b (t4o+1) λX10=>BR t4b ((t4o+1)+1) λX11=>Ba t4b (((t4o+1)+1)+1) λX12=>Q (.agg #[.i X9,.b X10,.s X11,.l X12.a X12.n X12.c])) (Azs jn Q c0 o3b o3o t4b t4o kinds5b kinds5o)):=by kernel_rfl
theorem Ar5:Au jn PR Ug Tryz.f15 [.p c0,.agg #[.i o1_0,.s o1_1,.s o1_2,.i o1_3]] Q=(A0 [.i o1_0,.s o1_1,.s o1_2,.i o1_3] 41 λB1=>A0 [.i 0,.b false,.s Ae,.l none 0 0] 38 λB2=>Aj (Option.isNone c0) (st B2 0 (.i 1)<|st B2 1 (.b false)<|st B2 2 (.s Ae)<|st B2 3 (.l none 0 0)<|Ax B2 0 λX3=>HZ B2 1 λX4=>BR B2 2 λX5=>Ba B2 3 λX6=>Q (.agg #[.i X3,.b X4,.s X5,.l X6.a X6.n X6.c])) (A0 [.nilFunc,.nilFunc,.nilFunc,.nilFunc,.nilFunc,.nilFunc,.nilFunc,.nilFunc,.nilFunc,.nilFunc] 64 λB7=>
 st B7 0 .nilFunc<|st B7 1 (.func (.func 28) #[] #[])<|st B7 2 (.func (.func 29) #[] #[])<|st B7 3 (.func (.func 30) #[] #[])<|st B7 4 (.func (.func 31) #[] #[])<|st B7 5 (.func (.func 32) #[] #[])<|st B7 6 (.func (.func 33) #[] #[])<|st B7 7 (.func (.func 34) #[] #[])<|st B7 8 (.func (.func 35) #[] #[])<|st B7 9 (.func (.func 36) #[] #[])<|Ax B1 0 λX8=>Aj (decide (X8<0)) (Ej jn Q c0 B1 0 B2 0 B7 0 true) (Ax B1 0 λX138=>Aj (decide (X138>=10)) (Ej jn Q c0 B1 0 B2 0 B7 0 true) (Ax B1 0 λX139=>AX ((0:Int)<=X139/\X139<((10:Nat):Int))<|ldV B7 (0+X139.toNat*1) (Ej jn Q c0 B1 0 B2 0 B7 0 true) [
 (15,
 Ej jn Q c0 B1 0 B2 0 B7 0 false),
 (28,
 Ej jn Q c0 B1 0 B2 0 B7 0 false),
 (29,
 Ej jn Q c0 B1 0 B2 0 B7 0 false),
 (30,
 Ej jn Q c0 B1 0 B2 0 B7 0 false),
 (31,
 Ej jn Q c0 B1 0 B2 0 B7 0 false),
 (32,
 Ej jn Q c0 B1 0 B2 0 B7 0 false),
 (33,
 Ej jn Q c0 B1 0 B2 0 B7 0 false),
 (34,
 Ej jn Q c0 B1 0 B2 0 B7 0 false),
 (35,
 Ej jn Q c0 B1 0 B2 0 B7 0 false),
 (36,
 Ej jn Q c0 B1 0 B2 0 B7 0 false)])))):=by kernel_rfl
theorem Z7:WI jn Q ((.p c0)::(.i i1)::us 25 [])=(Ad c0 λB4 O5=>Ba B4 O5 λX6=>C1 X6.a X6.n i1 λB7 O8=>Br B7 (O8+i1.toNat*1) λX9=>Q (.p X9)):=by kernel_rfl
theorem Asn:Au jn PR Ll Tryz.f19 [.p c0,.i i1] Q=(Aj (Option.isNone c0) (Q (.p none)) (Aj (decide (i1<0)) (Q (.p none)) (Ad c0 λB1 O2=>Ba B1 O2 λX3=>Aj (decide (i1>=(X3.n:Int))) (Q (.p none)) (Azt jn Q c0 i1)))):=by kernel_rfl
theorem Aso:Au jn PR Av Tryz.f21 [.p s0] Q=(Aj (Option.isNone s0) (Q (.l none 0 0)) (Ad s0 λB1 O2=>Br B1 O2 λX3=>F6 41 [.p X3] λX4=>Q (.l X4.a X4.n X4.c))):=by kernel_rfl
theorem Asp:Au jn PR Av Tryz.f22 [.p s0] Q=(Aj (!Option.isNone s0) (Ad s0 λB1 O2=>Br B1 (O2+2) λX3=>Dv 42 [.p X3] λX4=>Q (.b X4)) (Q (.b false))):=by kernel_rfl
theorem Z8:WJ jn Q (us 26 [])=(Q (.b true)):=by kernel_rfl
theorem Pi{i5:Int}:Un jn Q (m1+1) a0 b1 i5=(Aj (decide (i5<(a0.n:Int))) (A3 λS=>C1 a0.a a0.n i5 λB1 O2=>wLs S B1 (O2+i5.toNat*1) λX3=>C1 b1.a b1.n i5 λB4 O5=>BR B4 (O5+i5.toNat*1) λX6=>An true S<|Aj (!sEq X3 X6) (Q (.b false)) (Un jn Q m1 a0 b1 (IntKind.wrap .i64 (i5+1)))) (Azv jn Q)):=by kernel_rfl
theorem Asq:Au jn PR Um Tryz.f23 [.l a0.a a0.n a0.c,.l b1.a b1.n b1.c] Q=(Aj ((a0.n:Int) != (b1.n:Int)) (Q (.b false)) (D2 λm=>Un jn Q m a0 b1 0)):=by kernel_rfl
theorem Ast:Au jn PR Av Tryz.f24 [.p s0] Q=(Aj (Option.isNone s0) (Q (.i (-1))) (Ad s0 λB1 O2=>Br B1 (O2+2) λX3=>Bw 43 [.p X3] λX4=>Q (.i X4))):=by kernel_rfl
theorem ZA:Xa jn Q (us 1 ((pq c1b c1o)::us 2 ((pq x4b x4o)::us 91 [])))=(A3 λS=>Eh S c1b (c1o+6) λX27=>Eh S c1b (c1o+5) λX28=>Ba c1b (c1o+7) λX29=>An true S<|Jh 49 [.l X29.a X29.n X29.c] λX30=>An true S<|Ab0 48 [.i X27,.i X28,.p X30] λX31 X32=>Aj (X32 != 0) (Q (.tuple #[.p none,.i X32])) (Ad (some ⟨x4b,x4o,none⟩) λB33 O34=>st B33 (O34+2) (.p X31)<|Q (.tuple #[pq x4b x4o,.i 0]))):=by kernel_rfl
theorem Pk{t48 t49:Int}:Ux jn Q (m2+1) c1b c1o x4b x4o t48 t49=(Aj (decide (t49<t48)) (Ax c1b (c1o+1) λX14=>Ax c1b (c1o+2) λX15=>Ax c1b (c1o+3) λX16=>Ax c1b (c1o+6) λX17=>Ab0 47 [.i X14,.i X15,.i X16,.i X17] λX18 X19=>Aj (X19 != 0) (Q (.tuple #[.p none,.i X19])) (Ad (some ⟨x4b,x4o,none⟩) λB20 O21=>Ba B20 O21 λX22=>A0 [.p X18] 50 λB23=>Bn 50 1 8 [.p none] ⟨X22.a,X22.n,X22.c⟩ 1 (λw=>Hv w (some ⟨B23,0,none⟩) (1*1)) λG24=>
 Ad (some ⟨x4b,x4o,none⟩) λB25 O26=>st B25 O26 (.l G24.a G24.n G24.c)<|Ux jn Q m2 c1b c1o x4b x4o t48 (IntKind.wrap .i64 (t49+1)))) (Alj jn Q c1b c1o x4b x4o)):=by kernel_rfl
theorem Z9:WZ jn Q (us 1 ((pq c1b c1o)::us 94 []))=(Ax c1b (c1o+4) λX8=>Ax c1b (c1o+1) λX9=>Ax c1b c1o λX10=>Jh 46 [.i X8,.i (IntKind.wrap .i64 (X9*X10))] λX11=>A0 [.l none 0 0,.p X11,.p none,.i 0] 73 λB12=>Ax c1b c1o λX13=>D2 λm=>Ux jn Q m c1b c1o B12 0 X13 0):=by kernel_rfl
theorem Ata:Au jn PR Pj Tryz.f27 [.agg #[.i c0_0,.i c0_1,.i c0_2,.i c0_3,.i c0_4,.i c0_5,.i c0_6,.l c0_7.a c0_7.n c0_7.c]] Q=(A0 [.i c0_0,.i c0_1,.i c0_2,.i c0_3,.i c0_4,.i c0_5,.i c0_6,.l c0_7.a c0_7.n c0_7.c] 24 λB1=>Ax B1 0 λX2=>Aj (decide (X2<1)) (Q (.tuple #[.p none,.i 1])) (Ax B1 0 λX3=>Aj (decide (X3>8)) (Q (.tuple #[.p none,.i 1])) (Ax B1 1 λX4=>Aj (decide (X4<1)) (Q (.tuple #[.p none,.i 1])) (
 Ax B1 1 λX5=>Aj (decide (X5>1024)) (Q (.tuple #[.p none,.i 1])) (Ax B1 4 λX6=>Aj (decide (X6<0)) (Q (.tuple #[.p none,.i 1])) (Ax B1 4 λX7=>Aj (decide (X7>16777216)) (Q (.tuple #[.p none,.i 1])) (Azx jn Q B1 0))))))):=by kernel_rfl
theorem Atf:Au jn PR Azy Tryz.f28 [.p c0,.agg #[.i o1_0,.s o1_1,.s o1_2,.i o1_3]] Q=(A0 [.i o1_0,.s o1_1,.s o1_2,.i o1_3] 41 λB1=>A0 [.i 0,.b false,.s Ae,.l none 0 0] 38 λB2=>A3 λS=>wLs S B1 1 λX3=>wLs S B1 1 λX4=>Ad c0 λB5 O6=>Eh S B5 (O6+3) λX7=>Jh 50 [.p c0,.s X3] λX8=>An true S<|λw=>Calls PR 51 #[.p X8,.s X4,.i X7] w λe w'=>∃X9:BA,∃X10:Bool,∃X11:Sl,∃X12:Int,e = .returned (.tuple #[.s X9,.b X10,.l X11.a X11.n X11.c,.i X12])/\(
 st B2 2 (.s X9)<|st B2 1 (.b X10)<|st B2 3 (.l X11.a X11.n X11.c)<|st B2 0 (.i X12)<|Ax B2 0 λX13=>Aj (X13==0) (A3 λS=>Ad c0 λB14 O15=>EO S B14 (O15+1) λX16=>BR B1 1 λX17=>An true S<|Dv 52 [.p X16,.s X17] λX18=>Ax B2 0 λX19=>HZ B2 1 λX20=>BR B2 2 λX21=>Ba B2 3 λX22=>st B2 0 (.i X19)<|st B2 1 (.b X20)<|st B2 2 (.s X21)<|st B2 3 (.l X22.a X22.n X22.c)<|Ax B2 0 λX23=>HZ B2 1 λX24=>BR B2 2 λX25=>Ba B2 3 λX26=>Q (.agg #[.i X23,.b X24,.s X25,.l X26.a X26.n X26.c])) (
 Ax B2 0 λX27=>HZ B2 1 λX28=>BR B2 2 λX29=>Ba B2 3 λX30=>st B2 0 (.i X27)<|st B2 1 (.b X28)<|st B2 2 (.s X29)<|st B2 3 (.l X30.a X30.n X30.c)<|Ax B2 0 λX31=>HZ B2 1 λX32=>BR B2 2 λX33=>Ba B2 3 λX34=>Q (.agg #[.i X31,.b X32,.s X33,.l X34.a X34.n X34.c]))) w'):=by kernel_rfl
theorem Atj:Au jn PR Azz Tryz.f29 [.p c0,.agg #[.i o1_0,.s o1_1,.s o1_2,.i o1_3]] Q=(A0 [.i o1_0,.s o1_1,.s o1_2,.i o1_3] 41 λB1=>A0 [.i 0,.b false,.s Ae,.l none 0 0] 38 λB2=>A3 λS=>wLs S B1 1 λX3=>wLs S B1 1 λX4=>wLs S B1 2 λX5=>Ad c0 λB6 O7=>Eh S B6 (O7+3) λX8=>Eh S B1 3 λX9=>Jh 50 [.p c0,.s X3] λX10=>An true S<|Gj .slc (.int .i64) PR 53 [.p X10,.s X4,.s X5,.i X8,.i X9] λ(X11:Sl)(X12:Int)=>
 st B2 3 (.l X11.a X11.n X11.c)<|st B2 0 (.i X12)<|Ax B2 0 λX13=>Aj (X13==0) (A3 λS=>Ad c0 λB14 O15=>EO S B14 (O15+1) λX16=>BR B1 1 λX17=>An true S<|Dv 52 [.p X16,.s X17] λX18=>Ax B2 0 λX19=>HZ B2 1 λX20=>BR B2 2 λX21=>Ba B2 3 λX22=>st B2 0 (.i X19)<|st B2 1 (.b X20)<|st B2 2 (.s X21)<|st B2 3 (.l X22.a X22.n X22.c)<|Ax B2 0 λX23=>HZ B2 1 λX24=>BR B2 2 λX25=>Ba B2 3 λX26=>Q (.agg #[.i X23,.b X24,.s X25,.l X26.a X26.n X26.c])) (
 Ax B2 0 λX27=>HZ B2 1 λX28=>BR B2 2 λX29=>Ba B2 3 λX30=>st B2 0 (.i X27)<|st B2 1 (.b X28)<|st B2 2 (.s X29)<|st B2 3 (.l X30.a X30.n X30.c)<|Ax B2 0 λX31=>HZ B2 1 λX32=>BR B2 2 λX33=>Ba B2 3 λX34=>Q (.agg #[.i X31,.b X32,.s X33,.l X34.a X34.n X34.c]))):=by kernel_rfl
theorem Ato:Au jn PR Az0 Tryz.f30 [.p c0,.agg #[.i o1_0,.s o1_1,.s o1_2,.i o1_3]] Q=(A0 [.i o1_0,.s o1_1,.s o1_2,.i o1_3] 41 λB1=>A0 [.i 0,.b false,.s Ae,.l none 0 0] 38 λB2=>A3 λS=>wLs S B1 1 λX3=>wLs S B1 1 λX4=>Ad c0 λB5 O6=>Eh S B5 (O6+3) λX7=>Jh 50 [.p c0,.s X3] λX8=>An true S<|A26 .bool .slc (.int .i64) PR 54 [.p X8,.s X4,.i X7] λ(X9:Bool)(X10:Sl)(X11:Int)=>st B2 1 (.b X9)<|st B2 3 (.l X10.a X10.n X10.c)<|
 st B2 0 (.i X11)<|Ax B2 0 λX12=>HZ B2 1 λX13=>BR B2 2 λX14=>Ba B2 3 λX15=>st B2 0 (.i X12)<|st B2 1 (.b X13)<|st B2 2 (.s X14)<|st B2 3 (.l X15.a X15.n X15.c)<|Ax B2 0 λX16=>HZ B2 1 λX17=>BR B2 2 λX18=>Ba B2 3 λX19=>Q (.agg #[.i X16,.b X17,.s X18,.l X19.a X19.n X19.c])):=by kernel_rfl
theorem ZE:Xo jn Q (us 4 ((pq r4b r4o)::us 46 []))=(Ax r4b r4o λX26=>HZ r4b (r4o+1) λX27=>BR r4b ((r4o+1)+1) λX28=>Ba r4b (((r4o+1)+1)+1) λX29=>st r4b r4o (.i X26)<|st r4b (r4o+1) (.b X27)<|st r4b ((r4o+1)+1) (.s X28)<|st r4b (((r4o+1)+1)+1) (.l X29.a X29.n X29.c)<|Ax r4b r4o λX30=>HZ r4b (r4o+1) λX31=>BR r4b ((r4o+1)+1) λX32=>Ba r4b (((r4o+1)+1)+1) λX33=>Q (.agg #[.i X30,.b X31,.s X32,.l X33.a X33.n X33.c])):=by kernel_rfl
theorem Pm{t33:Sl}{t34 t35:Int}:U6 jn Q (m3+1) c0 r4b r4o t33 t34 t35=(Aj (decide (t35<t34)) (C1 t33.a t33.n t35 λB17 O18=>Br B17 (O18+t35.toNat*1) λX19=>A3 λS=>Fx S r4b (r4o+3) λX20=>Ad c0 λB21 O22=>Ax B21 (O22+3) λX23=>An true S<|F6 55 [.p X19,.i X23] λX24=>An true S<|Bn 9 1 16 [.s Ae] ⟨X20.a,X20.n,X20.c⟩ X24.n (λw=>Hv w X24.a (X24.n*1)) λG25=>st r4b (r4o+3) (.l G25.a G25.n G25.c)<|U6 jn Q m3 c0 r4b r4o t33 t34 (IntKind.wrap .i64 (t35+1))) (Az4 jn Q r4b r4o)):=by kernel_rfl
theorem ZD:Xn jn Q ((.p c0)::us 2 ((pq o3b o3o)::(pq r4b r4o)::us 46 []))=(A3 λS=>Ad c0 λB8 O9=>Eh S B8 (O9+3) λX10=>Ax o3b (o3o+3) λX11=>An true S<|Ad c0 λB12 O13=>st B12 (O13+3) (.i (IntKind.wrap .i64 (X10+X11)))<|Ad c0 λB14 O15=>Ba B14 O15 λX16=>D2 λm=>U6 jn Q m c0 r4b r4o X16 (X16.n:Int) 0):=by kernel_rfl
theorem ZC{t19:Bool}:Xm jn Q ((.p c0)::us 2 ((pq o3b o3o)::(pq r4b r4o)::us 14 ((.b t19)::us 31 [])))=(Aj t19 (st r4b r4o (.i 1)<|st r4b (r4o+1) (.b false)<|st r4b ((r4o+1)+1) (.s Ae)<|st r4b (((r4o+1)+1)+1) (.l none 0 0)<|Ax r4b r4o λX4=>HZ r4b (r4o+1) λX5=>BR r4b ((r4o+1)+1) λX6=>Ba r4b (((r4o+1)+1)+1) λX7=>Q (.agg #[.i X4,.b X5,.s X6,.l X7.a X7.n X7.c])) (Az3 jn Q c0 o3b o3o r4b r4o)):=by kernel_rfl
theorem Atu:Au jn PR J2 Tryz.f31 [.p c0,.agg #[.i o1_0,.s o1_1,.s o1_2,.i o1_3]] Q=(A0 [.i o1_0,.s o1_1,.s o1_2,.i o1_3] 41 λB1=>A0 [.i 0,.b false,.s Ae,.l none 0 0] 38 λB2=>A3 λS=>Ax B1 3 λX3=>An true S<|Aj (decide (X3<0)) (An true S<|ZB jn Q c0 B1 0 B2 0 true) (Eh S B1 3 λX34=>Ad c0 λB35 O36=>Ax B35 (O36+3) λX37=>An true S<|ZB jn Q c0 B1 0 B2 0 (decide (X34>(IntKind.wrap .i64 (1125899906842624-X37)))))):=by kernel_rfl
theorem At2:Au jn PR Av Tryz.f32 [.p c0,.agg #[.i o1_0,.s o1_1,.s o1_2,.i o1_3]] Q=(A0 [.i o1_0,.s o1_1,.s o1_2,.i o1_3] 41 λB1=>A0 [.i 0,.b false,.s Ae,.l none 0 0] 38 λB2=>Ax B1 3 λX3=>Jh 19 [.p c0,.i X3] λX4=>Aj (Option.isNone X4) (st B2 0 (.i 1)<|st B2 1 (.b false)<|st B2 2 (.s Ae)<|st B2 3 (.l none 0 0)<|Ax B2 0 λX5=>HZ B2 1 λX6=>BR B2 2 λX7=>Ba B2 3 λX8=>Q (.agg #[.i X5,.b X6,.s X7,.l X8.a X8.n X8.c])) (
 Bw 56 [.p X4] λX9=>st B2 0 (.i 0)<|st B2 1 (.b (decide (X9>0)))<|st B2 2 (.s Ae)<|st B2 3 (.l none 0 0)<|Ax B2 0 λX10=>HZ B2 1 λX11=>BR B2 2 λX12=>Ba B2 3 λX13=>Q (.agg #[.i X10,.b X11,.s X12,.l X13.a X13.n X13.c]))):=by kernel_rfl
theorem At8:Au jn PR Av Tryz.f33 [.p c0,.agg #[.i o1_0,.s o1_1,.s o1_2,.i o1_3]] Q=(A0 [.i o1_0,.s o1_1,.s o1_2,.i o1_3] 41 λB1=>A0 [.i 0,.b false,.s Ae,.l none 0 0] 38 λB2=>Ax B1 3 λX3=>Jh 19 [.p c0,.i X3] λX4=>Aj (Option.isNone X4) (st B2 0 (.i 1)<|st B2 1 (.b false)<|st B2 2 (.s Ae)<|st B2 3 (.l none 0 0)<|Ax B2 0 λX5=>HZ B2 1 λX6=>BR B2 2 λX7=>Ba B2 3 λX8=>Q (.agg #[.i X5,.b X6,.s X7,.l X8.a X8.n X8.c])) (
 EG 57 [.p X4] λX9 X10=>st B2 2 (.s X9)<|st B2 1 (.b X10)<|Ax B2 0 λX11=>HZ B2 1 λX12=>BR B2 2 λX13=>Ba B2 3 λX14=>st B2 0 (.i X11)<|st B2 1 (.b X12)<|st B2 2 (.s X13)<|st B2 3 (.l X14.a X14.n X14.c)<|Ax B2 0 λX15=>HZ B2 1 λX16=>BR B2 2 λX17=>Ba B2 3 λX18=>Q (.agg #[.i X15,.b X16,.s X17,.l X18.a X18.n X18.c]))):=by kernel_rfl
theorem ZG{pick5:Int}{change6:Bool}:Xw jn Q (us 4 ((pq t4b t4o)::(.i pick5)::(.b change6)::us 23 []))=(TC 61 [.i pick5] λX17=>st t4b t4o (.i 0)<|st t4b (t4o+1) (.b change6)<|st t4b ((t4o+1)+1) (.s X17)<|st t4b (((t4o+1)+1)+1) (.l none 0 0)<|Ax t4b t4o λX18=>HZ t4b (t4o+1) λX19=>BR t4b ((t4o+1)+1) λX20=>Ba t4b (((t4o+1)+1)+1) λX21=>Q (.agg #[.i X18,.b X19,.s X20,.l X21.a X21.n X21.c])):=by kernel_rfl
theorem Auf{p1_0:Int}{p1_1 p1_2:BA}{p1_3:Int}:Au jn PR Amx Tryz.f34 [.p c0,.agg #[.i p1_0,.s p1_1,.s p1_2,.i p1_3]] Q=(A0 [.i p1_0,.s p1_1,.s p1_2,.i p1_3] 41 λB1=>A0 [.i 0,.b false,.s Ae,.l none 0 0] 38 λB2=>A3 λS=>Ad c0 λB3 O4=>EO S B3 (O4+2) λX5=>Ad c0 λB6 O7=>Br B6 (O7+1) λX8=>An true S<|λw=>Calls PR 59 #[.p X8] w λe w'=>∃X9:Int,∃X10:Int,∃X11:Int,∃X12:Int,∃X13:Int,∃X14:Int,e = .returned (.tuple #[.agg #[.i X9,.i X10,.i X11,.i X12,.i X13],.i X14])/\(
 An true S<|F7 58 [.p X5,.agg #[.i X9,.i X10,.i X11,.i X12,.i X13],.i X14] λX15 X16=>Aj X16 (wz 60 [.p c0,.i X15]<|ZF jn Q B2 0 X15 X16) (ZF jn Q B2 0 X15 X16)) w'):=by kernel_rfl
theorem Aut:Au jn PR Az5 Tryz.f35 [.p c0,.agg #[.i o1_0,.s o1_1,.s o1_2,.i o1_3]] Q=(A0 [.i o1_0,.s o1_1,.s o1_2,.i o1_3] 41 λB1=>A0 [.i 0,.b false,.s Ae,.l none 0 0] 38 λB2=>A3 λS=>Ad c0 λB3 O4=>EO S B3 (O4+2) λX5=>Ax B1 3 λX6=>An true S<|Bw 62 [.p X5,.i X6] λX7=>Aj (X7==0) (Ax B1 3 λX8=>wz 60 [.p c0,.i X8]<|st B2 0 (.i X7)<|st B2 1 (.b false)<|st B2 2 (.s Ae)<|
 st B2 3 (.l none 0 0)<|Ax B2 0 λX9=>HZ B2 1 λX10=>BR B2 2 λX11=>Ba B2 3 λX12=>Q (.agg #[.i X9,.b X10,.s X11,.l X12.a X12.n X12.c])) (st B2 0 (.i X7)<|st B2 1 (.b false)<|st B2 2 (.s Ae)<|st B2 3 (.l none 0 0)<|Ax B2 0 λX13=>HZ B2 1 λX14=>BR B2 2 λX15=>Ba B2 3 λX16=>Q (.agg #[.i X13,.b X14,.s X15,.l X16.a X16.n X16.c]))):=by kernel_rfl
theorem ZK:XE jn Q ((.p c0)::us 2 ((pq o3b o3o)::(pq r4b r4o)::us 49 []))=(A3 λS=>Ad c0 λB19 O20=>EO S B19 (O20+1) λX21=>Eh S o3b (o3o+3) λX22=>Ad c0 λB23 O24=>Ba B23 O24 λX25=>An true S<|wz 64 [.p X21,.i (IntKind.wrap .i64 (X22*(X25.n:Int)))]<|Ax r4b r4o λX26=>HZ r4b (r4o+1) λX27=>BR r4b ((r4o+1)+1) λX28=>Ba r4b (((r4o+1)+1)+1) λX29=>st r4b r4o (.i X26)<|st r4b (r4o+1) (.b X27)<|st r4b ((r4o+1)+1) (.s X28)<|st r4b (((r4o+1)+1)+1) (.l X29.a X29.n X29.c)<|
 Ax r4b r4o λX30=>HZ r4b (r4o+1) λX31=>BR r4b ((r4o+1)+1) λX32=>Ba r4b (((r4o+1)+1)+1) λX33=>Q (.agg #[.i X30,.b X31,.s X32,.l X33.a X33.n X33.c])):=by kernel_rfl
theorem Pn{t21:Sl}{t23:Int}:UD jn Q (m3+1) c0 o3b o3o r4b r4o t21 t22 t23=(Aj (decide (t23<t22)) (C1 t21.a t21.n t23 λB11 O12=>Br B11 (O12+t23.toNat*1) λX13=>Ax o3b (o3o+3) λX14=>Gj .slc (.int .i64) PR 63 [.p X13,.i X14] λ(X15:Sl)(X16:Int)=>Ba r4b (r4o+3) λX17=>Bn 9 1 16 [.s Ae] ⟨X17.a,X17.n,X17.c⟩ X15.n (λw=>Hv w X15.a (X15.n*1)) λG18=>st r4b (r4o+3) (.l G18.a G18.n G18.c)<|UD jn Q m3 c0 o3b o3o r4b r4o t21 t22 (IntKind.wrap .i64 (t23+1))) (Az9 jn Q c0 o3b o3o r4b r4o)):=by kernel_rfl
theorem ZJ:XD jn Q ((.p c0)::us 2 ((pq o3b o3o)::(pq r4b r4o)::us 49 []))=(Ad c0 λB8 O9=>Ba B8 O9 λX10=>D2 λm=>UD jn Q m c0 o3b o3o r4b r4o X10 (X10.n:Int) 0):=by kernel_rfl
theorem ZI{t16:Bool}:XC jn Q ((.p c0)::us 2 ((pq o3b o3o)::(pq r4b r4o)::us 11 ((.b t16)::us 37 [])))=(Aj t16 (st r4b r4o (.i 1)<|st r4b (r4o+1) (.b false)<|st r4b ((r4o+1)+1) (.s Ae)<|st r4b (((r4o+1)+1)+1) (.l none 0 0)<|Ax r4b r4o λX4=>HZ r4b (r4o+1) λX5=>BR r4b ((r4o+1)+1) λX6=>Ba r4b (((r4o+1)+1)+1) λX7=>Q (.agg #[.i X4,.b X5,.s X6,.l X7.a X7.n X7.c])) (Az8 jn Q c0 o3b o3o r4b r4o)):=by kernel_rfl
theorem Auw:Au jn PR J3 Tryz.f36 [.p c0,.agg #[.i o1_0,.s o1_1,.s o1_2,.i o1_3]] Q=(A0 [.i o1_0,.s o1_1,.s o1_2,.i o1_3] 41 λB1=>A0 [.i 0,.b false,.s Ae,.l none 0 0] 38 λB2=>Ax B1 3 λX3=>Aj (decide (X3<1)) (ZH jn Q c0 B1 0 B2 0 true) (Ax B1 3 λX34=>ZH jn Q c0 B1 0 B2 0 (decide (X34>1024)))):=by kernel_rfl
theorem Au6:Au jn PR Av Tryz.f40 [.p t0] Q=(Aj (Option.isNone t0) (Q (.i 0)) (Ad t0 λB1 O2=>Br B1 O2 λX3=>Bw 70 [.p X3] λX4=>Q (.i X4))):=by kernel_rfl
theorem Au7:Au jn PR Av Tryz.f41 [.p t0] Q=(Aj (Option.isNone t0) (Q (.l none 0 0)) (Ad t0 λB1 O2=>Br B1 O2 λX3=>F6 71 [.p X3] λX4=>Q (.l X4.a X4.n X4.c))):=by kernel_rfl
theorem Adg:Au jn PR Av Tryz.f42 [.p m0] Q=(Aj (!Option.isNone m0) (Ad m0 λB1 O2=>MY B1 (O2+3) (Q (.b false)) λ(t_3:TypeId)(v_4:Value)=>Q (.b true)) (Q (.b false))):=by kernel_rfl
theorem Au8:Au jn PR Av Tryz.f43 [.p m0] Q=(Aj (Option.isNone m0) (Q (.i (-1))) (Ad m0 λB1 O2=>Ax B1 O2 λX3=>Q (.i X3))):=by kernel_rfl
theorem Au9:Au jn PR Av Tryz.f46 [.i rate0,.i room1] Q=(Jh 73 [.i rate0] λX1=>A0 [.p X1,.i 0,.p none,.p none,.p none,.p none,.p none] 131 λB2=>wz 64 [pq B2 0,.i room1]<|Q (pq B2 0)):=by kernel_rfl
theorem Ava{reads1 writes2 kind3:Int}:Au jn PR Av Tryz.f47 [.i room0,.i reads1,.i writes2,.i kind3] Q=(Dv 74 [.i room0] λX1=>Aj (!X1) (Q (.tuple #[.p none,.i 1])) (Ab0 75 [.i reads1,.i writes2] λX2 X3=>Aj (X3 != 0) (Q (.tuple #[.p none,.i X3])) (Ab0 76 [.i kind3,.i room0] λX4 X5=>Aj (X5 != 0) (Q (.tuple #[.p none,.i X5])) (Jh 77 [] λX6=>A0 [.p X6,.p X2,.p X4,.i 0,.i 0,.i 0,.i 0,.i 0,.i 0,.l none 0 0] 79 λB7=>
 Q (.tuple #[pq B7 0,.i 0]))))):=by kernel_rfl
theorem ZL:XH jn Q ((.i kind0)::(.i hold1)::(.p t2)::us 23 [])=(λw=>Calls PR 79 #[] w λe w'=>∃X2:Int,∃X3:Int,∃X4:Int,∃X5:Int,∃X6:Int,e = .returned (.agg #[.int .u64 X2,.int .u64 X3,.int .u64 X4,.int .u64 X5,.int .u64 X6])/\(A0 [.i kind0,.i hold1,.p t2,.int .u64 X2,.int .u64 X3,.int .u64 X4,.int .u64 X5,.int .u64 X6,.i kind0,.i 0] 143 λB7=>Q (.tuple #[pq B7 0,.i 0])) w'):=by kernel_rfl
theorem Avb:Au jn PR Anl Tryz.f48 [.i kind0,.i hold1,.p t2] Q=(Dv 78 [.i kind0] λX1=>Aj (!X1) (Q (.tuple #[.p none,.i 4])) (Aj (decide (hold1<1)) (Q (.tuple #[.p none,.i 1])) (Aj (decide (hold1>256)) (Q (.tuple #[.p none,.i 1])) (A0a jn Q kind0 hold1 t2)))):=by kernel_rfl
theorem Avc{draws0:Sl}:Au jn PR Av Tryz.f49 [.l draws0.a draws0.n draws0.c] Q=(F6 80 [.l draws0.a draws0.n draws0.c] λX1=>A0 [.l X1.a X1.n X1.c,.i 0] 147 λB2=>Q (pq B2 0)):=by kernel_rfl
theorem Avd:Au jn PR A0b Tryz.f50 [.p c0,.s key1] Q=(A3 λS=>Ad c0 λB1 O2=>Fx S B1 O2 λX3=>Ad c0 λB4 O5=>Ba B4 O5 λX6=>An true S<|Bw 81 [.s key1,.i (X6.n:Int)] λX7=>An true S<|C1 X3.a X3.n X7 λB8 O9=>Br B8 (O9+X7.toNat*1) λX10=>Q (.p X10)):=by kernel_rfl
theorem Ave:Au jn PR Av Tryz.f51 [.p s0,.s key1,.i now2] Q=(Bw 82 [.p s0,.s key1,.i now2] λX1=>Aj (X1 != 0) (Q (.tuple #[.s Ae,.b false,.l none 0 0,.i X1])) (F6 83 [.p s0,.s key1,.i now2] λX2=>Ad s0 λB3 O4=>wz 84 [.p (some ⟨B3,(O4+3),none⟩)]<|Ad s0 λB5 O6=>Br B5 O6 λX7=>EG 85 [.p X7,.s key1,.i now2] λX8 X9=>Aj X9 (Ad s0 λB10 O11=>wz 84 [.p (some ⟨B10,((O11+3)+1),none⟩)]<|
 Ad s0 λB12 O13=>Br B12 (O13+1) λX14=>Dv 86 [.p X14,.s key1] λX15=>Aj (!X15) (Ad s0 λB16 O17=>wz 84 [.p (some ⟨B16,((O17+3)+4),none⟩)]<|Q (.tuple #[.s X8,.b X9,.l X2.a X2.n X2.c,.i 0])) (Q (.tuple #[.s X8,.b X9,.l X2.a X2.n X2.c,.i 0]))) (Q (.tuple #[.s X8,.b X9,.l X2.a X2.n X2.c,.i 0])))):=by kernel_rfl
theorem ZN:XJ jn Q (us 29 [])=(Q (.b true)):=by kernel_rfl
theorem EP{t21_0 t21_1 t21_2 t21_3 t21_4:OA}:ZO jn Q (m2+1) key1 t21_0 t21_1 t21_2 t21_3 t21_4 t22=(Aj (decide (t22<5)) (AX ((0:Int)<=t22/\t22<((5:Nat):Int))<|λw=>∃X12:OA,([.p t21_0,.p t21_1,.p t21_2,.p t21_3,.p t21_4]:List Value)[t22.toNat]? = some (.p X12)/\Cu (.p X12)=false/\(Dv 88 [.p X12,.s key1] λX13=>ZO jn Q m2 key1 t21_0 t21_1 t21_2 t21_3 t21_4 (IntKind.wrap .i64 (t22+1))) w) (A0e jn Q)):=by kernel_rfl
theorem ZM:XI jn Q ((.p p0)::(.s key1)::us 27 [])=(Ad p0 λB5 O6=>Br B5 (O6+2) λX7=>Br B5 ((O6+2)+1) λX8=>Br B5 (((O6+2)+1)+1) λX9=>Br B5 ((((O6+2)+1)+1)+1) λX10=>Br B5 (((((O6+2)+1)+1)+1)+1) λX11=>D2 λm=>ZO jn Q m key1 X7 X8 X9 X10 X11 0):=by kernel_rfl
theorem Avf:Au jn PR Po Tryz.f52 [.p p0,.s key1] Q=(Aj (Option.isNone p0) (Q (.b false)) (Ad p0 λB1 O2=>Br B1 O2 λX3=>Dv 87 [.p X3,.s key1] λX4=>Aj (!X4) (Q (.b false)) (A0d jn Q p0 key1))):=by kernel_rfl
theorem ZQ:XL jn Q ((.p s0)::(.s key1)::(.s val2)::(.i now3)::(.i life4)::us 9 ((.l gone14.a gone14.n gone14.c)::us 90 []))=(Bw 93 [.p s0] λX16=>Ad s0 λB17 O18=>Br B17 (O18+2) λX19=>F6 94 [.p X19,.s key1] λX20=>Ad s0 λB21 O22=>Ba B21 (O22+9) λX23=>A0 [.i 2,.s key1] 159 λB24=>Bn 159 2 24 [.i 0,.s Ae] ⟨X23.a,X23.n,X23.c⟩ 1 (λw=>Hv w (some ⟨B24,0,none⟩) (1*2)) λG25=>Ad s0 λB26 O27=>st B26 (O27+9) (.l G25.a G25.n G25.c)<|
 wz 95 [.p s0,.l X20.a X20.n X20.c]<|Ad s0 λB28 O29=>Br B28 O29 λX30=>A2t 89 [.p X30,.s key1,.s val2,.i now3,.i life4] λX31 X32=>Bn 9 1 16 [.s Ae] ⟨gone14.a,gone14.n,gone14.c⟩ X20.n (λw=>Hv w X20.a (X20.n*1)) λG33=>Q (.tuple #[.l G33.a G33.n G33.c,.i 0])):=by kernel_rfl
theorem ZP{t57:Bool}:XK jn Q ((.p s0)::(.s key1)::(.s val2)::(.i now3)::(.i life4)::us 9 ((.l gone14.a gone14.n gone14.c)::us 42 ((.b t57)::us 47 [])))=(Aj t57 (Ad s0 λB11 O12=>Br B11 O12 λX13=>A2t 89 [.p X13,.s key1,.s val2,.i now3,.i life4] λX14 X15=>wz 92 [.p s0,.i 2,.s key1]<|Q (.tuple #[.l gone14.a gone14.n gone14.c,.i 0])) (A0f jn Q s0 key1 val2 now3 life4 gone14)):=by kernel_rfl
theorem Avh:Au jn PR UJ Tryz.f53 [.p s0,.s key1,.s val2,.i now3,.i life4] Q=(Aj (Option.isNone s0) (Q (.tuple #[.l none 0 0,.i 1])) (Jh 77 [] λX1=>A2t 89 [.p X1,.s key1,.s val2,.i now3,.i life4] λX2 X3=>Aj (X3 != 0) (Q (.tuple #[.l none 0 0,.i X3])) (F6 83 [.p s0,.s key1,.i now3] λX4=>Ad s0 λB5 O6=>wz 84 [.p (some ⟨B5,((O6+3)+2),none⟩)]<|A3 λS=>Ad s0 λB7 O8=>Br B7 O8 λX9=>
 An true S<|Dv 90 [.p X9,.s key1] λX10=>An true S<|Aj X10 (An true S<|UI jn Q s0 key1 val2 now3 life4 X4 true) (Ad s0 λB34 O35=>EO S B34 O35 λX36=>Ad s0 λB37 O38=>EO S B37 (O38+2) λX39=>Bw 40 [.p X36] λX40=>An true S<|Bw 91 [.p X39] λX41=>UI jn Q s0 key1 val2 now3 life4 X4 (decide (X40<X41)))))):=by kernel_rfl
theorem Avi:Au jn PR Av Tryz.f54 [.p s0,.s key1,.i now2] Q=(Bw 82 [.p s0,.s key1,.i now2] λX1=>Aj (X1 != 0) (Q (.tuple #[.b false,.l none 0 0,.i X1])) (F6 83 [.p s0,.s key1,.i now2] λX2=>Ad s0 λB3 O4=>Br B3 O4 λX5=>Dv 96 [.p X5,.s key1] λX6=>Aj X6 (wz 92 [.p s0,.i 3,.s key1]<|Q (.tuple #[.b X6,.l X2.a X2.n X2.c,.i 0])) (Q (.tuple #[.b X6,.l X2.a X2.n X2.c,.i 0])))):=by kernel_rfl
theorem ZS:XN jn Q (us 5 ((.l gone5.a gone5.n gone5.c)::us 28 []))=(Q (.l gone5.a gone5.n gone5.c)):=by kernel_rfl
theorem Pq{t20:Sl}{t21:Int}:UK jn Q (m2+1) s0 now1 gone5 t20 t21 t22=(Aj (decide (t22<t21)) (C1 t20.a t20.n t22 λB6 O7=>BR B6 (O7+t22.toNat*1) λX8=>F6 83 [.p s0,.s X8,.i now1] λX9=>Bn 9 1 16 [.s Ae] ⟨gone5.a,gone5.n,gone5.c⟩ X9.n (λw=>Hv w X9.a (X9.n*1)) λG10=>UK jn Q m2 s0 now1 G10 t20 t21 (IntKind.wrap .i64 (t22+1))) (A0i jn Q gone5)):=by kernel_rfl
theorem ZR:XM jn Q ((.p s0)::(.i now1)::us 32 [])=(Ad s0 λB2 O3=>Br B2 O3 λX4=>F6 98 [.p X4,.i now1] λX5=>D2 λm=>UK jn Q m s0 now1 ⟨none,0,0⟩ X5 (X5.n:Int) 0):=by kernel_rfl
theorem Avj:Au jn PR Pp Tryz.f55 [.p s0,.i now1] Q=(Aj (Option.isNone s0) (Q (.l none 0 0)) (Dv 97 [.i now1] λX1=>Aj (!X1) (Q (.l none 0 0)) (A0h jn Q s0 now1))):=by kernel_rfl
theorem Avk:Au jn PR Av Tryz.f56 [.p s0] Q=(Aj (Option.isNone s0) (Q (.i 0)) (Bw 93 [.p s0] λX1=>Q (.i X1))):=by kernel_rfl
theorem Avl:Au jn PR Av Tryz.f57 [.p s0] Q=(Aj (Option.isNone s0) (Q (.tuple #[.s Ae,.b false])) (Bw 93 [.p s0] λX1=>Ad s0 λB2 O3=>Br B2 (O3+2) λX4=>EG 99 [.p X4] λX5 X6=>Aj X6 (Ad s0 λB7 O8=>wz 84 [.p (some ⟨B7,((O8+3)+5),none⟩)]<|Q (.tuple #[.s X5,.b X6])) (Q (.tuple #[.s X5,.b X6])))):=by kernel_rfl
theorem ZU{pick8:Int}:XO jn Q ((.p c0)::us 7 ((.i pick8)::us 72 []))=(A3 λS=>Ad c0 λB48 O49=>Eh S B48 (O49+9) λX50=>Ad c0 λB51 O52=>Ax B51 (O52+1) λX53=>An true S<|Aj (decide (X50<X53)) (Q (.tuple #[.i pick8,.b false])) (Bw 62 [.p c0,.i pick8] λX54=>Q (.tuple #[.i pick8,.b true]))):=by kernel_rfl
theorem Avm{ghosts1_0 ghosts1_1 ghosts1_2 ghosts1_3 ghosts1_4 all2:Int}:Au jn PR Anm Tryz.f58 [.p c0,.agg #[.i ghosts1_0,.i ghosts1_1,.i ghosts1_2,.i ghosts1_3,.i ghosts1_4],.i all2] Q=(A0 [.i ghosts1_0,.i ghosts1_1,.i ghosts1_2,.i ghosts1_3,.i ghosts1_4] 100 λB1=>Aj (Option.isNone c0) (Q (.tuple #[.i 0,.b false])) (A3 λS=>Ad c0 λB2 O3=>Zd S B2 (O3+3) λX4=>Zd S B2 ((O3+3)+1) λX5=>Zd S B2 (((O3+3)+1)+1) λX6=>Zd S B2 ((((O3+3)+1)+1)+1) λX7=>Zd S B2 (((((O3+3)+1)+1)+1)+1) λX8=>
 Ax B1 0 λX9=>Ax B1 1 λX10=>Ax B1 2 λX11=>Ax B1 3 λX12=>Ax B1 4 λX13=>An true S<|λw=>Calls PR 100 #[.agg #[.int .u64 X4,.int .u64 X5,.int .u64 X6,.int .u64 X7,.int .u64 X8],.agg #[.i X9,.i X10,.i X11,.i X12,.i X13],.i all2] w λe w'=>∃X14:Int,∃X15:Int,∃X16:Int,∃X17:Int,∃X18:Int,e = .returned (.agg #[.int .u64 X14,.int .u64 X15,.int .u64 X16,.int .u64 X17,.int .u64 X18])/\(Ad c0 λB19 O20=>st B19 (O20+3) (.int .u64 X14)<|st B19 ((O20+3)+1) (.int .u64 X15)<|st B19 (((O20+3)+1)+1) (.int .u64 X16)<|st B19 ((((O20+3)+1)+1)+1) (.int .u64 X17)<|
 st B19 (((((O20+3)+1)+1)+1)+1) (.int .u64 X18)<|A3 λS=>Ad c0 λB21 O22=>Zd S B21 (O22+3) λX23=>Zd S B21 ((O22+3)+1) λX24=>Zd S B21 (((O22+3)+1)+1) λX25=>Zd S B21 ((((O22+3)+1)+1)+1) λX26=>Zd S B21 (((((O22+3)+1)+1)+1)+1) λX27=>Ad c0 λB28 O29=>Br B28 (O29+2) λX30=>An true S<|call1 (.int .u32) PR 102 [.p X30] λ(X31:Int)=>An true S<|Bw 101 [.agg #[.int .u64 X23,.int .u64 X24,.int .u64 X25,.int .u64 X26,.int .u64 X27],.int .u32 X31] λX32=>Ad c0 λB33 O34=>Ax B33 O34 λX35=>Aj (X32==X35) (
 Ad c0 λB36 O37=>st B36 (O37+8) (.i X32)<|Ad c0 λB38 O39=>st B38 (O39+9) (.i 0)<|Q (.tuple #[.i X32,.b false])) (Ad c0 λB40 O41=>Ax B40 (O41+8) λX42=>Aj (X32==X42) (Ad c0 λB43 O44=>Ax B43 (O44+9) λX45=>Ad c0 λB46 O47=>st B46 (O47+9) (.i (IntKind.wrap .i64 (X45+1)))<|ZT jn Q c0 X32) (Ad c0 λB55 O56=>st B55 (O56+8) (.i X32)<|Ad c0 λB57 O58=>st B57 (O58+9) (.i 1)<|ZT jn Q c0 X32))) w')):=by kernel_rfl
theorem ZV:XP jn Q (us 2 ((pq ghosts2b ghosts2o)::(.i all3)::us 25 []))=(Ax ghosts2b ghosts2o λX26=>Ax ghosts2b (ghosts2o+1) λX27=>Ax ghosts2b ((ghosts2o+1)+1) λX28=>Ax ghosts2b (((ghosts2o+1)+1)+1) λX29=>Ax ghosts2b ((((ghosts2o+1)+1)+1)+1) λX30=>st ghosts2b ghosts2o (.i X26)<|st ghosts2b (ghosts2o+1) (.i X27)<|st ghosts2b ((ghosts2o+1)+1) (.i X28)<|st ghosts2b (((ghosts2o+1)+1)+1) (.i X29)<|st ghosts2b ((((ghosts2o+1)+1)+1)+1) (.i X30)<|Ax ghosts2b ghosts2o λX31=>
 Ax ghosts2b (ghosts2o+1) λX32=>Ax ghosts2b ((ghosts2o+1)+1) λX33=>Ax ghosts2b (((ghosts2o+1)+1)+1) λX34=>Ax ghosts2b ((((ghosts2o+1)+1)+1)+1) λX35=>Q (.tuple #[.agg #[.i X31,.i X32,.i X33,.i X34,.i X35],.i all3])):=by kernel_rfl
theorem ER{t13_0 t13_1 t13_2 t13_3 t13_4:OA}{t14:Int}:ZW jn Q (m1+1) ghosts2b ghosts2o all3 t13_0 t13_1 t13_2 t13_3 t13_4 t14=(Aj (decide (t14<5)) (AX ((0:Int)<=t14/\t14<((5:Nat):Int))<|λw=>∃X19:OA,([.p t13_0,.p t13_1,.p t13_2,.p t13_3,.p t13_4]:List Value)[t14.toNat]? = some (.p X19)/\Cu (.p X19)=false/\(λw=>Calls PR 103 #[.p X19] w λe w'=>∃X20:Int,∃X21:Int,∃X22:Int,e = .returned (.agg #[.i X20,.i X21,.i X22])/\(A0 [.i 0,.i 0,.i 0] 165 λB23=>st B23 0 (.i X20)<|st B23 1 (.i X21)<|
 st B23 2 (.i X22)<|A3 λS=>Eh S B23 2 λX24=>Eh S B23 0 λX25=>AX ((0:Int)<=t14/\t14<((5:Nat):Int))<|st ghosts2b (ghosts2o+t14.toNat*1) (.i X24)<|An true S<|ZW jn Q m1 ghosts2b ghosts2o X25 t13_0 t13_1 t13_2 t13_3 t13_4 (IntKind.wrap .i64 (t14+1))) w') w) (A0k jn Q ghosts2b ghosts2o all3)):=by kernel_rfl
theorem Avn:Au jn PR UL Tryz.f59 [.p p0] Q=(A0 [.i 0,.i 0,.i 0,.i 0,.i 0] 100 λB1=>Aj (Option.isNone p0) (Ax B1 0 λX2=>Ax B1 1 λX3=>Ax B1 2 λX4=>Ax B1 3 λX5=>Ax B1 4 λX6=>st B1 0 (.i X2)<|st B1 1 (.i X3)<|st B1 2 (.i X4)<|st B1 3 (.i X5)<|st B1 4 (.i X6)<|Ax B1 0 λX7=>Ax B1 1 λX8=>Ax B1 2 λX9=>Ax B1 3 λX10=>Ax B1 4 λX11=>Q (.tuple #[.agg #[.i X7,.i X8,.i X9,.i X10,.i X11],.i 0])) (
 Ad p0 λB12 O13=>Br B12 (O13+2) λX14=>Br B12 ((O13+2)+1) λX15=>Br B12 (((O13+2)+1)+1) λX16=>Br B12 ((((O13+2)+1)+1)+1) λX17=>Br B12 (((((O13+2)+1)+1)+1)+1) λX18=>D2 λm=>ZW jn Q m B1 0 0 X14 X15 X16 X17 X18 0)):=by kernel_rfl
theorem Pr{t9:Sl}{t11:Int}:UM jn Q (m1+1) kind1 t9 t10 t11=(Aj (decide (t11<t10)) (C1 t9.a t9.n t11 λB4 O5=>Br B4 (O5+t11.toNat*1) λX6=>Bw 104 [.p X6,.i kind1] λX7=>UM jn Q m1 kind1 t9 t10 (IntKind.wrap .i64 (t11+1))) (Q (.tuple #[]))):=by kernel_rfl
theorem Avo:Au jn PR Ann Tryz.f60 [.p c0,.i kind1] Q=(Ad c0 λB1 O2=>Ba B1 O2 λX3=>D2 λm=>UM jn Q m kind1 X3 (X3.n:Int) 0):=by kernel_rfl
theorem Avp:Au jn PR Av Tryz.f61 [.i kind0] Q=(Aj (kind0==0) (Q (.s Ax0)) (Aj (kind0==1) (Q (.s Ap5)) (Aj (kind0==2) (Q (.s A2k)) (Aj (kind0==3) (Q (.s YX)) (Aj (kind0==4) (Q (.s Abt)) (Q (.s Ae))))))):=by kernel_rfl
theorem Avq:Au jn PR Av Tryz.f62 [.p c0,.i kind1] Q=(Aj (Option.isNone c0) (Q (.i 1)) (Dv 78 [.i kind1] λX1=>Aj (!X1) (Q (.i 4)) (Ad c0 λB2 O3=>st B2 O3 (.i kind1)<|Ad c0 λB4 O5=>st B4 (O5+8) (.i kind1)<|Ad c0 λB6 O7=>st B6 (O7+9) (.i 0)<|Q (.i 0)))):=by kernel_rfl
theorem ZX:XQ jn Q ((.p s0)::(.i room1)::us 24 [])=(Bw 93 [.p s0] λX2=>Ad s0 λB3 O4=>Br B3 (O4+2) λX5=>F6 105 [.p X5,.i room1] λX6=>wz 95 [.p s0,.l X6.a X6.n X6.c]<|Q (.tuple #[.l X6.a X6.n X6.c,.i 0])):=by kernel_rfl
theorem Avr:Au jn PR Ll Tryz.f63 [.p s0,.i room1] Q=(Aj (Option.isNone s0) (Q (.tuple #[.l none 0 0,.i 1])) (Dv 74 [.i room1] λX1=>Aj (!X1) (Q (.tuple #[.l none 0 0,.i 1])) (A0l jn Q s0 room1))):=by kernel_rfl
theorem ES{t16:Int}:ZY jn Q (m1+1) p0 t16=(Aj (decide (t16<5)) (A3 λS=>Ad p0 λB7 O8=>Ad p0 λB9 O10=>Ax B7 (O8+1) λX11=>Ab0 107 [.i t16,.i X11] λX12 X13=>AX ((0:Int)<=t16/\t16<((5:Nat):Int))<|st B9 ((O10+2)+t16.toNat*1) (.p X12)<|ZY jn Q m1 p0 (IntKind.wrap .i64 (t16+1))) (Q (.tuple #[]))):=by kernel_rfl
theorem Avs:Au jn PR Ano Tryz.f64 [.p p0,.i room1] Q=(Aj (Option.isNone p0) (Q (.tuple #[])) (Ad p0 λB1 O2=>Br B1 O2 λX3=>Bw 106 [.p X3,.i room1] λX4=>Ad p0 λB5 O6=>st B5 (O6+1) (.i X4)<|D2 λm=>ZY jn Q m p0 0)):=by kernel_rfl
theorem Avt:Au jn PR Av Tryz.f70 [.p x0] Q=(Aj (Option.isNone x0) (Q (.i 0)) (Ad x0 λB1 O2=>Ax B1 (O2+2) λX3=>Q (.i X3))):=by kernel_rfl
theorem ZZ:XR jn Q (us 3 ((.l l3.a l3.n l3.c)::us 25 []))=(wz 112 [.l l3.a l3.n l3.c]<|Q (.l l3.a l3.n l3.c)):=by kernel_rfl
theorem Pu{t11:Sl}{t12 t13:Int}:Pt jn Q (m1+1) l3 t11 t12 t13=(Aj (decide (t13<t12)) (C1 t11.a t11.n t13 λB4 O5=>Ax B4 (O5+t13.toNat*4) λX6=>BR B4 ((O5+t13.toNat*4)+1) λX7=>BR B4 (((O5+t13.toNat*4)+1)+1) λX8=>Ax B4 ((((O5+t13.toNat*4)+1)+1)+1) λX9=>A0 [.i 0,.s Ae,.s Ae,.i 0] 178 λB10=>st B10 0 (.i X6)<|st B10 1 (.s X7)<|st B10 2 (.s X8)<|st B10 3 (.i X9)<|Ax B10 0 λX11=>Aj (X11==2) (BR B10 1 λX12=>A0 [.s X12] 9 λB13=>Bn 9 1 16 [.s Ae] ⟨l3.a,l3.n,l3.c⟩ 1 (λw=>Hv w (some ⟨B13,0,none⟩) (1*1)) λG14=>
 Pt jn Q m1 G14 t11 t12 (IntKind.wrap .i64 (t13+1))) (Pt jn Q m1 l3 t11 t12 (IntKind.wrap .i64 (t13+1)))) (A0n jn Q l3)):=by kernel_rfl
theorem Avu:Au jn PR UN Tryz.f71 [.p x0] Q=(Aj (Option.isNone x0) (Q (.l none 0 0)) (Ad x0 λB1 O2=>Ba B1 (O2+1) λX3=>D2 λm=>Pt jn Q m ⟨none,0,0⟩ X3 (X3.n:Int) 0)):=by kernel_rfl
theorem Avv{n0 low1 high2:Int}:Au jn PR Av Tryz.f72 [.i n0,.i low1,.i high2] Q=(Q (.i (if high2<(if low1>n0 then low1 else n0) then high2 else (if low1>n0 then low1 else n0)))):=by kernel_rfl
theorem Avw:Au jn PR Av Tryz.f73 [.i rate0] Q=(Bw 72 [.i rate0,.i 0,.i 16777216] λX1=>A0 [.i X1,.i 0,.i 0] 181 λB2=>Q (pq B2 0)):=by kernel_rfl
theorem Avx:Au jn PR Av Tryz.f74 [.i room0] Q=(Aj (decide (room0>=1)) (Q (.b (decide (room0<=1024)))) (Q (.b false))):=by kernel_rfl
end Go.Proofs.YtjipofkjmmpjdaaGreat
namespace Go.Proofs.YtjipofkjmmpjdaaGreat
open Go.Hb
section
variable(jn:Jn)(Q:VW)
def Anp:KP:=⟨[(8,[0,1])],[(3,[0,2,3,5,6,8,9])]⟩
def XS:EW:=cE Tryz.f75 Anp jn Q [1,1] (rE Tryz.f75 Q) A5
def A0o(reads0 writes1:Int):WP:=jn 8 (XS jn Q) ((.i reads0)::(.i writes1)::us 26 [])
def UO:KP:=⟨[(9,[0,1,3]),(16,[0,1])],[]⟩
def A0p:EW:=sE Tryz.f79 UO jn Q [1,1,1] (rE Tryz.f79 Q) A5
def XT:EW:=cE Tryz.f79 UO jn Q [1,1,1] (rE Tryz.f79 Q) A5
def A0q(t0b t0o w1b w1o:Nat):WP:=jn 16 (XT jn Q) ((pq t0b t0o)::(pq w1b w1o)::us 9 [])
def UP(m1:Nat)(t0b t0o w1b w1o:Nat)(t3:Int):WP:=CJ PR UO jn (bE Tryz.f79 [1,1,0,1,0,0]) (A6 0 (A0p jn Q) A5) (rE Tryz.f79 Q) m1 ((pq t0b t0o)::(pq w1b w1o)::us 1 ((.i t3)::us 7 []))
def Anv:KP:=⟨[(10,[0,1])],[]⟩
def XW:EW:=cE Tryz.f83 Anv jn Q [1,1] (rE Tryz.f83 Q) A5
def Anu(s0:OA)(key1:BA):WP:=jn 10 (XW jn Q) ((.p s0)::(.s key1)::us 36 [])
def A0x:KP:=⟨[],[(4,[0,2,3,4,5,7])]⟩
def Py:KP:=⟨[(12,[0,5,6,7]),(19,[0,5,43,44,45]),(26,[5])],[]⟩
def A0y:EW:=sE Tryz.f88 Py jn Q [1,1,1,1,1,1,1] (rE Tryz.f88 Q) A5
def XY:EW:=cE Tryz.f88 Py jn Q [1,1,1,1,1,1,1] (rE Tryz.f88 Q) A5
def A0z(hit5:Bool):WP:=jn 26 (XY jn Q) (us 5 ((.b hit5)::us 51 []))
def Aai(m2:Nat)(s0:OA)(hit5:Bool)(t43:Sl)(t44 t45:Int):WP:=CJ PR Py jn (bE Tryz.f88 [1,1,1,1,1,1,0,1,0,0]) (A6 0 (A0y jn Q) A5) (rE Tryz.f88 Q) m2 ((.p s0)::us 4 ((.b hit5)::us 37 ((.l t43.a t43.n t43.c)::(.i t44)::(.i t45)::us 11 [])))
def XX:EW:=cE Tryz.f88 Py jn Q [1,1,1,1] (rE Tryz.f88 Q) A5
def Aag(s0:OA)(hit5:Bool)(went6:Sl)(back7:Bool):WP:=jn 12 (XX jn Q) ((.p s0)::us 4 ((.b hit5)::(.l went6.a went6.n went6.c)::(.b back7)::us 49 []))
def Aam:KP:=⟨[(20,[0,1,2,3,4]),(26,[0,1,12])],[(12,[0,1,2,3,4,7,8])]⟩
def Ya:EW:=cE Tryz.f89 Aam jn Q [1,1,1,1] (rE Tryz.f89 Q) A5
def Aak(t0:OA)(key1:BA)(v12b v12o:Nat):WP:=jn 26 (Ya jn Q) ((.p t0)::(.s key1)::us 10 ((pq v12b v12o)::us 41 []))
def XZ:EW:=cE Tryz.f89 Aam jn Q [1,1] (rE Tryz.f89 Q) A5
def A00(t0:OA)(key1 val2:BA)(now3 life4:Int):WP:=jn 20 (XZ jn Q) ((.p t0)::(.s key1)::(.s val2)::(.i now3)::(.i life4)::us 49 [])
def US:KP:=⟨[(9,[0,3,11,12,13]),(16,[0,3])],[(5,[0,1,2,3,4])]⟩
def A01:EW:=sE Tryz.f93 US jn Q [1,1,1] (rE Tryz.f93 Q) A5
def Yb:EW:=cE Tryz.f93 US jn Q [1,1,1] (rE Tryz.f93 Q) A5
def A02(s0:OA)(l3:Sl):WP:=jn 16 (Yb jn Q) ((.p s0)::us 2 ((.l l3.a l3.n l3.c)::us 33 []))
def UT(m1:Nat)(s0:OA)(l3 t11:Sl)(t12 t13:Int):WP:=CJ PR US jn (bE Tryz.f93 [1,1,0,1,0,0]) (A6 0 (A01 jn Q) A5) (rE Tryz.f93 Q) m1 ((.p s0)::us 2 ((.l l3.a l3.n l3.c)::us 7 ((.l t11.a t11.n t11.c)::(.i t12)::(.i t13)::us 23 [])))
def Lm:KP:=⟨[(15,[0,1,5]),(16,[0,1,5]),(20,[0,1,5])],[(6,[0,2,3,4,5,6,7,8,10,11])]⟩
def Aao:EW:=sE Tryz.f94 Lm jn Q [1,1,1,1,1] (rE Tryz.f94 Q) A5
def A03(m1:Nat):EW:=Ia PR Lm jn (bE Tryz.f94 [1,1,1,1,0,0,0]) (A6 0 (Aao jn Q) A5) (rE Tryz.f94 Q) m1
def Yc(m1:Nat):EW:=cE Tryz.f94 Lm jn Q [1,1,1,1,0,0,0,1] (A03 jn Q m1) (A6 0 (Aao jn Q) A5)
def Anw(m1:Nat)(m0:OA)(key1:BA)(gone5:Sl):WP:=jn 16 (Yc jn Q m1) ((.p m0)::(.s key1)::us 3 ((.l gone5.a gone5.n gone5.c)::us 45 []))
def Yd:EW:=cE Tryz.f94 Lm jn Q [1,1,1,1,1] (rE Tryz.f94 Q) A5
def P0(m0:OA)(key1:BA)(gone5:Sl):WP:=jn 20 (Yd jn Q) ((.p m0)::(.s key1)::us 3 ((.l gone5.a gone5.n gone5.c)::us 45 []))
def UU(m1:Nat)(m0:OA)(key1:BA)(gone5:Sl):WP:=CJ PR Lm jn (bE Tryz.f94 [1,1,1,1,0,0,0]) (A6 0 (Aao jn Q) A5) (rE Tryz.f94 Q) m1 ((.p m0)::(.s key1)::us 3 ((.l gone5.a gone5.n gone5.c)::us 45 []))
def Anx:KP:=⟨[(5,[0,6,7,8])],[]⟩
def P3(m1:Nat)(s0:OA)(t6:Sl)(t7 t8:Int):WP:=CJ PR Anx jn (bE Tryz.f95 [1,0,0]) (A6 0 (rE Tryz.f95 Q) A5) (rE Tryz.f95 Q) m1 ((.p s0)::us 5 ((.l t6.a t6.n t6.c)::(.i t7)::(.i t8)::us 15 []))
def UV:KP:=⟨[(9,[0,1,5,11,12,13]),(20,[5])],[]⟩
def A04:EW:=sE Tryz.f98 UV jn Q [1,1,1] (rE Tryz.f98 Q) A5
def Ye:EW:=cE Tryz.f98 UV jn Q [1,1,1] (rE Tryz.f98 Q) A5
def A05(l5:Sl):WP:=jn 20 (Ye jn Q) (us 5 ((.l l5.a l5.n l5.c)::us 29 []))
def P5(m1:Nat)(t0:OA)(now1:Int)(l5 t11:Sl)(t12 t13:Int):WP:=CJ PR UV jn (bE Tryz.f98 [1,1,0,1,0,0]) (A6 0 (A04 jn Q) A5) (rE Tryz.f98 Q) m1 ((.p t0)::(.i now1)::us 3 ((.l l5.a l5.n l5.c)::us 5 ((.l t11.a t11.n t11.c)::(.i t12)::(.i t13)::us 21 [])))
def H8:KP:=⟨[(11,[2,3,4,6,14]),(18,[3,6]),(23,[3,6,8,32]),(30,[3,6])],[(6,[0,1,2,3,4,5,7,11])]⟩
def Aq5:EW:=sE Tryz.f100 H8 jn Q [1,1,1] (rE Tryz.f100 Q) A5
def Aiw:EW:=sE Tryz.f100 H8 jn Q [1,1,1,1,1] (rE Tryz.f100 Q) A5
def Rv:EW:=cE Tryz.f100 H8 jn Q [1,1,1,1,1] (rE Tryz.f100 Q) A5
def Aq7(w3b w3o t6b t6o:Nat):WP:=jn 30 (Rv jn Q) (us 3 ((pq w3b w3o)::us 2 ((pq t6b t6o)::us 39 [])))
def N1(m3:Nat)(w3b w3o t6b t6o:Nat)(t8 t32:Int):WP:=CJ PR H8 jn (bE Tryz.f100 [1,1,1,1,0,1,0,0]) (A6 2 (Aiw jn Q) A5) (rE Tryz.f100 Q) m3 (us 3 ((pq w3b w3o)::us 2 ((pq t6b t6o)::us 1 ((.int .u64 t8)::us 23 ((.i t32)::us 13 [])))))
def Ru:EW:=cE Tryz.f100 H8 jn Q [1,1,1] (rE Tryz.f100 Q) A5
def Aq6(w3b w3o t6b t6o:Nat):WP:=jn 18 (Ru jn Q) (us 3 ((pq w3b w3o)::us 2 ((pq t6b t6o)::us 39 [])))
def N0(m1:Nat)(all2:Int)(w3b w3o ghosts4b ghosts4o t6b t6o:Nat)(t14:Int):WP:=CJ PR H8 jn (bE Tryz.f100 [1,1,0,1,0,0]) (A6 0 (Aq5 jn Q) A5) (rE Tryz.f100 Q) m1 (us 2 ((.i all2)::(pq w3b w3o)::(pq ghosts4b ghosts4o)::us 1 ((pq t6b t6o)::us 7 ((.i t14)::us 31 []))))
def N2:KP:=⟨[(9,[1,5,8,9]),(20,[])],[]⟩
def Aq8:EW:=sE Tryz.f101 N2 jn Q [1,1,1] (rE Tryz.f101 Q) A5
def Rw:EW:=cE Tryz.f101 N2 jn Q [1,1,1] (rE Tryz.f101 Q) A5
def Aq9:WP:=jn 20 (Rw jn Q) (us 22 [])
def N3(m1:Nat)(draw1 sum5 t8_0 t8_1 t8_2 t8_3 t8_4 t9:Int):WP:=CJ PR N2 jn (bE Tryz.f101 [1,1,0,1,0,0]) (A6 0 (Aq8 jn Q) A5) (rE Tryz.f101 Q) m1 (us 1 ((.int .u32 draw1)::us 3 ((.int .u64 sum5)::us 2 ((.agg #[.int .u64 t8_0,.int .u64 t8_1,.int .u64 t8_2,.int .u64 t8_3,.int .u64 t8_4])::(.i t9)::us 12 []))))
def Ara:KP:=⟨[],[(4,[0,1,2,3,4,5,6,8,9]),(6,[0,1,2,3,4,5,6,8,9,11])]⟩
def N4:KP:=⟨[(10,[0,1,8]),(16,[0,1])],[]⟩
def Acd:EW:=sE Tryz.f104 N4 jn Q [1,1] (rE Tryz.f104 Q) A5
def Ry:EW:=cE Tryz.f104 N4 jn Q [1,1] (rE Tryz.f104 Q) A5
def Arb(s0:OA)(kind1:Int):WP:=jn 16 (Ry jn Q) ((.p s0)::(.i kind1)::us 29 [])
def Rx:EW:=cE Tryz.f104 N4 jn Q [1,0,0,1,1,1] (Acd jn Q) (A6 0 (Acd jn Q) A5)
def Ace(s0:OA)(kind1:Int)(t8:Bool):WP:=jn 10 (Rx jn Q) ((.p s0)::(.i kind1)::us 6 ((.b t8)::us 22 []))
def N5:KP:=⟨[(15,[0,5]),(20,[0,5])],[(6,[0,2,3,4,5,6]),(9,[0,1,2,3,4,5,6,7,8,9,10,11,15,16,17,18,19])]⟩
def Arc:EW:=sE Tryz.f105 N5 jn Q [1,1,1,1,1,1] (rE Tryz.f105 Q) A5
def Rz:EW:=cE Tryz.f105 N5 jn Q [1,1,1,1,1,1] (rE Tryz.f105 Q) A5
def Acf(m0:OA)(gone5:Sl):WP:=jn 20 (Rz jn Q) ((.p m0)::us 4 ((.l gone5.a gone5.n gone5.c)::us 48 []))
def N6(m1:Nat)(m0:OA)(gone5:Sl):WP:=CJ PR N5 jn (bE Tryz.f105 [1,1,1,1,1,0,0,0]) (A6 0 (Arc jn Q) A5) (rE Tryz.f105 Q) m1 ((.p m0)::us 4 ((.l gone5.a gone5.n gone5.c)::us 48 []))
def Ard:KP:=⟨[],[(3,[0,2,3,4,5,6,7,8,9])]⟩
def N7:KP:=⟨[(9,[1,2,3,5]),(18,[1,2,3])],[(5,[0,1,2,3,4,6]),(8,[0,1,2,5,6,7])]⟩
def Arf:EW:=sE Tryz.f115 N7 jn Q [1,1,1] (rE Tryz.f115 Q) A5
def R0:EW:=cE Tryz.f115 N7 jn Q [1,1,1] (rE Tryz.f115 Q) A5
def Acg(w1b w1o t2b t2o:Nat)(best3:Int):WP:=jn 18 (R0 jn Q) (us 1 ((pq w1b w1o)::(pq t2b t2o)::(.i best3)::us 22 []))
def Kg(m1:Nat)(w1b w1o t2b t2o:Nat)(best3 t5:Int):WP:=CJ PR N7 jn (bE Tryz.f115 [1,1,0,1,0,0]) (A6 0 (Arf jn Q) A5) (rE Tryz.f115 Q) m1 (us 1 ((pq w1b w1o)::(pq t2b t2o)::(.i best3)::us 1 ((.i t5)::us 20 [])))
def N8:KP:=⟨[(9,[1,5,14,15]),(16,[5])],[]⟩
def Arh:EW:=sE Tryz.f117 N8 jn Q [1,1,1] (rE Tryz.f117 Q) A5
def R1:EW:=cE Tryz.f117 N8 jn Q [1,1,1] (rE Tryz.f117 Q) A5
def Ari(h5:Int):WP:=jn 16 (R1 jn Q) (us 5 ((.int .u64 h5)::us 22 []))
def N9(m1:Nat)(s1:BA)(h5 t14 t15:Int):WP:=CJ PR N8 jn (bE Tryz.f117 [1,1,0,1,0,0]) (A6 0 (Arh jn Q) A5) (rE Tryz.f117 Q) m1 (us 1 ((.s s1)::us 3 ((.int .u64 h5)::us 8 ((.i t14)::(.i t15)::us 12 []))))
def Kh:KP:=⟨[(8,[0]),(11,[0,14,15]),(22,[])],[]⟩
def Arj:EW:=sE Tryz.f118 Kh jn Q [1,1,1] (rE Tryz.f118 Q) A5
def R3:EW:=cE Tryz.f118 Kh jn Q [1,1,1] (rE Tryz.f118 Q) A5
def Arl:WP:=jn 22 (R3 jn Q) (us 49 [])
def Ct(m2:Nat)(s0:BA)(t14 t15:Int):WP:=CJ PR Kh jn (bE Tryz.f118 [1,1,0,1,0,0]) (A6 0 (Arj jn Q) A5) (rE Tryz.f118 Q) m2 ((.s s0)::us 13 ((.i t14)::(.i t15)::us 33 []))
def R2:EW:=cE Tryz.f118 Kh jn Q [1,1] (rE Tryz.f118 Q) A5
def Ark(s0:BA):WP:=jn 8 (R2 jn Q) ((.s s0)::us 48 [])
def Ec:KP:=⟨[(12,[4])],[]⟩
def R4:EW:=cE Tryz.f120 Ec jn Q [1,1] (rE Tryz.f120 Q) A5
def Ach(t4b t4o:Nat):WP:=jn 12 (R4 jn Q) (us 4 ((pq t4b t4o)::us 22 []))
def Aci:KP:=⟨[(8,[0,2])],[]⟩
def R5:EW:=cE Tryz.f125 Aci jn Q [1,1] (rE Tryz.f125 Q) A5
def TX(c0:OA)(gone2:Bool):WP:=jn 8 (R5 jn Q) ((.p c0)::us 1 ((.b gone2)::us 29 []))
def Arm:KP:=⟨[],[(4,[0,1,2,3,4,5,6,7,9]),(5,[0,1,2,3,5,6,7,8,9]),(7,[0,1,2,3,4,5,6,10,11,12,13,14])]⟩
def IK:KP:=⟨[],[(5,[0,1,2,3,4,6,7]),(8,[0,1,2,3,4,5,6,7,9,10])]⟩
def Acj:KP:=⟨[(8,[0,1,2])],[]⟩
def R6:EW:=cE Tryz.f128 Acj jn Q [1,1] (rE Tryz.f128 Q) A5
def TY(f0:OA)(kind1:Int)(key2:BA):WP:=jn 8 (R6 jn Q) ((.p f0)::(.i kind1)::(.s key2)::us 21 [])
def NA:KP:=⟨[(13,[0,3,4]),(20,[3])],[]⟩
def Arn:EW:=sE Tryz.f129 NA jn Q [1,1,1,1] (rE Tryz.f129 Q) A5
def R7:EW:=cE Tryz.f129 NA jn Q [1,1,1,1] (rE Tryz.f129 Q) A5
def Aro(all3:Sl):WP:=jn 20 (R7 jn Q) (us 3 ((.l all3.a all3.n all3.c)::us 21 []))
def Ki(m1:Nat)(f0:OA)(all3:Sl)(l4:OA):WP:=CJ PR NA jn (bE Tryz.f129 [1,1,1,0,1,0,0]) (A6 0 (Arn jn Q) A5) (rE Tryz.f129 Q) m1 ((.p f0)::us 2 ((.l all3.a all3.n all3.c)::(.p l4)::us 20 []))
def Arq:KP:=⟨[],[(10,[0,1,2,3,4]),(12,[0,1,2,3,4])]⟩
def R8:EW:=cE Tryz.f132 Ll jn Q [1,1] (rE Tryz.f132 Q) A5
def NB(m0:OA)(key1:BA):WP:=jn 8 (R8 jn Q) ((.p m0)::(.s key1)::us 28 [])
def Arr:KP:=⟨[],[(3,[0,2,3,4,5,7,8])]⟩
def NC:KP:=⟨[(7,[1,5,6]),(16,[1])],[]⟩
def Ars:EW:=sE Tryz.f138 NC jn Q [1,1] (rE Tryz.f138 Q) A5
def R9:EW:=cE Tryz.f138 NC jn Q [1,1] (rE Tryz.f138 Q) A5
def Art(w1b w1o:Nat):WP:=jn 16 (R9 jn Q) (us 1 ((pq w1b w1o)::us 17 []))
def ND(m1:Nat)(w1b w1o:Nat)(t5_0 t5_1 t5_2 t5_3 t5_4 t6:Int):WP:=CJ PR NC jn (bE Tryz.f138 [1,0,1,0,0]) (A6 0 (Ars jn Q) A5) (rE Tryz.f138 Q) m1 (us 1 ((pq w1b w1o)::us 3 ((.agg #[.int .u64 t5_0,.int .u64 t5_1,.int .u64 t5_2,.int .u64 t5_3,.int .u64 t5_4])::(.i t6)::us 12 [])))
def NF:KP:=⟨[(9,[3,5,6]),(14,[3])],[]⟩
def Arv:EW:=sE Tryz.f140 NF jn Q [1,1,1] (rE Tryz.f140 Q) A5
def RA:EW:=cE Tryz.f140 NF jn Q [1,1,1] (rE Tryz.f140 Q) A5
def Arw(x3:Int):WP:=jn 14 (RA jn Q) (us 3 ((.int .u64 x3)::us 9 []))
def NG(m1:Nat)(x3 t5 t6:Int):WP:=CJ PR NF jn (bE Tryz.f140 [1,1,0,1,0,0]) (A6 0 (Arv jn Q) A5) (rE Tryz.f140 Q) m1 (us 3 ((.int .u64 x3)::us 1 ((.i t5)::(.i t6)::us 6 [])))
def NH:KP:=⟨[(9,[3,6,7]),(16,[3])],[]⟩
def Arx:EW:=sE Tryz.f142 NH jn Q [1,1,1] (rE Tryz.f142 Q) A5
def RB:EW:=cE Tryz.f142 NH jn Q [1,1,1] (rE Tryz.f142 Q) A5
def Ary(sum3:Int):WP:=jn 16 (RB jn Q) (us 3 ((.int .u64 sum3)::us 11 []))
def NI(m1:Nat)(sum3 t6_0 t6_1 t6_2 t6_3 t6_4 t7:Int):WP:=CJ PR NH jn (bE Tryz.f142 [1,1,0,1,0,0]) (A6 0 (Arx jn Q) A5) (rE Tryz.f142 Q) m1 (us 3 ((.int .u64 sum3)::us 2 ((.agg #[.int .u64 t6_0,.int .u64 t6_1,.int .u64 t6_2,.int .u64 t6_3,.int .u64 t6_4])::(.i t7)::us 7 [])))
def NJ:KP:=⟨[(7,[0,3]),(14,[3])],[]⟩
def Arz:EW:=sE Tryz.f145 NJ jn Q [1,1,1] (rE Tryz.f145 Q) A5
def RC:EW:=cE Tryz.f145 NJ jn Q [1,1,1] (rE Tryz.f145 Q) A5
def Ar0(n3:Int):WP:=jn 14 (RC jn Q) (us 3 ((.i n3)::us 13 []))
def IL(m1:Nat)(m0:OA)(n3:Int):WP:=CJ PR NJ jn (bE Tryz.f145 [1,1,0,0,0]) (A6 0 (Arz jn Q) A5) (rE Tryz.f145 Q) m1 ((.p m0)::us 2 ((.i n3)::us 13 []))
def Kj:KP:=⟨[(13,[8,21,22,23]),(20,[8])],[]⟩
def Ack:EW:=sE Tryz.f146 Kj jn Q [1,1,1,1] (rE Tryz.f146 Q) A5
def Ar2(m1:Nat)(t21:Sl)(t22 t23:Int):WP:=CJ PR Kj jn (bE Tryz.f146 [1,1,1,0,1,0,0]) (A6 0 (Ack jn Q) A5) (rE Tryz.f146 Q) m1 (us 8 ((.nilIface)::us 12 ((.l t21.a t21.n t21.c)::(.i t22)::(.i t23)::us 8 [])))
def RD:EW:=cE Tryz.f146 Kj jn Q [1,1,1,1] (rE Tryz.f146 Q) A5
def Ar1(e8_t:TypeId)(e8_v:Value):WP:=jn 20 (RD jn Q) (us 8 ((.iface e8_t e8_v)::us 23 []))
def NK(m3:Nat)(e8_t:TypeId)(e8_v:Value)(t21:Sl)(t22 t23:Int):WP:=CJ PR Kj jn (bE Tryz.f146 [1,1,1,0,1,0,0]) (A6 0 (Ack jn Q) A5) (rE Tryz.f146 Q) m3 (us 8 ((.iface e8_t e8_v)::us 12 ((.l t21.a t21.n t21.c)::(.i t22)::(.i t23)::us 8 [])))
def AA:KP:=⟨[(8,[0,1,6,7]),(11,[0,1,6,7]),(14,[0,1,6,7,8,35]),(18,[0,1,6,7,8,50]),(22,[0,1,6,7,8,61])],[(2,[0,1,2,3,4,6,7,8,9,10,12])]⟩
def Acl(m1:Nat):EW:=Ia PR AA jn (bE Tryz.f158 [1,1,1,0,0]) (A6 0 (rE Tryz.f158 Q) A5) (rE Tryz.f158 Q) m1
def Kk(m1:Nat):EW:=sE Tryz.f158 AA jn Q [1,1,1,0,0,1] (Acl jn Q m1) (A6 0 (rE Tryz.f158 Q) A5)
def Ar4(m1:Nat):Nat->EW:=A6 1 (Kk jn Q m1) (A6 0 (rE Tryz.f158 Q) A5)
def Ub(m1:Nat):Nat->EW:=A6 2 (Kk jn Q m1) (Ar4 jn Q m1)
def RG(m1:Nat):EW:=cE Tryz.f158 AA jn Q [1,1,1,0,0,1] (Acl jn Q m1) (A6 0 (rE Tryz.f158 Q) A5)
def Ue(m1:Nat)(x0:OA)(key1:BA)(free6 i7:Int):WP:=jn 8 (RG jn Q m1) ((.p x0)::(.s key1)::us 4 ((.i free6)::(.i i7)::us 71 []))
def RH(m1:Nat):EW:=cE Tryz.f158 AA jn Q [1,1,1,0,0,0,0,1,0,1,1,1,1,1] (Kk jn Q m1) (Ub jn Q m1)
def Uf(m1:Nat)(x0:OA)(key1:BA)(free6 i7:Int)(p8b p8o:Nat)(t61:Bool):WP:=jn 22 (RH jn Q m1) ((.p x0)::(.s key1)::us 4 ((.i free6)::(.i i7)::(pq p8b p8o)::us 52 ((.b t61)::us 17 [])))
def RF(m1:Nat):EW:=cE Tryz.f158 AA jn Q [1,1,1,0,0,0,0,1,0,1,1,1] (Kk jn Q m1) (Ub jn Q m1)
def Ud(m1:Nat)(x0:OA)(key1:BA)(free6 i7:Int)(p8b p8o:Nat)(t50:Bool):WP:=jn 18 (RF jn Q m1) ((.p x0)::(.s key1)::us 4 ((.i free6)::(.i i7)::(pq p8b p8o)::us 41 ((.b t50)::us 28 [])))
def RE(m1:Nat):EW:=cE Tryz.f158 AA jn Q [1,1,1,0,0,0,0,1,0,1] (Kk jn Q m1) (Ub jn Q m1)
def Uc(m1:Nat)(x0:OA)(key1:BA)(free6 i7:Int)(p8b p8o:Nat)(t35:Bool):WP:=jn 14 (RE jn Q m1) ((.p x0)::(.s key1)::us 4 ((.i free6)::(.i i7)::(pq p8b p8o)::us 26 ((.b t35)::us 43 [])))
def NL(m1:Nat)(x0:OA)(key1:BA)(free6 i7:Int):WP:=CJ PR AA jn (bE Tryz.f158 [1,1,1,0,0]) (A6 0 (rE Tryz.f158 Q) A5) (rE Tryz.f158 Q) m1 ((.p x0)::(.s key1)::us 4 ((.i free6)::(.i i7)::us 71 []))
def Ar6:KP:=⟨[],[(8,[0,1,2,3,4,5,6,7,9,10])]⟩
def Ed:KP:=⟨[(8,[0,1,2,7])],[(3,[0,1,2,3,4,5,7,8])]⟩
def RI:EW:=cE Tryz.f166 Ed jn Q [1,1] (rE Tryz.f166 Q) A5
def Acm(x0:OA)(i1:Int)(key2:BA)(v7b v7o:Nat):WP:=jn 8 (RI jn Q) ((.p x0)::(.i i1)::(.s key2)::us 4 ((pq v7b v7o)::us 32 []))
def Dw:KP:=⟨[(9,[0,28,29,30])],[]⟩
def Kl(m1:Nat)(x0:OA)(t28:Sl)(t29 t30:Int):WP:=CJ PR Dw jn (bE Tryz.f167 [1,1,1,0,0]) (A6 0 (rE Tryz.f167 Q) A5) (rE Tryz.f167 Q) m1 ((.p x0)::us 27 ((.l t28.a t28.n t28.c)::(.i t29)::(.i t30)::us 21 []))
def Kn:KP:=⟨[(8,[0,3,4,13]),(10,[0,3,13])],[(1,[0,1,2,4,5,6,8,9]),(2,[0,1,2,3,4,5,6,7,8,9,10,11,12,13,14,15,17,18,19])]⟩
def Km:EW:=sE Tryz.f168 Kn jn Q [1,1,1] (rE Tryz.f168 Q) A5
def Ar7:EW:=sE Tryz.f168 Kn jn Q [1,1,0,0,1] (Km jn Q) (A6 0 (Km jn Q) A5)
def RK:EW:=cE Tryz.f168 Kn jn Q [1,1,0,0,1] (Km jn Q) (A6 0 (Km jn Q) A5)
def NN(f0:OA)(r3 t13:Bool):WP:=jn 10 (RK jn Q) ((.p f0)::us 2 ((.b r3)::us 9 ((.b t13)::us 32 [])))
def RJ:EW:=cE Tryz.f168 Kn jn Q [1,1,0,0,0,1] (Ar7 jn Q) (A6 0 (Km jn Q) A5)
def NM(f0:OA)(r3 w4 t13:Bool):WP:=jn 8 (RJ jn Q) ((.p f0)::us 2 ((.b r3)::(.b w4)::us 8 ((.b t13)::us 32 [])))
def CN:KP:=⟨[(9,[2,3,6,7]),(14,[2,3])],[(4,[0,1,5])]⟩
def Ar8:EW:=sE Tryz.f184 CN jn Q [1,1,1] (rE Tryz.f184 Q) A5
def Ae4:EW:=cE Tryz.f184 CN jn Q [1,1,1] (rE Tryz.f184 Q) A5
def Ar9(m1:Nat)(t2b t2o r3b r3o:Nat)(t6 t7:Int):WP:=CJ PR CN jn (bE Tryz.f184 [1,1,0,1,0,0]) (A6 0 (Ar8 jn Q) A5) (rE Tryz.f184 Q) m1 (us 2 ((pq t2b t2o)::(pq r3b r3o)::us 2 ((.i t6)::(.i t7)::us 9 [])))
def Asa:EW:=sE Tryz.f186 CN jn Q [1,1,1] (rE Tryz.f186 Q) A5
def Ae5:EW:=cE Tryz.f186 CN jn Q [1,1,1] (rE Tryz.f186 Q) A5
def Asb(m1:Nat)(t2b t2o r3b r3o:Nat)(t6 t7:Int):WP:=CJ PR CN jn (bE Tryz.f186 [1,1,0,1,0,0]) (A6 0 (Asa jn Q) A5) (rE Tryz.f186 Q) m1 (us 2 ((pq t2b t2o)::(pq r3b r3o)::us 2 ((.i t6)::(.i t7)::us 9 [])))
def Asc:EW:=sE Tryz.f187 CN jn Q [1,1,1] (rE Tryz.f187 Q) A5
def Ae6:EW:=cE Tryz.f187 CN jn Q [1,1,1] (rE Tryz.f187 Q) A5
def Asd(m1:Nat)(t2b t2o r3b r3o:Nat)(t6 t7:Int):WP:=CJ PR CN jn (bE Tryz.f187 [1,1,0,1,0,0]) (A6 0 (Asc jn Q) A5) (rE Tryz.f187 Q) m1 (us 2 ((pq t2b t2o)::(pq r3b r3o)::us 2 ((.i t6)::(.i t7)::us 9 [])))
def Gl:KP:=⟨[(7,[0,3]),(10,[3])],[]⟩
def Ase:EW:=sE Tryz.f188 Gl jn Q [1,1,1] (rE Tryz.f188 Q) A5
def RL:EW:=cE Tryz.f188 Gl jn Q [1,1,1] (rE Tryz.f188 Q) A5
def Asf(n3:Int):WP:=jn 10 (RL jn Q) (us 3 ((.i n3)::us 13 []))
def NO(m1:Nat)(room0 n3:Int):WP:=CJ PR Gl jn (bE Tryz.f188 [1,1,0,0,0]) (A6 0 (Ase jn Q) A5) (rE Tryz.f188 Q) m1 ((.i room0)::us 2 ((.i n3)::us 13 []))
end
variable{jn:Jn}{Q:VW}{key1 key2 val2 s1:BA}{m1 w1b w1o w3b w3o t6b t6o p8b p8o t0b t0o m2 m3 t2b t2o:Nat}{m0 s0 x0 t0 f0 l0 g0 c0:OA}{room0 kind1 kind0 room1 w0_0 w0_1 w0_2 w0_3 w0_4 free6 i7 seed0 n3 now2 now1 t14 reads0 writes1 n1 now3 life4 t12 t13 t7 t8 all2 draw1 best3 t5 h0 h5 t15 t6 a0 x3 sum3 h1 i1:Int}{gone5 l3 t11 l5 all3:Sl}{hit5 gone2 r3:Bool}{e8_t:TypeId}{e8_v:Value}
theorem Aaa:XS jn Q ((.i reads0)::(.i writes1)::us 26 [])=(A3 λS=>VL [
 (Agx PR 182 (.i reads0) λB1=>Agx PR 182 (.i writes1) λB2=>A0 [.chan (some B1),.i 0,.s Ae,.i 0,.b false,.chan (some B2),.i 0,.s Ae,.i 0,.b false,.i 0,.i 0] 188 λB3=>Q (.tuple #[pq B3 0,.i 0])),
 (Agx PR 182 (.i writes1) λB4=>Agx PR 182 (.i reads0) λB5=>A0 [.chan (some B5),.i 0,.s Ae,.i 0,.b false,.chan (some B4),.i 0,.s Ae,.i 0,.b false,.i 0,.i 0] 188 λB6=>Q (.tuple #[pq B6 0,.i 0]))]):=by kernel_rfl
theorem Avy:Au jn PR Anp Tryz.f75 [.i reads0,.i writes1] Q=(Aj (decide (reads0<0)) (Q (.tuple #[.p none,.i 1])) (Aj (decide (reads0>256)) (Q (.tuple #[.p none,.i 1])) (Aj (decide (writes1<1)) (Q (.tuple #[.p none,.i 1])) (Aj (decide (writes1>256)) (Q (.tuple #[.p none,.i 1])) (A0o jn Q reads0 writes1))))):=by kernel_rfl
theorem Avz:Au jn PR Av Tryz.f76 [.i kind0,.i room1] Q=(OX (.int .i64) PR 113 [.i kind0,.i room1] (λ(X1:Int)=>Aj (X1 != 0) (Q (.tuple #[.p none,.i X1])) (C8)) λ(t_2:TypeId)(v_3:Value)(X1:Int)=>Aj (X1 != 0) (Q (.tuple #[.p none,.i X1])) (
 EF PR t_2 v_3 "Room" fun f_4 r_5 =>Bw f_4 [r_5] fun X6=>A0 [.i kind0,.i X6,.iface t_2 v_3,.nilIface] 124 fun B7=>Q (.tuple #[pq B7 0,.i 0]))):=by kernel_rfl
theorem Av0:Au jn PR Av Tryz.f77 [] Q=(Jh 114 [.int .u64 0] λX1=>A0 [.p X1] 118 λB2=>Q (pq B2 0)):=by kernel_rfl
theorem Av1:Au jn PR Av Tryz.f78 [.i kind0] Q=(Aj (decide (kind0>=0)) (Q (.b (decide (kind0<5)))) (Q (.b false))):=by kernel_rfl
theorem Aab:XT jn Q ((pq t0b t0o)::(pq w1b w1o)::us 9 [])=(Dz w1b w1o λX3=>Dz w1b (w1o+1) λX4=>Dz w1b ((w1o+1)+1) λX5=>Dz w1b (((w1o+1)+1)+1) λX6=>Dz w1b ((((w1o+1)+1)+1)+1) λX7=>λw=>Calls PR 115 #[.agg #[.int .u64 X3,.int .u64 X4,.int .u64 X5,.int .u64 X6,.int .u64 X7]] w λe w'=>∃X8:Int,∃X9:Int,∃X10:Int,∃X11:Int,∃X12:Int,e = .returned (.agg #[.int .u64 X8,.int .u64 X9,.int .u64 X10,.int .u64 X11,.int .u64 X12])/\(st t0b t0o (.int .u64 X8)<|st t0b (t0o+1) (.int .u64 X9)<|st t0b ((t0o+1)+1) (.int .u64 X10)<|
 st t0b (((t0o+1)+1)+1) (.int .u64 X11)<|st t0b ((((t0o+1)+1)+1)+1) (.int .u64 X12)<|Dz t0b t0o λX13=>Dz t0b (t0o+1) λX14=>Dz t0b ((t0o+1)+1) λX15=>Dz t0b (((t0o+1)+1)+1) λX16=>Dz t0b ((((t0o+1)+1)+1)+1) λX17=>Q (.agg #[.int .u64 X13,.int .u64 X14,.int .u64 X15,.int .u64 X16,.int .u64 X17])) w'):=by kernel_rfl
theorem Pv{t3:Int}:UP jn Q (m1+1) t0b t0o w1b w1o t3=(Aj (decide (t3<5)) (AX ((0:Int)<=t3/\t3<((5:Nat):Int))<|st w1b (w1o+t3.toNat*1) (.int .u64 858993459)<|UP jn Q m1 t0b t0o w1b w1o (IntKind.wrap .i64 (t3+1))) (A0q jn Q t0b t0o w1b w1o)):=by kernel_rfl
theorem Av2:Au jn PR UO Tryz.f79 [] Q=(A0 [.int .u64 0,.int .u64 0,.int .u64 0,.int .u64 0,.int .u64 0] 140 λB1=>A0 [.int .u64 0,.int .u64 0,.int .u64 0,.int .u64 0,.int .u64 0] 140 λB2=>D2 λm=>UP jn Q m B1 0 B2 0 0):=by kernel_rfl
theorem Av3{s0:Sl}:Au jn PR Av Tryz.f80 [.l s0.a s0.n s0.c] Q=(Aj (Option.isNone s0.a) (Q (.l none 0 0)) (A0 [] 145 λB1=>Bn 145 1 4 [.int .u32 0] ⟨(some ⟨B1,0,none⟩),0,0⟩ s0.n (λw=>Hv w s0.a (s0.n*1)) λG2=>Q (.l G2.a G2.n G2.c))):=by kernel_rfl
theorem Av4{key0:BA}:Au jn PR Av Tryz.f81 [.s key0,.i n1] Q=(Ze 117 [.int .u64 31,.s key0] λX1=>Bw 72 [.i n1,.i 1,.i 8] λX2=>Bw 116 [.int .u64 X1,.i X2] λX3=>Q (.i X3)):=by kernel_rfl
theorem Av5:Au jn PR Av Tryz.f82 [.p s0,.s key1,.i now2] Q=(Aj (Option.isNone s0) (Q (.i 1)) (Dv 118 [.s key1] λX1=>Aj (!X1) (Q (.i 2)) (Dv 97 [.i now2] λX2=>Aj (!X2) (Q (.i 1)) (Q (.i 0))))):=by kernel_rfl
theorem Aaf:XW jn Q ((.p s0)::(.s key1)::us 36 [])=(A0 [.s key1] 9 λB10=>wz 95 [.p s0,.l (some ⟨B10,0,none⟩) 1 1]<|wz 92 [.p s0,.i 3,.s key1]<|A0 [.s key1] 9 λB11=>Q (.l (some ⟨B11,0,none⟩) 1 1)):=by kernel_rfl
theorem Av6:Au jn PR Anv Tryz.f83 [.p s0,.s key1,.i now2] Q=(Ad s0 λB1 O2=>Br B1 O2 λX3=>EG 85 [.p X3,.s key1,.i now2] λX4 X5=>Aj X5 (Q (.l none 0 0)) (Ad s0 λB6 O7=>Br B6 O7 λX8=>Dv 90 [.p X8,.s key1] λX9=>Aj (!X9) (Q (.l none 0 0)) (Anu jn Q s0 key1))):=by kernel_rfl
theorem Av7{n0:OA}:Au jn PR Av Tryz.f84 [.p n0] Q=(Ad n0 λB1 O2=>Ax B1 O2 λX3=>Bw 119 [.i X3,.i 1099511627776] λX4=>Ad n0 λB5 O6=>st B5 O6 (.i X4)<|Q (.tuple #[])):=by kernel_rfl
theorem Av8:Au jn PR Av Tryz.f85 [.p t0,.s key1,.i now2] Q=(Aj (Option.isNone t0) (Q (.tuple #[.s Ae,.b false])) (Ad t0 λB1 O2=>Br B1 O2 λX3=>λw=>Calls PR 120 #[.p X3,.s key1] w λe w'=>∃X4:BA,∃X5:Int,∃X6:Bool,e = .returned (.tuple #[.agg #[.s X4,.i X5],.b X6])/\(A0 [.s Ae,.i 0] 120 λB7=>st B7 0 (.s X4)<|st B7 1 (.i X5)<|Aj (!X6) (Q (.tuple #[.s Ae,.b false])) (BR B7 0 λX8=>Ax B7 1 λX9=>Dv 121 [.agg #[.s X8,.i X9],.i now2] λX10=>
 Aj X10 (Q (.tuple #[.s Ae,.b false])) (BR B7 0 λX11=>Q (.tuple #[.s X11,.b true])))) w')):=by kernel_rfl
theorem Av9:Au jn PR Av Tryz.f86 [.p f0,.s key1] Q=(Aj (Option.isNone f0) (Q (.b false)) (Ad f0 λB1 O2=>Dv 122 [.p f0,pq B1 O2,.i 1,.s key1] λX3=>Aj (!X3) (Ad f0 λB4 O5=>Ax B4 (O5+11) λX6=>Ad f0 λB7 O8=>st B7 (O8+11) (.i (IntKind.wrap .i64 (X6+1)))<|Q (.b X3)) (Q (.b X3)))):=by kernel_rfl
theorem Awa:Au jn PR A0x Tryz.f87 [.p s0,.s key1] Q=(Aj (Option.isNone s0) (Q (.b false)) (Ad s0 λB1 O2=>Ax B1 (O2+1) λX3=>Bw 119 [.i X3,.i 1099511627776] λX4=>Ad s0 λB5 O6=>st B5 (O6+1) (.i X4)<|A3 λS=>Ad s0 λB7 O8=>Eh S B7 O8 λX9=>Ze 117 [.int .u64 21,.s key1] λX10=>An true S<|Dv 123 [.int .u64 X10,.i X9] λX11=>Aj (!X11) (Q (.b false)) (Ad s0 λB12 O13=>Ax B12 (O13+2) λX14=>Bw 119 [.i X14,.i 1099511627776] λX15=>
 Ad s0 λB16 O17=>st B16 (O17+2) (.i X15)<|Q (.b true)))):=by kernel_rfl
theorem Px:XY jn Q (us 5 ((.b hit5)::us 51 []))=(Q (.b hit5)):=by kernel_rfl
theorem J4{t43:Sl}{t44 t45:Int}:Aai jn Q (m2+1) s0 hit5 t43 t44 t45=(Aj (decide (t45<t44)) (C1 t43.a t43.n t45 λB17 O18=>BR B17 (O18+t45.toNat*1) λX19=>Ad s0 λB20 O21=>Br B20 (O21+2) λX22=>EG 126 [.p X22,.s X19] λX23 X24=>Aai jn Q m2 s0 hit5 t43 t44 (IntKind.wrap .i64 (t45+1))) (A0z jn Q hit5)):=by kernel_rfl
theorem Aah{went6:Sl}{back7:Bool}:XX jn Q ((.p s0)::us 4 ((.b hit5)::(.l went6.a went6.n went6.c)::(.b back7)::us 49 []))=(Ad s0 λB13 O14=>wz 125 [.p (some ⟨B13,(O14+3),none⟩),.b hit5,.b back7]<|Ad s0 λB15 O16=>wz 125 [.p (some ⟨B15,(O16+6),none⟩),.b hit5,.b back7]<|D2 λm=>Aai jn Q m s0 hit5 went6 (went6.n:Int) 0):=by kernel_rfl
theorem Awb:Au jn PR Py Tryz.f88 [.p s0,.s key1] Q=(Aj (Option.isNone s0) (Q (.b false)) (Ad s0 λB1 O2=>MY B1 (O2+1) (C8) λ(t_3:TypeId)(v_4:Value)=>
 EF PR t_3 v_4 "Access" fun f_5 r_6 =>A2u f_5 [r_6,.s key1] fun X7 X8=>Aj (!X7) (Ad s0 fun B9 O10=>Br B9 (O10+2) fun X11=>Dv 124 [.p X11,.s key1] fun X12=>Aag jn Q s0 X7 X8 X12) (Aag jn Q s0 X7 X8 false))):=by kernel_rfl
theorem Aal{v12b v12o:Nat}:Ya jn Q ((.p t0)::(.s key1)::us 10 ((pq v12b v12o)::us 41 []))=(A3 λS=>Ad t0 λB3 O4=>EO S B3 O4 λX5=>BR v12b v12o λX6=>Ax v12b (v12o+1) λX7=>An true S<|Dv 127 [.p X5,.s key1,.agg #[.s X6,.i X7]] λX8=>Q (.tuple #[.b X8,.i 0])):=by kernel_rfl
theorem Aaj:XZ jn Q ((.p t0)::(.s key1)::(.s val2)::(.i now3)::(.i life4)::us 49 [])=(A0 [.s Ae,.i 0] 120 λB2=>st B2 0 (.s val2)<|st B2 1 (.i 0)<|Aj (decide (life4>0)) (st B2 1 (.i (IntKind.wrap .i64 (now3+life4)))<|Aak jn Q t0 key1 B2 0) (Aak jn Q t0 key1 B2 0)):=by kernel_rfl
theorem Awc:Au jn PR Aam Tryz.f89 [.p t0,.s key1,.s val2,.i now3,.i life4] Q=(Aj (Option.isNone t0) (Q (.tuple #[.b false,.i 1])) (Dv 118 [.s key1] λX1=>Aj (!X1) (Q (.tuple #[.b false,.i 2])) (Aj (decide ((val2.size:Int)>64)) (Q (.tuple #[.b false,.i 3])) (Aj (decide (now3<0)) (Q (.tuple #[.b false,.i 1])) (Aj (decide (now3>1125899906842624)) (Q (.tuple #[.b false,.i 1])) (Aj (decide (life4<0)) (Q (.tuple #[.b false,.i 1])) (Aj (decide (life4>1099511627776)) (Q (.tuple #[.b false,.i 1])) (
 A00 jn Q t0 key1 val2 now3 life4)))))))):=by kernel_rfl
theorem Awd:Au jn PR Av Tryz.f90 [.p t0,.s key1] Q=(Aj (Option.isNone t0) (Q (.b false)) (Ad t0 λB1 O2=>Br B1 O2 λX3=>λw=>Calls PR 120 #[.p X3,.s key1] w λe w'=>∃X4:BA,∃X5:Int,∃X6:Bool,e = .returned (.tuple #[.agg #[.s X4,.i X5],.b X6])/\(A0 [.s Ae,.i 0] 120 λB7=>st B7 0 (.s X4)<|st B7 1 (.i X5)<|Q (.b X6)) w')):=by kernel_rfl
theorem Awe:Au jn PR Av Tryz.f91 [.p m0] Q=(Aj (Option.isNone m0) (Q (.i 0)) (Ad m0 λB1 O2=>Ax B1 (O2+1) λX3=>Q (.i X3))):=by kernel_rfl
theorem Awf:Au jn PR Av Tryz.f92 [.p s0,.i kind1,.s key2] Q=(Ad s0 λB1 O2=>Br B1 (O2+1) λX3=>Dv 128 [.p X3,.i kind1,.s key2] λX4=>Aj (!X4) (Bw 93 [.p s0] λX5=>Ad s0 λB6 O7=>Br B6 (O7+1) λX8=>Dv 128 [.p X8,.i kind1,.s key2] λX9=>Q (.tuple #[])) (Q (.tuple #[]))):=by kernel_rfl
theorem Aan:Yb jn Q ((.p s0)::us 2 ((.l l3.a l3.n l3.c)::us 33 []))=(Ad s0 λB16 O17=>Ba B16 (O17+9) λX18=>Bn 159 2 24 [.i 0,.s Ae] ⟨X18.a,X18.n,X18.c⟩ l3.n (λw=>Hv w l3.a (l3.n*2)) λG19=>Ad s0 λB20 O21=>st B20 (O21+9) (.l G19.a G19.n G19.c)<|Q (.i (l3.n:Int))):=by kernel_rfl
theorem Pz:UT jn Q (m1+1) s0 l3 t11 t12 t13=(Aj (decide (t13<t12)) (C1 t11.a t11.n t13 λB5 O6=>Ax B5 (O6+t13.toNat*2) λX7=>BR B5 ((O6+t13.toNat*2)+1) λX8=>A0 [.i 0,.s Ae] 159 λB9=>st B9 0 (.i X7)<|st B9 1 (.s X8)<|A3 λS=>Ad s0 λB10 O11=>EO S B10 (O11+2) λX12=>Ax B9 0 λX13=>BR B9 1 λX14=>An true S<|F6 130 [.p X12,.agg #[.i X13,.s X14]] λX15=>wz 95 [.p s0,.l X15.a X15.n X15.c]<|UT jn Q m1 s0 l3 t11 t12 (IntKind.wrap .i64 (t13+1))) (
 A02 jn Q s0 l3)):=by kernel_rfl
theorem Awg:Au jn PR US Tryz.f93 [.p s0] Q=(Ad s0 λB1 O2=>Br B1 (O2+1) λX3=>F6 129 [.p X3] λX4=>D2 λm=>UT jn Q m s0 X4 X4 (X4.n:Int) 0):=by kernel_rfl
theorem Aap:Yc jn Q m1 ((.p m0)::(.s key1)::us 3 ((.l gone5.a gone5.n gone5.c)::us 45 []))=(EG 135 [.p m0] λX8 X9=>A0 [.s X8] 9 λB10=>Bn 9 1 16 [.s Ae] ⟨gone5.a,gone5.n,gone5.c⟩ 1 (λw=>Hv w (some ⟨B10,0,none⟩) (1*1)) λG11=>UU jn Q m1 m0 key1 G11):=by kernel_rfl
theorem P1:Yd jn Q ((.p m0)::(.s key1)::us 3 ((.l gone5.a gone5.n gone5.c)::us 45 []))=(Ad m0 λB12 O13=>MY B12 (O13+2) (C8) λ(t_14:TypeId)(v_15:Value)=>
 EF PR t_14 v_15 "Access" fun f_16 r_17 =>A2u f_16 [r_17,.s key1] fun X18 X19=>Bn 9 1 16 [.s Ae] ⟨gone5.a,gone5.n,gone5.c⟩ X19.n (fun w=>Hv w X19.a (X19.n*1)) fun G20=>Q (.l G20.a G20.n G20.c)):=by kernel_rfl
theorem P2:UU jn Q (m1+1) m0 key1 gone5=(A3 λS=>Ad m0 λB3 O4=>Eh S B3 (O4+1) λX5=>Bw 133 [.p m0] λX6=>An true S<|Aj (decide (X6>=X5)) (Bw 134 [.p m0] λX7=>Aj (decide (X7>0)) (Anw jn Q m1 m0 key1 gone5) (P0 jn Q m0 key1 gone5)) (P0 jn Q m0 key1 gone5)):=by kernel_rfl
theorem Awh:Au jn PR Lm Tryz.f94 [.p m0,.s key1] Q=(Aj (Option.isNone m0) (Q (.l none 0 0)) (Dv 131 [.p m0,.s key1] λX1=>Aj X1 (F6 132 [.p m0,.s key1] λX2=>Q (.l X2.a X2.n X2.c)) (D2 λm=>UU jn Q m m0 key1 ⟨none,0,0⟩))):=by kernel_rfl
theorem P4{t6:Sl}:P3 jn Q (m1+1) s0 t6 t7 t8=(Aj (decide (t8<t7)) (C1 t6.a t6.n t8 λB1 O2=>BR B1 (O2+t8.toNat*1) λX3=>Ad s0 λB4 O5=>Br B4 O5 λX6=>Dv 96 [.p X6,.s X3] λX7=>Aj X7 (Ad s0 λB8 O9=>wz 84 [.p (some ⟨B8,((O9+3)+3),none⟩)]<|P3 jn Q m1 s0 t6 t7 (IntKind.wrap .i64 (t8+1))) (P3 jn Q m1 s0 t6 t7 (IntKind.wrap .i64 (t8+1)))) (Q (.tuple #[]))):=by kernel_rfl
theorem Awi{keys1:Sl}:Au jn PR Anx Tryz.f95 [.p s0,.l keys1.a keys1.n keys1.c] Q=(D2 λm=>P3 jn Q m s0 keys1 (keys1.n:Int) 0):=by kernel_rfl
theorem Awj:Au jn PR Av Tryz.f96 [.p t0,.s key1] Q=(Aj (Option.isNone t0) (Q (.b false)) (Ad t0 λB1 O2=>Br B1 O2 λX3=>λw=>Calls PR 136 #[.p X3,.s key1] w λe w'=>∃X4:BA,∃X5:Int,∃X6:Bool,e = .returned (.tuple #[.agg #[.s X4,.i X5],.b X6])/\(A0 [.s Ae,.i 0] 120 λB7=>st B7 0 (.s X4)<|st B7 1 (.i X5)<|Q (.b X6)) w')):=by kernel_rfl
theorem Awk{now0:Int}:Au jn PR Av Tryz.f97 [.i now0] Q=(Aj (decide (now0>=0)) (Q (.b (decide (now0<=1125899906842624)))) (Q (.b false))):=by kernel_rfl
theorem Aaq:Ye jn Q (us 5 ((.l l5.a l5.n l5.c)::us 29 []))=(Q (.l l5.a l5.n l5.c)):=by kernel_rfl
theorem P7:P5 jn Q (m1+1) t0 now1 l5 t11 t12 t13=(Aj (decide (t13<t12)) (C1 t11.a t11.n t13 λB2 O3=>BR B2 (O3+t13.toNat*1) λX4=>Ad t0 λB5 O6=>Br B5 O6 λX7=>λw=>Calls PR 120 #[.p X7,.s X4] w λe w'=>∃X8:BA,∃X9:Int,∃X10:Bool,e = .returned (.tuple #[.agg #[.s X8,.i X9],.b X10])/\(A0 [.s Ae,.i 0] 120 λB11=>st B11 0 (.s X8)<|st B11 1 (.i X9)<|BR B11 0 λX12=>Ax B11 1 λX13=>Dv 121 [.agg #[.s X12,.i X13],.i now1] λX14=>
 Aj X14 (A0 [.s X4] 9 λB15=>Bn 9 1 16 [.s Ae] ⟨l5.a,l5.n,l5.c⟩ 1 (λw=>Hv w (some ⟨B15,0,none⟩) (1*1)) λG16=>P5 jn Q m1 t0 now1 G16 t11 t12 (IntKind.wrap .i64 (t13+1))) (P5 jn Q m1 t0 now1 l5 t11 t12 (IntKind.wrap .i64 (t13+1)))) w') (A05 jn Q l5)):=by kernel_rfl
theorem Awl:Au jn PR UV Tryz.f98 [.p t0,.i now1] Q=(F6 41 [.p t0] λX1=>D2 λm=>P5 jn Q m t0 now1 ⟨none,0,0⟩ X1 (X1.n:Int) 0):=by kernel_rfl
theorem Adq:Au jn PR Av Tryz.f99 [.p m0] Q=(Dv 42 [.p m0] λX1=>Aj (!X1) (Q (.tuple #[.s Ae,.b false])) (Ad m0 λB2 O3=>MY B2 (O3+3) (C8) λ(t_4:TypeId)(v_5:Value)=>
 EF PR t_4 v_5 "Keys" fun f_6 r_7 =>F6 f_6 [r_7] fun X8=>Aj ((X8.n:Int) == 0) (Ad m0 fun B9 O10=>st B9 (O10+3) .nilIface <|Q (.tuple #[.s Ae,.b false])) (C1 X8.a X8.n 0 fun B11 O12=>BR B11 (O12+((0:Int)).toNat * 1) fun X13=>wz 137 [.p m0,.s X13] <|C1 X8.a X8.n 0 fun B14 O15=>BR B14 (O15+((0:Int)).toNat * 1) fun X16=>Q (.tuple #[.s X16,.b true])))):=by kernel_rfl
theorem Wf:Rv jn Q (us 3 ((pq w3b w3o)::us 2 ((pq t6b t6o)::us 39 [])))=(Dz w3b w3o λX33=>Dz w3b (w3o+1) λX34=>Dz w3b ((w3o+1)+1) λX35=>Dz w3b (((w3o+1)+1)+1) λX36=>Dz w3b ((((w3o+1)+1)+1)+1) λX37=>λw=>Calls PR 115 #[.agg #[.int .u64 X33,.int .u64 X34,.int .u64 X35,.int .u64 X36,.int .u64 X37]] w λe w'=>∃X38:Int,∃X39:Int,∃X40:Int,∃X41:Int,∃X42:Int,e = .returned (.agg #[.int .u64 X38,.int .u64 X39,.int .u64 X40,.int .u64 X41,.int .u64 X42])/\(st t6b t6o (.int .u64 X38)<|st t6b (t6o+1) (.int .u64 X39)<|
 st t6b ((t6o+1)+1) (.int .u64 X40)<|st t6b (((t6o+1)+1)+1) (.int .u64 X41)<|st t6b ((((t6o+1)+1)+1)+1) (.int .u64 X42)<|Dz t6b t6o λX43=>Dz t6b (t6o+1) λX44=>Dz t6b ((t6o+1)+1) λX45=>Dz t6b (((t6o+1)+1)+1) λX46=>Dz t6b ((((t6o+1)+1)+1)+1) λX47=>Q (.agg #[.int .u64 X43,.int .u64 X44,.int .u64 X45,.int .u64 X46,.int .u64 X47])) w'):=by kernel_rfl
theorem LI{t32:Int}:N1 jn Q (m3+1) w3b w3o t6b t6o t8 t32=(Aj (decide (t32<5)) (AX ((0:Int)<=t32/\t32<((5:Nat):Int))<|Dz w3b (w3o+t32.toNat*1) λX31=>Ze 143 [.int .u64 X31,.int .u64 4294967296,.int .u64 t8] λX32=>AX ((0:Int)<=t32/\t32<((5:Nat):Int))<|st w3b (w3o+t32.toNat*1) (.int .u64 (if X32>42949672 then X32 else 42949672))<|N1 jn Q m3 w3b w3o t6b t6o t8 (IntKind.wrap .i64 (t32+1))) (Aq7 jn Q w3b w3o t6b t6o)):=by kernel_rfl
theorem We:Ru jn Q (us 3 ((pq w3b w3o)::us 2 ((pq t6b t6o)::us 39 [])))=(Dz w3b w3o λX25=>Dz w3b (w3o+1) λX26=>Dz w3b ((w3o+1)+1) λX27=>Dz w3b (((w3o+1)+1)+1) λX28=>Dz w3b ((((w3o+1)+1)+1)+1) λX29=>Ze 142 [.agg #[.int .u64 X25,.int .u64 X26,.int .u64 X27,.int .u64 X28,.int .u64 X29]] λX30=>D2 λm=>N1 jn Q m w3b w3o t6b t6o X30 0):=by kernel_rfl
theorem LH{ghosts4b ghosts4o:Nat}:N0 jn Q (m1+1) all2 w3b w3o ghosts4b ghosts4o t6b t6o t14=(Aj (decide (t14<5)) (A3 λS=>AX ((0:Int)<=t14/\t14<((5:Nat):Int))<|Zd S w3b (w3o+t14.toNat*1) λX20=>AX ((0:Int)<=t14/\t14<((5:Nat):Int))<|Ax ghosts4b (ghosts4o+t14.toNat*1) λX21=>An true S<|Bw 141 [.i X21,.i all2] λX22=>An true S<|Ze 140 [.i X22] λX23=>An true S<|Ze 139 [.int .u64 X20,.int .u64 X23] λX24=>AX ((0:Int)<=t14/\t14<((5:Nat):Int))<|
 st w3b (w3o+t14.toNat*1) (.int .u64 X24)<|N0 jn Q m1 all2 w3b w3o ghosts4b ghosts4o t6b t6o (IntKind.wrap .i64 (t14+1))) (Aq6 jn Q w3b w3o t6b t6o)):=by kernel_rfl
theorem Aix{ghosts1_0 ghosts1_1 ghosts1_2 ghosts1_3 ghosts1_4:Int}:Au jn PR H8 Tryz.f100 [.agg #[.int .u64 w0_0,.int .u64 w0_1,.int .u64 w0_2,.int .u64 w0_3,.int .u64 w0_4],.agg #[.i ghosts1_0,.i ghosts1_1,.i ghosts1_2,.i ghosts1_3,.i ghosts1_4],.i all2] Q=(A0 [.int .u64 w0_0,.int .u64 w0_1,.int .u64 w0_2,.int .u64 w0_3,.int .u64 w0_4] 140 λB1=>A0 [.i ghosts1_0,.i ghosts1_1,.i ghosts1_2,.i ghosts1_3,.i ghosts1_4] 100 λB2=>A0 [.int .u64 0,.int .u64 0,.int .u64 0,.int .u64 0,.int .u64 0] 140 λB3=>Dz B1 0 λX4=>Dz B1 1 λX5=>
 Dz B1 2 λX6=>Dz B1 3 λX7=>Dz B1 4 λX8=>Dv 138 [.agg #[.int .u64 X4,.int .u64 X5,.int .u64 X6,.int .u64 X7,.int .u64 X8]] λX9=>Aj (!X9) (λw=>Calls PR 79 #[] w λe w'=>∃X10:Int,∃X11:Int,∃X12:Int,∃X13:Int,∃X14:Int,e = .returned (.agg #[.int .u64 X10,.int .u64 X11,.int .u64 X12,.int .u64 X13,.int .u64 X14])/\(st B3 0 (.int .u64 X10)<|st B3 1 (.int .u64 X11)<|st B3 2 (.int .u64 X12)<|st B3 3 (.int .u64 X13)<|st B3 4 (.int .u64 X14)<|Dz B3 0 λX15=>Dz B3 1 λX16=>Dz B3 2 λX17=>Dz B3 3 λX18=>Dz B3 4 λX19=>
 Q (.agg #[.int .u64 X15,.int .u64 X16,.int .u64 X17,.int .u64 X18,.int .u64 X19])) w') (D2 λm=>N0 jn Q m all2 B1 0 B2 0 B3 0 0)):=by kernel_rfl
theorem Wg:Rw jn Q (us 22 [])=(Q (.i 4)):=by kernel_rfl
theorem LJ{sum5 t8_0 t8_1 t8_2 t8_3 t8_4 t9:Int}:N3 jn Q (m1+1) draw1 sum5 t8_0 t8_1 t8_2 t8_3 t8_4 t9=(Aj (decide (t9<5)) (AX ((0:Int)<=t9/\t9<((5:Nat):Int))<|λw=>∃X7:Int,([.int .u64 t8_0,.int .u64 t8_1,.int .u64 t8_2,.int .u64 t8_3,.int .u64 t8_4]:List Value)[t9.toNat]? = some (.int .u64 X7)/\Cu (.int .u64 X7)=false/\(Aj (decide ((IntKind.wrap .u64 (sum5+X7))>(IntKind.wrap .u64 draw1))) (Q (.i t9)) (N3 jn Q m1 draw1 (IntKind.wrap .u64 (sum5+X7)) t8_0 t8_1 t8_2 t8_3 t8_4 (IntKind.wrap .i64 (t9+1)))) w) (Aq9 jn Q)):=by kernel_rfl
theorem Aiy:Au jn PR N2 Tryz.f101 [.agg #[.int .u64 w0_0,.int .u64 w0_1,.int .u64 w0_2,.int .u64 w0_3,.int .u64 w0_4],.int .u32 draw1] Q=(A0 [.int .u64 w0_0,.int .u64 w0_1,.int .u64 w0_2,.int .u64 w0_3,.int .u64 w0_4] 140 λB1=>Dz B1 0 λX2=>Dz B1 1 λX3=>Dz B1 2 λX4=>Dz B1 3 λX5=>Dz B1 4 λX6=>D2 λm=>N3 jn Q m draw1 0 X2 X3 X4 X5 X6 0):=by kernel_rfl
theorem Aiz:Au jn PR Ara Tryz.f102 [.p t0] Q=(Aj (Option.isNone t0) (Q (.int .u32 0)) (Ad t0 λB1 O2=>Ax B1 (O2+1) λX3=>Ad t0 λB4 O5=>st B4 (O5+1) (.i (IntKind.wrap .i64 (X3+1)))<|A3 λS=>Ad t0 λB6 O7=>Eh S B6 (O7+1) λX8=>Ad t0 λB9 O10=>Ba B9 O10 λX11=>An true S<|Aj (decide (X8>(X11.n:Int))) (Q (.int .u32 0)) (A3 λS=>Ad t0 λB12 O13=>Fx S B12 O13 λX14=>Ad t0 λB15 O16=>Ax B15 (O16+1) λX17=>An true S<|C1 X14.a X14.n (IntKind.wrap .i64 (X17-1)) λB18 O19=>ld (.int .u32) B18 (O19+((IntKind.wrap .i64 (X17-(1:Int)))).toNat*1) λ(X20:Int)=>
 Q (.int .u32 X20)))):=by kernel_rfl
theorem Ai0:Au jn PR Av Tryz.f103 [.p s0] Q=(A0 [.i 0,.i 0,.i 0] 165 λB1=>Aj (Option.isNone s0) (st B1 0 (.i 0)<|st B1 1 (.i 0)<|st B1 2 (.i 0)<|Ax B1 0 λX2=>Ax B1 1 λX3=>Ax B1 2 λX4=>Q (.agg #[.i X2,.i X3,.i X4])) (Ad s0 λB5 O6=>Ax B5 (O6+3) λX7=>Ax B5 ((O6+3)+1) λX8=>Ax B5 (((O6+3)+1)+1) λX9=>A0 [.i 0,.i 0,.i 0] 165 λB10=>st B10 0 (.i X7)<|st B10 1 (.i X8)<|st B10 2 (.i X9)<|Ad s0 λB11 O12=>
 st B11 (O12+3) (.i 0)<|st B11 ((O12+3)+1) (.i 0)<|st B11 (((O12+3)+1)+1) (.i 0)<|Ax B10 0 λX13=>Ax B10 1 λX14=>Ax B10 2 λX15=>st B1 0 (.i X13)<|st B1 1 (.i X14)<|st B1 2 (.i X15)<|Ax B1 0 λX16=>Ax B1 1 λX17=>Ax B1 2 λX18=>Q (.agg #[.i X16,.i X17,.i X18]))):=by kernel_rfl
theorem Wi:Ry jn Q ((.p s0)::(.i kind1)::us 29 [])=(Bw 93 [.p s0] λX5=>Ad s0 λB6 O7=>Br B6 (O7+2) λX8=>Bw 144 [.p X8,.i kind1] λX9=>Q (.i X9)):=by kernel_rfl
theorem Wh{t8:Bool}:Rx jn Q ((.p s0)::(.i kind1)::us 6 ((.b t8)::us 22 []))=(Aj t8 (Q (.i 4)) (Ad s0 λB1 O2=>Br B1 (O2+2) λX3=>Bw 43 [.p X3] λX4=>Aj (kind1==X4) (Q (.i 8)) (Arb jn Q s0 kind1))):=by kernel_rfl
theorem Ai1:Au jn PR N4 Tryz.f104 [.p s0,.i kind1] Q=(Aj (Option.isNone s0) (Q (.i 1)) (Aj (decide (kind1<0)) (Ace jn Q s0 kind1 true) (Ace jn Q s0 kind1 (decide (kind1>=5))))):=by kernel_rfl
theorem Wj:Rz jn Q ((.p m0)::us 4 ((.l gone5.a gone5.n gone5.c)::us 48 []))=(A3 λS=>Ad m0 λB13 O14=>Eh S B13 O14 λX15=>Ad m0 λB16 O17=>Eh S B16 (O17+1) λX18=>Ad m0 λB19 O20=>MY B19 (O20+2) (An true S<|C8) λ(t_21:TypeId)(v_22:Value)=>An true S<|
 EF PR t_21 v_22 "Keys" fun f_23 r_24 =>F6 f_23 [r_24] fun X25=>An true S <|OX (.int .i64) PR 146 [.i X15,.i X18,.l X25.a X25.n X25.c] (fun (X26:Int)=>Ad m0 fun B29 O30=>st B29 (O30+2) .nilIface <|Q (.l gone5.a gone5.n gone5.c)) fun (t_27:TypeId) (v_28:Value) (X26:Int)=>Ad m0 fun B31 O32=>st B31 (O32+2) (.iface t_27 v_28) <|Q (.l gone5.a gone5.n gone5.c)):=by kernel_rfl
theorem LK:N6 jn Q (m1+1) m0 gone5=(A3 λS=>Ad m0 λB5 O6=>Eh S B5 (O6+1) λX7=>Bw 133 [.p m0] λX8=>An true S<|Aj (decide (X8>X7)) (EG 135 [.p m0] λX9 X10=>A0 [.s X9] 9 λB11=>Bn 9 1 16 [.s Ae] ⟨gone5.a,gone5.n,gone5.c⟩ 1 (λw=>Hv w (some ⟨B11,0,none⟩) (1*1)) λG12=>N6 jn Q m1 m0 G12) (Acf jn Q m0 gone5)):=by kernel_rfl
theorem Ai2:Au jn PR N5 Tryz.f105 [.p m0,.i room1] Q=(Aj (Option.isNone m0) (Q (.l none 0 0)) (Bw 72 [.i room1,.i 1,.i 1024] λX1=>Ad m0 λB2 O3=>st B2 (O3+1) (.i X1)<|Bw 145 [.p m0] λX4=>D2 λm=>N6 jn Q m m0 ⟨none,0,0⟩)):=by kernel_rfl
theorem Ai3{c1:Int}:Au jn PR Ard Tryz.f106 [.p s0,.i c1] Q=(Aj (Option.isNone s0) (Q (.i 0)) (A3 λS=>Ad s0 λB1 O2=>Eh S B1 O2 λX3=>Bw 72 [.i c1,.i 0,.i 1024] λX4=>An true S<|AX ((16777216:Int)≠0)<|Q (.i (if (IntKind.wrap .i64 (Int.tdiv (IntKind.wrap .i64 (X4*X3)) 16777216))>1 then (IntKind.wrap .i64 (Int.tdiv (IntKind.wrap .i64 (X4*X3)) 16777216)) else 1)))):=by kernel_rfl
theorem Ai4:Au jn PR Av Tryz.f107 [.i kind0,.i room1] Q=(OX (.int .i64) PR 113 [.i kind0,.i room1] (λ(X1:Int)=>Aj (X1 != 0) (Q (.tuple #[.p none,.i X1])) (Jh 147 [.i room1] λX4=>A0 [.i kind0,.nilIface,.p X4,.i 0,.i 0,.i 0,.i 0,.i 0,.i 0] 203 λB5=>Q (.tuple #[pq B5 0,.i 0]))) λ(t_2:TypeId)(v_3:Value)(X1:Int)=>Aj (X1 != 0) (Q (.tuple #[.p none,.i X1])) (Jh 147 [.i room1] λX6=>A0 [.i kind0,.iface t_2 v_3,.p X6,.i 0,.i 0,.i 0,.i 0,.i 0,.i 0] 203 λB7=>
 Q (.tuple #[pq B7 0,.i 0]))):=by kernel_rfl
theorem Ai5:Au jn PR Av Tryz.f113 [.i kind0,.i room1] Q=(Aj (kind0==0) (Jh 151 [.i room1] λX1=>Q (.tuple #[.iface 223 (.p X1),.i 0])) (Aj (kind0==1) (Jh 152 [.i room1] λX2=>Q (.tuple #[.iface 225 (.p X2),.i 0])) (Aj (kind0==2) (Jh 153 [.i room1] λX3=>Q (.tuple #[.iface 227 (.p X3),.i 0])) (Aj (kind0==3) (Jh 154 [.i room1] λX4=>Q (.tuple #[.iface 229 (.p X4),.i 0])) (Aj (kind0==4) (Jh 155 [.i room1] λX5=>
 Q (.tuple #[.iface 231 (.p X5),.i 0])) (Q (.tuple #[.nilIface,.i 4]))))))):=by kernel_rfl
theorem Ai6:Au jn PR Av Tryz.f114 [.int .u64 seed0] Q=(Hh 178 48 [.i 0,.s Ae,.s Ae,.i 0] 8 8 λG1=>A0 [.int .u64 seed0,.l G1.a G1.n G1.c,.i 0,.i 0] 176 λB2=>Q (pq B2 0)):=by kernel_rfl
theorem Wk:R0 jn Q (us 1 ((pq w1b w1o)::(pq t2b t2o)::(.i best3)::us 22 []))=(A3 λS=>AX ((0:Int)<=best3/\best3<((5:Nat):Int))<|Zd S w1b (w1o+best3.toNat*1) λX5=>Dz w1b w1o λX6=>Dz w1b (w1o+1) λX7=>Dz w1b ((w1o+1)+1) λX8=>Dz w1b (((w1o+1)+1)+1) λX9=>Dz w1b ((((w1o+1)+1)+1)+1) λX10=>An true S<|Ze 142 [.agg #[.int .u64 X6,.int .u64 X7,.int .u64 X8,.int .u64 X9,.int .u64 X10]] λX11=>An true S<|AX ((0:Int)<=best3/\best3<((5:Nat):Int))<|
 st w1b (w1o+best3.toNat*1) (.int .u64 (IntKind.wrap .u64 (X5+(IntKind.wrap .u64 (4294967296-X11)))))<|Dz w1b w1o λX12=>Dz w1b (w1o+1) λX13=>Dz w1b ((w1o+1)+1) λX14=>Dz w1b (((w1o+1)+1)+1) λX15=>Dz w1b ((((w1o+1)+1)+1)+1) λX16=>st t2b t2o (.int .u64 X12)<|st t2b (t2o+1) (.int .u64 X13)<|st t2b ((t2o+1)+1) (.int .u64 X14)<|st t2b (((t2o+1)+1)+1) (.int .u64 X15)<|st t2b ((((t2o+1)+1)+1)+1) (.int .u64 X16)<|Dz t2b t2o λX17=>Dz t2b (t2o+1) λX18=>Dz t2b ((t2o+1)+1) λX19=>Dz t2b (((t2o+1)+1)+1) λX20=>Dz t2b ((((t2o+1)+1)+1)+1) λX21=>
 Q (.agg #[.int .u64 X17,.int .u64 X18,.int .u64 X19,.int .u64 X20,.int .u64 X21])):=by kernel_rfl
theorem LL:Kg jn Q (m1+1) w1b w1o t2b t2o best3 t5=(Aj (decide (t5<5)) (A3 λS=>AX ((0:Int)<=t5/\t5<((5:Nat):Int))<|Zd S w1b (w1o+t5.toNat*1) λX3=>AX ((0:Int)<=best3/\best3<((5:Nat):Int))<|Dz w1b (w1o+best3.toNat*1) λX4=>An true S<|Aj (decide (X3>X4)) (Kg jn Q m1 w1b w1o t2b t2o t5 (IntKind.wrap .i64 (t5+1))) (Kg jn Q m1 w1b w1o t2b t2o best3 (IntKind.wrap .i64 (t5+1)))) (Acg jn Q w1b w1o t2b t2o best3)):=by kernel_rfl
theorem Ai7:Au jn PR N7 Tryz.f115 [.agg #[.int .u64 w0_0,.int .u64 w0_1,.int .u64 w0_2,.int .u64 w0_3,.int .u64 w0_4]] Q=(A0 [.int .u64 w0_0,.int .u64 w0_1,.int .u64 w0_2,.int .u64 w0_3,.int .u64 w0_4] 140 λB1=>A0 [.int .u64 0,.int .u64 0,.int .u64 0,.int .u64 0,.int .u64 0] 140 λB2=>D2 λm=>Kg jn Q m B1 0 B2 0 0 0):=by kernel_rfl
theorem Ai8:Au jn PR Av Tryz.f116 [.int .u64 h0,.i n1] Q=(Aj (decide (n1<1)) (Q (.i 0)) (AX ((IntKind.wrap .u64 n1)≠0)<|Q (.i (IntKind.wrap .i64 (Int.tmod h0 (IntKind.wrap .u64 n1)))))):=by kernel_rfl
theorem Wl:R1 jn Q (us 5 ((.int .u64 h5)::us 22 []))=(Q (.int .u64 h5)):=by kernel_rfl
theorem LN:N9 jn Q (m1+1) s1 h5 t14 t15=(Aj (decide (t15<t14)) (AX ((0:Int)<=t15/\t15<(s1.size:Int))<|Ze 156 [.int .u64 (IntKind.wrap .u64 ((bits .xor .u64 h5 (IntKind.wrap .u64 (AU s1 t15.toNat)))+11400714819323198485))] λX2=>N9 jn Q m1 s1 X2 t14 (IntKind.wrap .i64 (t15+1))) (Ari jn Q h5)):=by kernel_rfl
theorem Ai9:Au jn PR N8 Tryz.f117 [.int .u64 seed0,.s s1] Q=(Ze 156 [.int .u64 (bits .xor .u64 seed0 (IntKind.wrap .u64 (s1.size:Int)))] λX1=>D2 λm=>N9 jn Q m s1 X1 (s1.size:Int) 0):=by kernel_rfl
theorem Wn:R3 jn Q (us 49 [])=(Q (.b true)):=by kernel_rfl
theorem LO{s0:BA}:Ct jn Q (m2+1) s0 t14 t15=(Aj (decide (t15<t14)) (AX ((0:Int)<=t15/\t15<(s0.size:Int))<|Aj (decide ((AU s0 t15.toNat)<97)) (Aj (decide ((AU s0 t15.toNat)<65)) (Aj (decide ((AU s0 t15.toNat)<48)) (Bw 157 [.s CZ,.int .u8 (AU s0 t15.toNat)] λX1=>Aj (decide (X1<0)) (Q (.b false)) (Ct jn Q m2 s0 t14 (IntKind.wrap .i64 (t15+1)))) (Aj (decide ((AU s0 t15.toNat)>57)) (Bw 157 [.s CZ,.int .u8 (AU s0 t15.toNat)] λX2=>Aj (decide (X2<0)) (Q (.b false)) (Ct jn Q m2 s0 t14 (IntKind.wrap .i64 (t15+1)))) (
 Ct jn Q m2 s0 t14 (IntKind.wrap .i64 (t15+1))))) (Aj (decide ((AU s0 t15.toNat)>90)) (Aj (decide ((AU s0 t15.toNat)<48)) (Bw 157 [.s CZ,.int .u8 (AU s0 t15.toNat)] λX3=>Aj (decide (X3<0)) (Q (.b false)) (Ct jn Q m2 s0 t14 (IntKind.wrap .i64 (t15+1)))) (Aj (decide ((AU s0 t15.toNat)>57)) (Bw 157 [.s CZ,.int .u8 (AU s0 t15.toNat)] λX4=>Aj (decide (X4<0)) (Q (.b false)) (Ct jn Q m2 s0 t14 (IntKind.wrap .i64 (t15+1)))) (Ct jn Q m2 s0 t14 (IntKind.wrap .i64 (t15+1))))) (Ct jn Q m2 s0 t14 (IntKind.wrap .i64 (t15+1))))) (Aj (decide ((AU s0 t15.toNat)>122)) (
 Aj (decide ((AU s0 t15.toNat)<65)) (Aj (decide ((AU s0 t15.toNat)<48)) (Bw 157 [.s CZ,.int .u8 (AU s0 t15.toNat)] λX5=>Aj (decide (X5<0)) (Q (.b false)) (Ct jn Q m2 s0 t14 (IntKind.wrap .i64 (t15+1)))) (Aj (decide ((AU s0 t15.toNat)>57)) (Bw 157 [.s CZ,.int .u8 (AU s0 t15.toNat)] λX6=>Aj (decide (X6<0)) (Q (.b false)) (Ct jn Q m2 s0 t14 (IntKind.wrap .i64 (t15+1)))) (Ct jn Q m2 s0 t14 (IntKind.wrap .i64 (t15+1))))) (Aj (decide ((AU s0 t15.toNat)>90)) (Aj (decide ((AU s0 t15.toNat)<48)) (Bw 157 [.s CZ,.int .u8 (AU s0 t15.toNat)] λX7=>
 Aj (decide (X7<0)) (Q (.b false)) (Ct jn Q m2 s0 t14 (IntKind.wrap .i64 (t15+1)))) (Aj (decide ((AU s0 t15.toNat)>57)) (Bw 157 [.s CZ,.int .u8 (AU s0 t15.toNat)] λX8=>Aj (decide (X8<0)) (Q (.b false)) (Ct jn Q m2 s0 t14 (IntKind.wrap .i64 (t15+1)))) (Ct jn Q m2 s0 t14 (IntKind.wrap .i64 (t15+1))))) (Ct jn Q m2 s0 t14 (IntKind.wrap .i64 (t15+1))))) (Ct jn Q m2 s0 t14 (IntKind.wrap .i64 (t15+1))))) (Arl jn Q)):=by kernel_rfl
theorem Wm{s0:BA}:R2 jn Q ((.s s0)::us 48 [])=(D2 λm=>Ct jn Q m s0 (s0.size:Int) 0):=by kernel_rfl
theorem Aja{s0:BA}:Au jn PR Kh Tryz.f118 [.s s0] Q=(Aj (decide ((s0.size:Int)<1)) (Q (.b false)) (Aj (decide ((s0.size:Int)>24)) (Q (.b false)) (Ark jn Q s0))):=by kernel_rfl
theorem Ajb{n0 most1:Int}:Au jn PR Av Tryz.f119 [.i n0,.i most1] Q=(Aj (decide (n0>=most1)) (Q (.i n0)) (Q (.i (IntKind.wrap .i64 (n0+1))))):=by kernel_rfl
theorem Wo{t4b t4o:Nat}:R4 jn Q (us 4 ((pq t4b t4o)::us 22 []))=(A0 [.s Ae,.i 0] 120 λB13=>BR B13 0 λX14=>Ax B13 1 λX15=>st t4b t4o (.s X14)<|st t4b (t4o+1) (.i X15)<|BR t4b t4o λX16=>Ax t4b (t4o+1) λX17=>Q (.tuple #[.agg #[.s X16,.i X17],.b false])):=by kernel_rfl
theorem Ajc:Au jn PR Ec Tryz.f120 [.p x0,.s key1] Q=(A0 [.s Ae,.i 0] 120 λB1=>Aj (!Option.isNone x0) (F7 158 [.p x0,.s key1] λX2 X3=>Aj X3 (Ad x0 λB4 O5=>Ba B4 (O5+1) λX6=>C1 X6.a X6.n X2 λB7 O8=>BR B7 ((O8+X2.toNat*4)+2) λX9=>Ax B7 (((O8+X2.toNat*4)+2)+1) λX10=>st B1 0 (.s X9)<|st B1 1 (.i X10)<|BR B1 0 λX11=>Ax B1 1 λX12=>Q (.tuple #[.agg #[.s X11,.i X12],.b true])) (Ach jn Q B1 0)) (Ach jn Q B1 0)):=by kernel_rfl
theorem Ajd{v0_0:BA}{v0_1:Int}:Au jn PR Av Tryz.f121 [.agg #[.s v0_0,.i v0_1],.i now1] Q=(A0 [.s v0_0,.i v0_1] 120 λB1=>Ax B1 1 λX2=>Aj (X2 != 0) (Ax B1 1 λX3=>Q (.b (decide (X3<=now1)))) (Q (.b false))):=by kernel_rfl
theorem Aje{rate1:Int}:Au jn PR Av Tryz.f123 [.int .u64 h0,.i rate1] Q=(AX ((16777216:Int)≠0)<|Q (.b (decide ((IntKind.wrap .i64 (Int.tmod h0 16777216))<rate1)))):=by kernel_rfl
theorem Ajf:Au jn PR Av Tryz.f124 [.p g0,.s key1] Q=(Aj (Option.isNone g0) (Q (.b false)) (Ad g0 λB1 O2=>Br B1 (O2+2) λX3=>F7 159 [.p X3,.s key1] λX4 X5=>Aj X5 (Ad g0 λB6 O7=>Br B6 (O7+1) λX8=>EG 160 [.p X8,.i X4] λX9 X10=>Q (.b X5)) (Q (.b X5)))):=by kernel_rfl
theorem Wp:R5 jn Q ((.p c0)::us 1 ((.b gone2)::us 29 []))=(Aj gone2 (Ad c0 λB13 O14=>Ax B13 (O14+2) λX15=>Bw 119 [.i X15,.i 1099511627776] λX16=>Ad c0 λB17 O18=>st B17 (O18+2) (.i X16)<|Q (.tuple #[])) (Q (.tuple #[]))):=by kernel_rfl
theorem Ajg{hit1:Bool}:Au jn PR Aci Tryz.f125 [.p c0,.b hit1,.b gone2] Q=(Ad c0 λB1 O2=>Ax B1 O2 λX3=>Bw 119 [.i X3,.i 1099511627776] λX4=>Ad c0 λB5 O6=>st B5 O6 (.i X4)<|Aj hit1 (Ad c0 λB7 O8=>Ax B7 (O8+1) λX9=>Bw 119 [.i X9,.i 1099511627776] λX10=>Ad c0 λB11 O12=>st B11 (O12+1) (.i X10)<|TX jn Q c0 gone2) (TX jn Q c0 gone2)):=by kernel_rfl
theorem Ajh:Au jn PR Arm Tryz.f126 [.p g0,.s key1] Q=(Aj (Option.isNone g0) (Q (.tuple #[.s Ae,.b false])) (Dv 124 [.p g0,.s key1] λX1=>A3 λS=>Ad g0 λB2 O3=>EO S B2 (O3+2) λX4=>Ad g0 λB5 O6=>Br B5 (O6+1) λX7=>An true S<|Bw 162 [.p X7,.s key1] λX8=>An true S<|Dv 161 [.p X4,.s key1,.i X8] λX9=>A3 λS=>Ad g0 λB10 O11=>EO S B10 (O11+1) λX12=>Ad g0 λB13 O14=>Eh S B13 O14 λX15=>Bw 163 [.p X12] λX16=>
 An true S<|Aj (decide (X16<=X15)) (Q (.tuple #[.s Ae,.b false])) (A3 λS=>Ad g0 λB17 O18=>EO S B17 (O18+1) λX19=>Ad g0 λB20 O21=>Br B20 (O21+1) λX22=>An true S<|Bw 165 [.p X22] λX23=>An true S<|EG 164 [.p X19,.i X23] λX24 X25=>Dv 124 [.p g0,.s X24] λX26=>Q (.tuple #[.s X24,.b X25])))):=by kernel_rfl
theorem Aji{v2_0:BA}{v2_1:Int}:Au jn PR IK Tryz.f127 [.p x0,.s key1,.agg #[.s v2_0,.i v2_1]] Q=(A0 [.s v2_0,.i v2_1] 120 λB1=>Aj (Option.isNone x0) (Q (.b false)) (F7 158 [.p x0,.s key1] λX2 X3=>Aj X3 (A3 λS=>Ad x0 λB4 O5=>Fx S B4 (O5+1) λX6=>BR B1 0 λX7=>Ax B1 1 λX8=>An true S<|C1 X6.a X6.n X2 λB9 O10=>st B9 ((O10+X2.toNat*4)+2) (.s X7)<|st B9 (((O10+X2.toNat*4)+2)+1) (.i X8)<|Q (.b false)) (BR B1 0 λX11=>Ax B1 1 λX12=>
 wz 166 [.p x0,.i X2,.s key1,.agg #[.s X11,.i X12]]<|A3 λS=>Ad x0 λB13 O14=>Eh S B13 (O14+3) λX15=>Ad x0 λB16 O17=>Ba B16 (O17+1) λX18=>An true S<|Aj (decide ((IntKind.wrap .i64 (2*X15))>(X18.n:Int))) (wz 167 [.p x0]<|Q (.b true)) (Q (.b true))))):=by kernel_rfl
theorem Wq:R6 jn Q ((.p f0)::(.i kind1)::(.s key2)::us 21 [])=(Ad f0 λB1 O2=>Dv 122 [.p f0,.p (some ⟨B1,(O2+5),none⟩),.i kind1,.s key2] λX3=>Q (.b X3)):=by kernel_rfl
theorem Ajj:Au jn PR Acj Tryz.f128 [.p f0,.i kind1,.s key2] Q=(Aj (Option.isNone f0) (Q (.b false)) (Aj (kind1 != 2) (Aj (kind1 != 3) (Q (.b false)) (TY jn Q f0 kind1 key2)) (TY jn Q f0 kind1 key2))):=by kernel_rfl
theorem Wr:R7 jn Q (us 3 ((.l all3.a all3.n all3.c)::us 21 []))=(Q (.l all3.a all3.n all3.c)):=by kernel_rfl
theorem LP{l4:OA}:Ki jn Q (m1+1) f0 all3 l4=(Aj (!Option.isNone l4) (Ad l4 λB2 O3=>Ax B2 (O3+1) λX4=>BR B2 ((O3+1)+1) λX5=>A0 [.i X4,.s X5] 159 λB6=>Bn 159 2 24 [.i 0,.s Ae] ⟨all3.a,all3.n,all3.c⟩ 1 (λw=>Hv w (some ⟨B6,0,none⟩) (1*2)) λG7=>Ad l4 λB8 O9=>st B8 (O9+4) (.b false)<|Jh 168 [.p f0] λX10=>Ki jn Q m1 f0 G7 X10) (Aro jn Q all3)):=by kernel_rfl
theorem Ajk:Au jn PR NA Tryz.f129 [.p f0] Q=(Aj (Option.isNone f0) (Q (.l none 0 0)) (Jh 168 [.p f0] λX1=>D2 λm=>Ki jn Q m f0 ⟨none,0,0⟩ X1)):=by kernel_rfl
theorem Ajm{e1_0:Int}{e1_1:BA}:Au jn PR Arq Tryz.f130 [.p m0,.agg #[.i e1_0,.s e1_1]] Q=(A0 [.i e1_0,.s e1_1] 159 λB1=>Aj (Option.isNone m0) (Q (.l none 0 0)) (Ax B1 0 λX2=>Aj (X2==1) (BR B1 1 λX3=>Dv 131 [.p m0,.s X3] λX4=>Aj X4 (BR B1 1 λX5=>F6 132 [.p m0,.s X5] λX6=>Q (.l X6.a X6.n X6.c)) (Q (.l none 0 0))) (Aj (X2==2) (BR B1 1 λX7=>F6 94 [.p m0,.s X7] λX8=>Q (.l X8.a X8.n X8.c)) (Aj (X2==3) (A3 λS=>Ad m0 λB9 O10=>
 Aoo S B9 (O10+2) (BR B1 1 λX13=>An true S<|C8) λ(t_11:TypeId)(v_12:Value)=>BR B1 1 λX14=>An true S<|
 EF PR t_11 v_12 "Remove" fun f_15 r_16 =>Dv f_15 [r_16,.s X14] fun X17=>Dv 42 [.p m0] fun X18=>Aj X18 (A3 fun S=>Ad m0 fun B19 O20=>Aoo S B19 (O20+3) (BR B1 1 fun X23=>An true S <|C8) fun (t_21:TypeId) (v_22:Value)=>BR B1 1 fun X24=>An true S <|
 EF PR t_21 v_22 "Remove" fun f_25 r_26 =>Dv f_25 [r_26,.s X24] fun X27=>Q (.l none 0 0)) (Q (.l none 0 0))) (Q (.l none 0 0)))))):=by kernel_rfl
theorem Ajn:Au jn PR Av Tryz.f131 [.p m0,.s key1] Q=(Aj (!Option.isNone m0) (Ad m0 λB1 O2=>MY B1 (O2+2) (C8) λ(t_3:TypeId)(v_4:Value)=>
 EF PR t_3 v_4 "Has" fun f_5 r_6 =>Dv f_5 [r_6,.s key1] fun X7=>Aj X7 (Q (.b true)) (Dv 42 [.p m0] fun X8=>Aj X8 (Ad m0 fun B9 O10=>MY B9 (O10+3) (C8) fun (t_11:TypeId) (v_12:Value)=>
 EF PR t_11 v_12 "Has" fun f_13 r_14 =>Dv f_13 [r_14,.s key1] fun X15=>Q (.b X15)) (Q (.b false)))) (Q (.b false))):=by kernel_rfl
theorem LQ:R8 jn Q ((.p m0)::(.s key1)::us 28 [])=(Ad m0 λB9 O10=>MY B9 (O10+2) (C8) λ(t_11:TypeId)(v_12:Value)=>
 EF PR t_11 v_12 "Access" fun f_13 r_14 =>A2u f_13 [r_14,.s key1] fun X15 X16=>Q (.l X16.a X16.n X16.c)):=by kernel_rfl
theorem Ajo:Au jn PR Ll Tryz.f132 [.p m0,.s key1] Q=(Dv 42 [.p m0] λX1=>Aj X1 (Ad m0 λB2 O3=>MY B2 (O3+3) (C8) λ(t_4:TypeId)(v_5:Value)=>
 EF PR t_4 v_5 "Has" fun f_6 r_7 =>Dv f_6 [r_7,.s key1] fun X8=>Aj X8 (wz 137 [.p m0,.s key1] <|NB jn Q m0 key1) (NB jn Q m0 key1)) (NB jn Q m0 key1)):=by kernel_rfl
theorem Wt:Au jn PR Arr Tryz.f133 [.p m0] Q=(Aj (Option.isNone m0) (Q (.i 0)) (A3 λS=>Ad m0 λB1 O2=>Aoo S B1 (O2+2) (Bw 134 [.p m0] λX5=>An true S<|C8) λ(t_3:TypeId)(v_4:Value)=>Bw 134 [.p m0] λX6=>An true S<|
 EF PR t_3 v_4 "Len" fun f_7 r_8 =>Bw f_7 [r_8] fun X9=>Q (.i (IntKind.wrap .i64 (X6+X9))))):=by kernel_rfl
theorem Wu:Au jn PR Av Tryz.f134 [.p m0] Q=(Dv 42 [.p m0] λX1=>Aj (!X1) (Q (.i 0)) (Ad m0 λB2 O3=>MY B2 (O3+3) (C8) λ(t_4:TypeId)(v_5:Value)=>
 EF PR t_4 v_5 "Len" fun f_6 r_7 =>Bw f_6 [r_7] fun X8=>Q (.i X8))):=by kernel_rfl
theorem Wv:Au jn PR Av Tryz.f135 [.p m0] Q=(Aj (Option.isNone m0) (Q (.tuple #[.s Ae,.b false])) (Bw 134 [.p m0] λX1=>Aj (decide (X1>0)) (Ad m0 λB2 O3=>MY B2 (O3+3) (C8) λ(t_4:TypeId)(v_5:Value)=>
 EF PR t_4 v_5 "Evict" fun f_6 r_7 =>EG f_6 [r_7] fun X8 X9=>Q (.tuple #[.s X8,.b X9])) (Ad m0 fun B10 O11=>MY B10 (O11+2) (C8) fun (t_12:TypeId) (v_13:Value)=>
 EF PR t_12 v_13 "Evict" fun f_14 r_15 =>EG f_14 [r_15] fun X16 X17=>Q (.tuple #[.s X16,.b X17])))):=by kernel_rfl
theorem Ajp:Au jn PR Av Tryz.f136 [.p x0,.s key1] Q=(A0 [.s Ae,.i 0] 120 λB1=>λw=>Calls PR 120 #[.p x0,.s key1] w λe w'=>∃X2:BA,∃X3:Int,∃X4:Bool,e = .returned (.tuple #[.agg #[.s X2,.i X3],.b X4])/\(A0 [.s Ae,.i 0] 120 λB5=>st B5 0 (.s X2)<|st B5 1 (.i X3)<|Aj X4 (F7 158 [.p x0,.s key1] λX6 X7=>Ad x0 λB8 O9=>Ba B8 (O9+1) λX10=>C1 X10.a X10.n X6 λB11 O12=>st B11 (O12+X6.toNat*4) (.i 1)<|st B11 ((O12+X6.toNat*4)+1) (.s Ae)<|
 st B11 (((O12+X6.toNat*4)+1)+1) (.s Ae)<|st B11 ((((O12+X6.toNat*4)+1)+1)+1) (.i 0)<|Ad x0 λB13 O14=>Ax B13 (O14+2) λX15=>Ad x0 λB16 O17=>st B16 (O17+2) (.i (IntKind.wrap .i64 (X15-1)))<|BR B5 0 λX18=>Ax B5 1 λX19=>st B1 0 (.s X18)<|st B1 1 (.i X19)<|BR B1 0 λX20=>Ax B1 1 λX21=>Q (.tuple #[.agg #[.s X20,.i X21],.b X4])) (BR B5 0 λX22=>Ax B5 1 λX23=>st B1 0 (.s X22)<|st B1 1 (.i X23)<|BR B1 0 λX24=>Ax B1 1 λX25=>Q (.tuple #[.agg #[.s X24,.i X25],.b X4]))) w'):=by kernel_rfl
theorem Ajq:Au jn PR Av Tryz.f137 [.p m0,.s key1] Q=(Ad m0 λB1 O2=>MY B1 (O2+3) (C8) λ(t_3:TypeId)(v_4:Value)=>
 EF PR t_3 v_4 "Remove" fun f_5 r_6 =>Dv f_5 [r_6,.s key1] fun X7=>Ad m0 fun B8 O9=>MY B8 (O9+2) (C8) fun (t_10:TypeId) (v_11:Value)=>
 EF PR t_10 v_11 "Load" fun f_12 r_13 =>Dv f_12 [r_13,.s key1] fun X14=>Q (.tuple #[])):=by kernel_rfl
theorem Ww:R9 jn Q (us 1 ((pq w1b w1o)::us 17 []))=(Dz w1b w1o λX8=>Dz w1b (w1o+1) λX9=>Dz w1b ((w1o+1)+1) λX10=>Dz w1b (((w1o+1)+1)+1) λX11=>Dz w1b ((((w1o+1)+1)+1)+1) λX12=>Ze 142 [.agg #[.int .u64 X8,.int .u64 X9,.int .u64 X10,.int .u64 X11,.int .u64 X12]] λX13=>Q (.b (X13==4294967296))):=by kernel_rfl
theorem LR{t5_0 t5_1 t5_2 t5_3 t5_4:Int}:ND jn Q (m1+1) w1b w1o t5_0 t5_1 t5_2 t5_3 t5_4 t6=(Aj (decide (t6<5)) (AX ((0:Int)<=t6/\t6<((5:Nat):Int))<|λw=>∃X7:Int,([.int .u64 t5_0,.int .u64 t5_1,.int .u64 t5_2,.int .u64 t5_3,.int .u64 t5_4]:List Value)[t6.toNat]? = some (.int .u64 X7)/\Cu (.int .u64 X7)=false/\(Aj (decide (X7<42949672)) (Q (.b false)) (Aj (decide (X7>4294967296)) (Q (.b false)) (ND jn Q m1 w1b w1o t5_0 t5_1 t5_2 t5_3 t5_4 (IntKind.wrap .i64 (t6+1))))) w) (Art jn Q w1b w1o)):=by kernel_rfl
theorem Ajr:Au jn PR NC Tryz.f138 [.agg #[.int .u64 w0_0,.int .u64 w0_1,.int .u64 w0_2,.int .u64 w0_3,.int .u64 w0_4]] Q=(A0 [.int .u64 w0_0,.int .u64 w0_1,.int .u64 w0_2,.int .u64 w0_3,.int .u64 w0_4] 140 λB1=>Dz B1 0 λX2=>Dz B1 1 λX3=>Dz B1 2 λX4=>Dz B1 3 λX5=>Dz B1 4 λX6=>D2 λm=>ND jn Q m B1 0 X2 X3 X4 X5 X6 0):=by kernel_rfl
theorem Ajs{b1:Int}:Au jn PR Av Tryz.f139 [.int .u64 a0,.int .u64 b1] Q=(Ze 143 [.int .u64 a0,.int .u64 b1,.int .u64 4294967296] λX1=>Q (.int .u64 X1)):=by kernel_rfl
theorem Wx:RA jn Q (us 3 ((.int .u64 x3)::us 9 []))=(Q (.int .u64 x3)):=by kernel_rfl
theorem LS:NG jn Q (m1+1) x3 t5 t6=(Aj (decide (t6<t5)) (AX ((10:Int)≠0)<|NG jn Q m1 (IntKind.wrap .u64 (Int.tdiv (IntKind.wrap .u64 (x3*9)) 10)) t5 (IntKind.wrap .i64 (t6+1))) (Arw jn Q x3)):=by kernel_rfl
theorem Ajt{k0:Int}:Au jn PR NF Tryz.f140 [.i k0] Q=(Bw 72 [.i k0,.i 0,.i 15] λX1=>D2 λm=>NG jn Q m 4294967296 X1 0):=by kernel_rfl
theorem Aju{ghosts0 all1:Int}:Au jn PR Av Tryz.f141 [.i ghosts0,.i all1] Q=(Bw 72 [.i ghosts0,.i 0,.i 1099511627776] λX1=>Bw 72 [.i all1,.i 0,.i 1099511627776] λX2=>Aj (X2==0) (Q (.i 0)) (AX (X2≠0)<|Q (.i (if 15<(IntKind.wrap .i64 (Int.tdiv (IntKind.wrap .i64 (16*X1)) X2)) then 15 else (IntKind.wrap .i64 (Int.tdiv (IntKind.wrap .i64 (16*X1)) X2)))))):=by kernel_rfl
theorem Wy:RB jn Q (us 3 ((.int .u64 sum3)::us 11 []))=(Q (.int .u64 sum3)):=by kernel_rfl
theorem LU{t6_0 t6_1 t6_2 t6_3 t6_4:Int}:NI jn Q (m1+1) sum3 t6_0 t6_1 t6_2 t6_3 t6_4 t7=(Aj (decide (t7<5)) (AX ((0:Int)<=t7/\t7<((5:Nat):Int))<|λw=>∃X7:Int,([.int .u64 t6_0,.int .u64 t6_1,.int .u64 t6_2,.int .u64 t6_3,.int .u64 t6_4]:List Value)[t7.toNat]? = some (.int .u64 X7)/\Cu (.int .u64 X7)=false/\(NI jn Q m1 (IntKind.wrap .u64 (sum3+X7)) t6_0 t6_1 t6_2 t6_3 t6_4 (IntKind.wrap .i64 (t7+1))) w) (Ary jn Q sum3)):=by kernel_rfl
theorem Ajv:Au jn PR NH Tryz.f142 [.agg #[.int .u64 w0_0,.int .u64 w0_1,.int .u64 w0_2,.int .u64 w0_3,.int .u64 w0_4]] Q=(A0 [.int .u64 w0_0,.int .u64 w0_1,.int .u64 w0_2,.int .u64 w0_3,.int .u64 w0_4] 140 λB1=>Dz B1 0 λX2=>Dz B1 1 λX3=>Dz B1 2 λX4=>Dz B1 3 λX5=>Dz B1 4 λX6=>D2 λm=>NI jn Q m 0 X2 X3 X4 X5 X6 0):=by kernel_rfl
theorem Ajw{num1 den2:Int}:Au jn PR Av Tryz.f143 [.int .u64 a0,.int .u64 num1,.int .u64 den2] Q=(Gj (.int .u64) (.int .u64) PR 169 [.int .u64 a0,.int .u64 num1] λ(X1:Int)(X2:Int)=>Aj (decide (X1>=den2)) (Q (.int .u64 18446744073709551615)) (Gj (.int .u64) (.int .u64) PR 170 [.int .u64 X1,.int .u64 X2,.int .u64 den2] λ(X3:Int)(X4:Int)=>Q (.int .u64 X3))):=by kernel_rfl
theorem Ajx:Au jn PR Av Tryz.f144 [.p m0,.i kind1] Q=(Aj (Option.isNone m0) (Q (.i 1)) (Ad m0 λB1 O2=>Ax B1 (O2+1) λX3=>OX (.int .i64) PR 113 [.i kind1,.i X3] (λ(X4:Int)=>Aj (X4 != 0) (Q (.i X4)) (Bw 145 [.p m0] λX7=>Ad m0 λB8 O9=>MY B8 (O9+2) (Ad m0 λB12 O13=>st B12 O13 (.i kind1)<|Ad m0 λB14 O15=>st B14 (O15+2) .nilIface<|Ad m0 λB16 O17=>st B16 (O17+3) .nilIface<|Q (.i 0)) λ(t_10:TypeId)(v_11:Value)=>Ad m0 λB18 O19=>st B18 O19 (.i kind1)<|Ad m0 λB20 O21=>
 st B20 (O21+2) .nilIface<|Ad m0 λB22 O23=>st B22 (O23+3) (.iface t_10 v_11)<|Q (.i 0))) λ(t_5:TypeId)(v_6:Value)(X4:Int)=>Aj (X4 != 0) (Q (.i X4)) (Bw 145 [.p m0] λX24=>Ad m0 λB25 O26=>MY B25 (O26+2) (Ad m0 λB29 O30=>st B29 O30 (.i kind1)<|Ad m0 λB31 O32=>st B31 (O32+2) (.iface t_5 v_6)<|Ad m0 λB33 O34=>st B33 (O34+3) .nilIface<|Q (.i 0)) λ(t_27:TypeId)(v_28:Value)=>Ad m0 λB35 O36=>st B35 O36 (.i kind1)<|Ad m0 λB37 O38=>st B37 (O38+2) (.iface t_5 v_6)<|Ad m0 λB39 O40=>st B39 (O40+3) (.iface t_27 v_28)<|Q (.i 0)))):=by kernel_rfl
theorem Wz:RC jn Q (us 3 ((.i n3)::us 13 []))=(Q (.i n3)):=by kernel_rfl
theorem Ip:IL jn Q (m1+1) m0 n3=(Dv 42 [.p m0] λX1=>Aj X1 (EG 99 [.p m0] λX2 X3=>Aj X3 (IL jn Q m1 m0 (IntKind.wrap .i64 (n3+1))) (IL jn Q m1 m0 n3)) (Ar0 jn Q n3)):=by kernel_rfl
theorem Ajy:Au jn PR NJ Tryz.f145 [.p m0] Q=(D2 λm=>IL jn Q m m0 0):=by kernel_rfl
theorem W1:RD jn Q (us 8 ((.iface e8_t e8_v)::us 23 []))=(Q (.tuple #[.iface e8_t e8_v,.i 0])):=by kernel_rfl
theorem LV{t21:Sl}{t22 t23:Int}:NK jn Q (m3+1) e8_t e8_v t21 t22 t23=(Aj (decide (t23<t22)) (C1 t21.a t21.n t23 λB7 O8=>BR B7 (O8+t23.toNat*1) λX9=>
 EF PR e8_t e8_v "Load" fun f_10 r_11 =>Dv f_10 [r_11,.s X9] fun X12=>NK jn Q m3 e8_t e8_v t21 t22 (IntKind.wrap .i64 (t23+1))) (Ar1 jn Q e8_t e8_v)):=by kernel_rfl
theorem Ajz{keys2:Sl}:Au jn PR Kj Tryz.f146 [.i kind0,.i room1,.l keys2.a keys2.n keys2.c] Q=(OX (.int .i64) PR 113 [.i kind0,.i room1] (λ(X1:Int)=>Aj (X1 != 0) (Q (.tuple #[.nilIface,.i X1])) (D2 λm=>Ar2 jn Q m keys2 (keys2.n:Int) 0)) λ(t_2:TypeId)(v_3:Value)(X1:Int)=>Aj (X1 != 0) (Q (.tuple #[.nilIface,.i X1])) (D2 λm=>NK jn Q m t_2 v_3 keys2 (keys2.n:Int) 0)):=by kernel_rfl
theorem Aj0:Au jn PR Av Tryz.f147 [.i room0] Q=(Bw 72 [.i room0,.i 1,.i 1024] λX1=>Jh 171 [] λX2=>Jh 172 [.int .u64 0] λX3=>A0 [.i X1,.p X2,.p X3] 238 λB4=>Q (pq B4 0)):=by kernel_rfl
theorem Aj1:Au jn PR Av Tryz.f151 [.i room0] Q=(λw=>Calls PR 184 #[.i 4] w λe w'=>∃X1:Sl,∃X2:OA,e = .returned (.agg #[.l X1.a X1.n X1.c,.p X2])/\(A0 [.l X1.a X1.n X1.c,.p X2,.i (if (if 1024<room0 then 1024 else room0)>1 then (if 1024<room0 then 1024 else room0) else 1),.i 0] 266 λB3=>Q (pq B3 0)) w'):=by kernel_rfl
theorem Aj2:Au jn PR Av Tryz.f152 [.i room0] Q=(AX ((10:Int)≠0)<|Jh 171 [] λX1=>Jh 171 [] λX2=>Jh 185 [.int .u64 0] λX3=>A0 [.i (if (if 1024<room0 then 1024 else room0)>1 then (if 1024<room0 then 1024 else room0) else 1),.i (IntKind.wrap .i64 ((if (if 1024<room0 then 1024 else room0)>1 then (if 1024<room0 then 1024 else room0) else 1)-(if (IntKind.wrap .i64 (Int.tdiv (if (if 1024<room0 then 1024 else room0)>1 then (if 1024<room0 then 1024 else room0) else 1) 10))>1 then (IntKind.wrap .i64 (Int.tdiv (if (if 1024<room0 then 1024 else room0)>1 then (if 1024<room0 then 1024 else room0) else 1) 10)) else 1))),.p X1,.p X2,.p X3,.i 0,.i 0] 272 λB4=>
 Q (pq B4 0)):=by kernel_rfl
theorem Aj3:Au jn PR Av Tryz.f153 [.i room0] Q=(λw=>Calls PR 186 #[.i 3] w λe w'=>∃X1:Sl,∃X2:OA,e = .returned (.agg #[.l X1.a X1.n X1.c,.p X2])/\(AX ((4:Int)≠0)<|AX ((2:Int)≠0)<|A0 [.l X1.a X1.n X1.c,.p X2,.i (if (if 1024<room0 then 1024 else room0)>1 then (if 1024<room0 then 1024 else room0) else 1),.i (if (IntKind.wrap .i64 (Int.tdiv (if (if 1024<room0 then 1024 else room0)>1 then (if 1024<room0 then 1024 else room0) else 1) 4))>1 then (IntKind.wrap .i64 (Int.tdiv (if (if 1024<room0 then 1024 else room0)>1 then (if 1024<room0 then 1024 else room0) else 1) 4)) else 1),.i (if (IntKind.wrap .i64 (Int.tdiv (if (if 1024<room0 then 1024 else room0)>1 then (if 1024<room0 then 1024 else room0) else 1) 2))>1 then (IntKind.wrap .i64 (Int.tdiv (if (if 1024<room0 then 1024 else room0)>1 then (if 1024<room0 then 1024 else room0) else 1) 2)) else 1)] 278 λB3=>
 Q (pq B3 0)) w'):=by kernel_rfl
theorem Aj4:Au jn PR Av Tryz.f154 [.i room0] Q=(AX ((8:Int)≠0)<|λw=>Calls PR 187 #[.i 3] w λe w'=>∃X1:Sl,∃X2:OA,e = .returned (.agg #[.l X1.a X1.n X1.c,.p X2])/\(AX ((5:Int)≠0)<|Jh 188 [.i (if (if 1024<room0 then 1024 else room0)>1 then (if 1024<room0 then 1024 else room0) else 1)] λX3=>Jh 189 [.i (if (if 1024<room0 then 1024 else room0)>1 then (if 1024<room0 then 1024 else room0) else 1)] λX4=>A0 [.l X1.a X1.n X1.c,.p X2,.i (if (if 1024<room0 then 1024 else room0)>1 then (if 1024<room0 then 1024 else room0) else 1),.i (if (IntKind.wrap .i64 (Int.tdiv (if (if 1024<room0 then 1024 else room0)>1 then (if 1024<room0 then 1024 else room0) else 1) 8))>1 then (IntKind.wrap .i64 (Int.tdiv (if (if 1024<room0 then 1024 else room0)>1 then (if 1024<room0 then 1024 else room0) else 1) 8)) else 1),.i (IntKind.wrap .i64 ((if (if 1024<room0 then 1024 else room0)>1 then (if 1024<room0 then 1024 else room0) else 1)-(if (IntKind.wrap .i64 (Int.tdiv (if (if 1024<room0 then 1024 else room0)>1 then (if 1024<room0 then 1024 else room0) else 1) 8))>1 then (IntKind.wrap .i64 (Int.tdiv (if (if 1024<room0 then 1024 else room0)>1 then (if 1024<room0 then 1024 else room0) else 1) 8)) else 1))),.i (IntKind.wrap .i64 (Int.tdiv (IntKind.wrap .i64 ((IntKind.wrap .i64 ((if (if 1024<room0 then 1024 else room0)>1 then (if 1024<room0 then 1024 else room0) else 1)-(if (IntKind.wrap .i64 (Int.tdiv (if (if 1024<room0 then 1024 else room0)>1 then (if 1024<room0 then 1024 else room0) else 1) 8))>1 then (IntKind.wrap .i64 (Int.tdiv (if (if 1024<room0 then 1024 else room0)>1 then (if 1024<room0 then 1024 else room0) else 1) 8)) else 1)))*4)) 5)),.p X3,.p X4] 288 λB5=>
 Q (pq B5 0)) w'):=by kernel_rfl
theorem Aj5:Au jn PR Av Tryz.f155 [.i room0] Q=(AX ((10:Int)≠0)<|λw=>Calls PR 190 #[.i 3] w λe w'=>∃X1:Sl,∃X2:OA,e = .returned (.agg #[.l X1.a X1.n X1.c,.p X2])/\(Jh 172 [.int .u64 0] λX3=>A0 [.l X1.a X1.n X1.c,.p X2,.i (if (if 1024<room0 then 1024 else room0)>1 then (if 1024<room0 then 1024 else room0) else 1),.i (if (IntKind.wrap .i64 (Int.tdiv (if (if 1024<room0 then 1024 else room0)>1 then (if 1024<room0 then 1024 else room0) else 1) 10))>1 then (IntKind.wrap .i64 (Int.tdiv (if (if 1024<room0 then 1024 else room0)>1 then (if 1024<room0 then 1024 else room0) else 1) 10)) else 1),.i (if (IntKind.wrap .i64 ((if (if 1024<room0 then 1024 else room0)>1 then (if 1024<room0 then 1024 else room0) else 1)-(if (IntKind.wrap .i64 (Int.tdiv (if (if 1024<room0 then 1024 else room0)>1 then (if 1024<room0 then 1024 else room0) else 1) 10))>1 then (IntKind.wrap .i64 (Int.tdiv (if (if 1024<room0 then 1024 else room0)>1 then (if 1024<room0 then 1024 else room0) else 1) 10)) else 1)))>1 then (IntKind.wrap .i64 ((if (if 1024<room0 then 1024 else room0)>1 then (if 1024<room0 then 1024 else room0) else 1)-(if (IntKind.wrap .i64 (Int.tdiv (if (if 1024<room0 then 1024 else room0)>1 then (if 1024<room0 then 1024 else room0) else 1) 10))>1 then (IntKind.wrap .i64 (Int.tdiv (if (if 1024<room0 then 1024 else room0)>1 then (if 1024<room0 then 1024 else room0) else 1) 10)) else 1))) else 1),.p X3] 294 λB4=>
 Q (pq B4 0)) w'):=by kernel_rfl
theorem Aj6{x0:Int}:Au jn PR Av Tryz.f156 [.int .u64 x0] Q=(AX ((0:Int)<=(30:Int))<|AX ((0:Int)<=(27:Int))<|AX ((0:Int)<=(31:Int))<|Q (.int .u64 (bits .xor .u64 (IntKind.wrap .u64 ((bits .xor .u64 (IntKind.wrap .u64 ((bits .xor .u64 x0 (C7 .u64 x0 30))*13787848793156543929)) (C7 .u64 (IntKind.wrap .u64 ((bits .xor .u64 x0 (C7 .u64 x0 30))*13787848793156543929)) 27))*10723151780598845931)) (C7 .u64 (IntKind.wrap .u64 ((bits .xor .u64 (IntKind.wrap .u64 ((bits .xor .u64 x0 (C7 .u64 x0 30))*13787848793156543929)) (C7 .u64 (IntKind.wrap .u64 ((bits .xor .u64 x0 (C7 .u64 x0 30))*13787848793156543929)) 27))*10723151780598845931)) 31)))):=by kernel_rfl
theorem W5:RG jn Q m1 ((.p x0)::(.s key1)::us 4 ((.i free6)::(.i i7)::us 71 []))=(Ad x0 λB23 O24=>Ba B23 (O24+1) λX25=>AX ((X25.n:Int)≠0)<|NL jn Q m1 x0 key1 free6 (Int.tmod (IntKind.wrap .i64 (i7+1)) (X25.n:Int))):=by kernel_rfl
theorem W6{t61:Bool}:RH jn Q m1 ((.p x0)::(.s key1)::us 4 ((.i free6)::(.i i7)::(pq p8b p8o)::us 52 ((.b t61)::us 17 [])))=(Aj t61 (Q (.tuple #[.i i7,.b false])) (Ad (some ⟨p8b,p8o,none⟩) λB29 O30=>Ax B29 O30 λX31=>Aj (X31==0) (Q (.tuple #[.i free6,.b false])) (Ue jn Q m1 x0 key1 free6 i7))):=by kernel_rfl
theorem W4{t50:Bool}:RF jn Q m1 ((.p x0)::(.s key1)::us 4 ((.i free6)::(.i i7)::(pq p8b p8o)::us 41 ((.b t50)::us 28 [])))=(Aj t50 (Ue jn Q m1 x0 key1 i7 i7) (Ad (some ⟨p8b,p8o,none⟩) λB26 O27=>Ax B26 O27 λX28=>Aj (X28==0) (Uf jn Q m1 x0 key1 free6 i7 p8b p8o (decide (free6<0))) (Uf jn Q m1 x0 key1 free6 i7 p8b p8o false))):=by kernel_rfl
theorem W3{t35:Bool}:RE jn Q m1 ((.p x0)::(.s key1)::us 4 ((.i free6)::(.i i7)::(pq p8b p8o)::us 26 ((.b t35)::us 43 [])))=(Aj t35 (Q (.tuple #[.i i7,.b true])) (Ad (some ⟨p8b,p8o,none⟩) λB20 O21=>Ax B20 O21 λX22=>Aj (X22==1) (Ud jn Q m1 x0 key1 free6 i7 p8b p8o (decide (free6<0))) (Ud jn Q m1 x0 key1 free6 i7 p8b p8o false))):=by kernel_rfl
theorem W7:NL jn Q (m1+1) x0 key1 free6 i7=(Ad x0 λB9 O10=>Ba B9 (O10+1) λX11=>C1 X11.a X11.n i7 λB12 O13=>Ad (some ⟨B12,(O13+i7.toNat*4),none⟩) λB14 O15=>Ax B14 O15 λX16=>Aj (X16==2) (Ad (some ⟨B12,(O13+i7.toNat*4),none⟩) λB17 O18=>BR B17 (O18+1) λX19=>Uc jn Q m1 x0 key1 free6 i7 B12 (O13+i7.toNat*4) (sEq X19 key1)) (Uc jn Q m1 x0 key1 free6 i7 B12 (O13+i7.toNat*4) false)):=by kernel_rfl
theorem Aj7:Au jn PR AA Tryz.f158 [.p x0,.s key1] Q=(A3 λS=>Ad x0 λB1 O2=>Zd S B1 O2 λX3=>Ad x0 λB4 O5=>Fx S B4 (O5+1) λX6=>Ze 117 [.int .u64 X3,.s key1] λX7=>An true S<|Bw 116 [.int .u64 X7,.i (X6.n:Int)] λX8=>D2 λm=>NL jn Q m x0 key1 (-1) X8):=by kernel_rfl
theorem Aj8:Au jn PR Av Tryz.f159 [.p x0,.s key1] Q=(F7 192 [.p x0,.s key1] λX1 X2=>Aj X2 (F7 193 [.p x0,.s key1] λX3 X4=>Ad x0 λB5 O6=>Ba B5 (O6+1) λX7=>C1 X7.a X7.n X3 λB8 O9=>st B8 (O9+X3.toNat*3) (.i 1)<|st B8 ((O9+X3.toNat*3)+1) (.s Ae)<|st B8 (((O9+X3.toNat*3)+1)+1) (.i 0)<|Ad x0 λB10 O11=>Ax B10 (O11+2) λX12=>Ad x0 λB13 O14=>st B13 (O14+2) (.i (IntKind.wrap .i64 (X12-1)))<|Q (.tuple #[.i X1,.b X2])) (
 Q (.tuple #[.i X1,.b X2]))):=by kernel_rfl
theorem Aj9:Au jn PR Av Tryz.f160 [.p l0,.i h1] Q=(EG 164 [.p l0,.i h1] λX1 X2=>Aj X2 (wz 194 [.p l0,.i h1]<|Ad l0 λB3 O4=>Ba B3 O4 λX5=>C1 X5.a X5.n h1 λB6 O7=>st B6 (O7+h1.toNat*4) (.s Ae)<|st B6 ((O7+h1.toNat*4)+1) (.i 0)<|st B6 (((O7+h1.toNat*4)+1)+1) (.i 0)<|st B6 ((((O7+h1.toNat*4)+1)+1)+1) (.b false)<|Ad l0 λB8 O9=>Ba B8 (O9+1) λX10=>A0 [.i h1] 3 λB11=>Bn 3 1 8 [.i 0] ⟨X10.a,X10.n,X10.c⟩ 1 (λw=>Hv w (some ⟨B11,0,none⟩) (1*1)) λG12=>
 Ad l0 λB13 O14=>st B13 (O14+1) (.l G12.a G12.n G12.c)<|Ad l0 λB15 O16=>Ax B15 (O16+2) λX17=>Ad l0 λB18 O19=>st B18 (O19+2) (.i (IntKind.wrap .i64 (X17-1)))<|Q (.tuple #[.s X1,.b X2])) (Q (.tuple #[.s X1,.b X2]))):=by kernel_rfl
theorem Aka{v2:Int}:Au jn PR Ar6 Tryz.f161 [.p x0,.s key1,.i v2] Q=(Aj (Option.isNone x0) (Q (.b false)) (F7 193 [.p x0,.s key1] λX1 X2=>Aj X2 (Ad x0 λB3 O4=>Ba B3 (O4+1) λX5=>C1 X5.a X5.n X1 λB6 O7=>st B6 ((O7+X1.toNat*3)+2) (.i v2)<|Q (.b false)) (wz 195 [.p x0,.i X1,.s key1,.i v2]<|A3 λS=>Ad x0 λB8 O9=>Eh S B8 (O9+3) λX10=>Ad x0 λB11 O12=>Ba B11 (O12+1) λX13=>An true S<|Aj (decide ((IntKind.wrap .i64 (2*X10))>(X13.n:Int))) (
 wz 196 [.p x0]<|Q (.b true)) (Q (.b true))))):=by kernel_rfl
theorem Akb{v1:BA}:Au jn PR Av Tryz.f162 [.p l0,.s v1] Q=(Aj (Option.isNone l0) (Q (.i 0)) (Bw 197 [.p l0,.s v1] λX1=>Ad l0 λB2 O3=>Ba B2 O3 λX4=>C1 X4.a X4.n 0 λB5 O6=>Ax B5 ((O6+((0:Int)).toNat*4)+1) λX7=>wz 198 [.p l0,.i X1,.i X7,.i 0]<|Q (.i X1))):=by kernel_rfl
theorem Akc:Au jn PR Av Tryz.f163 [.p l0] Q=(Aj (Option.isNone l0) (Q (.i 0)) (Ad l0 λB1 O2=>Ax B1 (O2+2) λX3=>Q (.i X3))):=by kernel_rfl
theorem Akd:Au jn PR Av Tryz.f164 [.p l0,.i h1] Q=(Dv 199 [.p l0,.i h1] λX1=>Aj (!X1) (Q (.tuple #[.s Ae,.b false])) (Ad l0 λB2 O3=>Ba B2 O3 λX4=>C1 X4.a X4.n h1 λB5 O6=>BR B5 (O6+h1.toNat*4) λX7=>Q (.tuple #[.s X7,.b true]))):=by kernel_rfl
theorem Ake:Au jn PR Av Tryz.f165 [.p l0] Q=(Aj (Option.isNone l0) (Q (.i 0)) (Ad l0 λB1 O2=>Ba B1 O2 λX3=>C1 X3.a X3.n 0 λB4 O5=>Ax B4 ((O5+((0:Int)).toNat*4)+2) λX6=>Q (.i X6))):=by kernel_rfl
theorem LY{v7b v7o:Nat}:RI jn Q ((.p x0)::(.i i1)::(.s key2)::us 4 ((pq v7b v7o)::us 32 []))=(A3 λS=>Ad x0 λB13 O14=>Fx S B13 (O14+1) λX15=>BR v7b v7o λX16=>Ax v7b (v7o+1) λX17=>An true S<|C1 X15.a X15.n i1 λB18 O19=>st B18 (O19+i1.toNat*4) (.i 2)<|st B18 ((O19+i1.toNat*4)+1) (.s key2)<|st B18 (((O19+i1.toNat*4)+1)+1) (.s X16)<|st B18 ((((O19+i1.toNat*4)+1)+1)+1) (.i X17)<|Ad x0 λB20 O21=>Ax B20 (O21+2) λX22=>Ad x0 λB23 O24=>st B23 (O24+2) (.i (IntKind.wrap .i64 (X22+1)))<|
 Q (.tuple #[])):=by kernel_rfl
theorem Akf{v3_0:BA}{v3_1:Int}:Au jn PR Ed Tryz.f166 [.p x0,.i i1,.s key2,.agg #[.s v3_0,.i v3_1]] Q=(A0 [.s v3_0,.i v3_1] 120 λB1=>Ad x0 λB2 O3=>Ba B2 (O3+1) λX4=>C1 X4.a X4.n i1 λB5 O6=>Ax B5 (O6+i1.toNat*4) λX7=>Aj (X7==0) (Ad x0 λB8 O9=>Ax B8 (O9+3) λX10=>Ad x0 λB11 O12=>st B11 (O12+3) (.i (IntKind.wrap .i64 (X10+1)))<|Acm jn Q x0 i1 key2 B1 0) (Acm jn Q x0 i1 key2 B1 0)):=by kernel_rfl
theorem LZ{t28:Sl}{t29 t30:Int}:Kl jn Q (m1+1) x0 t28 t29 t30=(Aj (decide (t30<t29)) (C1 t28.a t28.n t30 λB14 O15=>Ax B14 (O15+t30.toNat*4) λX16=>BR B14 ((O15+t30.toNat*4)+1) λX17=>BR B14 (((O15+t30.toNat*4)+1)+1) λX18=>Ax B14 ((((O15+t30.toNat*4)+1)+1)+1) λX19=>A0 [.i 0,.s Ae,.s Ae,.i 0] 178 λB20=>st B20 0 (.i X16)<|st B20 1 (.s X17)<|st B20 2 (.s X18)<|st B20 3 (.i X19)<|Ax B20 0 λX21=>Aj (X21==2) (BR B20 1 λX22=>F7 158 [.p x0,.s X22] λX23 X24=>
 BR B20 1 λX25=>BR B20 2 λX26=>Ax B20 3 λX27=>wz 166 [.p x0,.i X23,.s X25,.agg #[.s X26,.i X27]]<|Kl jn Q m1 x0 t28 t29 (IntKind.wrap .i64 (t30+1))) (Kl jn Q m1 x0 t28 t29 (IntKind.wrap .i64 (t30+1)))) (Q (.tuple #[]))):=by kernel_rfl
theorem Akg:Au jn PR Dw Tryz.f167 [.p x0] Q=(Ad x0 λB1 O2=>Ba B1 (O2+1) λX3=>Ad x0 λB4 O5=>Ax B4 (O5+2) λX6=>Hh 178 48 [.i 0,.s Ae,.s Ae,.i 0] (if (IntKind.wrap .i64 (4*(IntKind.wrap .i64 (X6+1))))>8 then (IntKind.wrap .i64 (4*(IntKind.wrap .i64 (X6+1)))) else 8) (if (IntKind.wrap .i64 (4*(IntKind.wrap .i64 (X6+1))))>8 then (IntKind.wrap .i64 (4*(IntKind.wrap .i64 (X6+1)))) else 8) λG7=>Ad x0 λB8 O9=>st B8 (O9+1) (.l G7.a G7.n G7.c)<|Ad x0 λB10 O11=>st B10 (O11+2) (.i 0)<|Ad x0 λB12 O13=>st B12 (O13+3) (.i 0)<|D2 λm=>Kl jn Q m x0 X3 (X3.n:Int) 0):=by kernel_rfl
theorem WB{t13:Bool}:RK jn Q ((.p f0)::us 2 ((.b r3)::us 9 ((.b t13)::us 32 [])))=(Aj t13 (Ad f0 λB13 O14=>Q (.p (some ⟨B13,(O14+5),none⟩))) (Aj r3 (Ad f0 λB15 O16=>Q (pq B15 O16)) (Q (.p none)))):=by kernel_rfl
theorem WA{w4 t13:Bool}:RJ jn Q ((.p f0)::us 2 ((.b r3)::(.b w4)::us 8 ((.b t13)::us 32 [])))=(Aj t13 (NN jn Q f0 r3 t13) (Aj w4 (NN jn Q f0 r3 (!r3)) (NN jn Q f0 r3 false))):=by kernel_rfl
theorem Akh:Au jn PR Kn Tryz.f168 [.p f0] Q=(A3 λS=>Ad f0 λB1 O2=>Ad f0 λB3 O4=>Dv 200 [pq B1 O2] λX5=>Dv 200 [.p (some ⟨B3,(O4+5),none⟩)] λX6=>A3 λS=>Aj X5 (Aj X6 (Ad f0 λB7 O8=>Eh S B7 (((O8+5)+1)+2) λX9=>Ad f0 λB10 O11=>Ax B10 ((O11+1)+2) λX12=>An true S<|NM jn Q f0 X5 X6 (decide (X9<X12))) (An true S<|NM jn Q f0 X5 X6 false)) (An true S<|NM jn Q f0 X5 X6 false)):=by kernel_rfl
theorem Aki{x0 y1:Int}:Au jn PR Av Tryz.f169 [.int .u64 x0,.int .u64 y1] Q=(AX ((0:Int)<=(32:Int))<|AX ((0:Int)<=(32:Int))<|AX ((0:Int)<=(32:Int))<|AX ((0:Int)<=(32:Int))<|AX ((0:Int)<=(32:Int))<|Q (.tuple #[.int .u64 (IntKind.wrap .u64 ((IntKind.wrap .u64 ((IntKind.wrap .u64 ((C7 .u64 x0 32)*(C7 .u64 y1 32)))+(C7 .u64 (IntKind.wrap .u64 ((IntKind.wrap .u64 ((C7 .u64 x0 32)*(bits .and .u64 y1 4294967295)))+(C7 .u64 (IntKind.wrap .u64 ((bits .and .u64 x0 4294967295)*(bits .and .u64 y1 4294967295))) 32))) 32)))+(C7 .u64 (IntKind.wrap .u64 ((bits .and .u64 (IntKind.wrap .u64 ((IntKind.wrap .u64 ((C7 .u64 x0 32)*(bits .and .u64 y1 4294967295)))+(C7 .u64 (IntKind.wrap .u64 ((bits .and .u64 x0 4294967295)*(bits .and .u64 y1 4294967295))) 32))) 4294967295)+(IntKind.wrap .u64 ((bits .and .u64 x0 4294967295)*(C7 .u64 y1 32))))) 32))),.int .u64 (IntKind.wrap .u64 (x0*y1))])):=by kernel_rfl
theorem Akj:Au jn PR Av Tryz.f171 [] Q=(Hh 302 40 [.s Ae,.i 0,.i 0,.b false] 1 1 λG1=>A0 [.l G1.a G1.n G1.c,.l none 0 0,.i 0] 305 λB2=>Q (pq B2 0)):=by kernel_rfl
theorem Akk:Au jn PR Av Tryz.f172 [.int .u64 seed0] Q=(Hh 297 32 [.i 0,.s Ae,.i 0] 8 8 λG1=>A0 [.int .u64 seed0,.l G1.a G1.n G1.c,.i 0,.i 0] 300 λB2=>Q (pq B2 0)):=by kernel_rfl
theorem Akl:Au jn PR Av Tryz.f185 [.int .u64 seed0] Q=(Hh 387 48 [.i 0,.s Ae,.i 0,.i 0,.i 0] 8 8 λG1=>A0 [.int .u64 seed0,.l G1.a G1.n G1.c,.i 0,.i 0] 320 λB2=>Q (pq B2 0)):=by kernel_rfl
theorem Ma:RL jn Q (us 3 ((.i n3)::us 13 []))=(AX ((2:Int)≠0)<|Hh 5 1 [.int .u8 0] (IntKind.wrap .i64 (Int.tdiv (IntKind.wrap .i64 (4*n3)) 2)) (IntKind.wrap .i64 (Int.tdiv (IntKind.wrap .i64 (4*n3)) 2)) λG2=>A0 [.i n3,.l G2.a G2.n G2.c,.i 0] 329 λB3=>Q (pq B3 0)):=by kernel_rfl
theorem Mb:NO jn Q (m1+1) room0 n3=(Bw 72 [.i room0,.i 1,.i 1024] λX1=>Aj (decide (n3<X1)) (NO jn Q m1 room0 (IntKind.wrap .i64 (n3*2))) (Asf jn Q n3)):=by kernel_rfl
theorem Akm:Au jn PR Gl Tryz.f188 [.i room0] Q=(D2 λm=>NO jn Q m room0 8):=by kernel_rfl
end Go.Proofs.YtjipofkjmmpjdaaGreat
namespace Go.Proofs.YtjipofkjmmpjdaaGreat
open Go.Hb
section
variable(jn:Jn)(Q:VW)
def Asg:EW:=sE Tryz.f189 Gl jn Q [1,1,1] (rE Tryz.f189 Q) A5
def RM:EW:=cE Tryz.f189 Gl jn Q [1,1,1] (rE Tryz.f189 Q) A5
def Acn(n3:Int):WP:=jn 10 (RM jn Q) (us 3 ((.i n3)::us 13 []))
def NP(m1:Nat)(room0 n3:Int):WP:=CJ PR Gl jn (bE Tryz.f189 [1,1,0,0,0]) (A6 0 (Asg jn Q) A5) (rE Tryz.f189 Q) m1 ((.i room0)::us 2 ((.i n3)::us 13 []))
def Ash:EW:=sE Tryz.f190 CN jn Q [1,1,1] (rE Tryz.f190 Q) A5
def Ae7:EW:=cE Tryz.f190 CN jn Q [1,1,1] (rE Tryz.f190 Q) A5
def Asi(m1:Nat)(t2b t2o r3b r3o:Nat)(t6 t7:Int):WP:=CJ PR CN jn (bE Tryz.f190 [1,1,0,1,0,0]) (A6 0 (Ash jn Q) A5) (rE Tryz.f190 Q) m1 (us 2 ((pq t2b t2o)::(pq r3b r3o)::us 2 ((.i t6)::(.i t7)::us 9 [])))
def Aco(m1:Nat):EW:=Ia PR AA jn (bE Tryz.f193 [1,1,1,0,0]) (A6 0 (rE Tryz.f193 Q) A5) (rE Tryz.f193 Q) m1
def Ko(m1:Nat):EW:=sE Tryz.f193 AA jn Q [1,1,1,0,0,1] (Aco jn Q m1) (A6 0 (rE Tryz.f193 Q) A5)
def Asj(m1:Nat):Nat->EW:=A6 1 (Ko jn Q m1) (A6 0 (rE Tryz.f193 Q) A5)
def Uh(m1:Nat):Nat->EW:=A6 2 (Ko jn Q m1) (Asj jn Q m1)
def RP(m1:Nat):EW:=cE Tryz.f193 AA jn Q [1,1,1,0,0,1] (Aco jn Q m1) (A6 0 (rE Tryz.f193 Q) A5)
def Uk(m1:Nat)(x0:OA)(key1:BA)(free6 i7:Int):WP:=jn 8 (RP jn Q m1) ((.p x0)::(.s key1)::us 4 ((.i free6)::(.i i7)::us 71 []))
def RQ(m1:Nat):EW:=cE Tryz.f193 AA jn Q [1,1,1,0,0,0,0,1,0,1,1,1,1,1] (Ko jn Q m1) (Uh jn Q m1)
def Ul(m1:Nat)(x0:OA)(key1:BA)(free6 i7:Int)(p8b p8o:Nat)(t61:Bool):WP:=jn 22 (RQ jn Q m1) ((.p x0)::(.s key1)::us 4 ((.i free6)::(.i i7)::(pq p8b p8o)::us 52 ((.b t61)::us 17 [])))
def RO(m1:Nat):EW:=cE Tryz.f193 AA jn Q [1,1,1,0,0,0,0,1,0,1,1,1] (Ko jn Q m1) (Uh jn Q m1)
def Uj(m1:Nat)(x0:OA)(key1:BA)(free6 i7:Int)(p8b p8o:Nat)(t50:Bool):WP:=jn 18 (RO jn Q m1) ((.p x0)::(.s key1)::us 4 ((.i free6)::(.i i7)::(pq p8b p8o)::us 41 ((.b t50)::us 28 [])))
def RN(m1:Nat):EW:=cE Tryz.f193 AA jn Q [1,1,1,0,0,0,0,1,0,1] (Ko jn Q m1) (Uh jn Q m1)
def Ui(m1:Nat)(x0:OA)(key1:BA)(free6 i7:Int)(p8b p8o:Nat)(t35:Bool):WP:=jn 14 (RN jn Q m1) ((.p x0)::(.s key1)::us 4 ((.i free6)::(.i i7)::(pq p8b p8o)::us 26 ((.b t35)::us 43 [])))
def NQ(m1:Nat)(x0:OA)(key1:BA)(free6 i7:Int):WP:=CJ PR AA jn (bE Tryz.f193 [1,1,1,0,0]) (A6 0 (rE Tryz.f193 Q) A5) (rE Tryz.f193 Q) m1 ((.p x0)::(.s key1)::us 4 ((.i free6)::(.i i7)::us 71 []))
def Asl:KP:=⟨[],[(0,[0,1,2,3,4,5,6,7,8,9,10,12,13,14,16,17]),(1,[0,1,2,3,4,5,6,7,9,10,11,12,13,15,16])]⟩
def Acq:KP:=⟨[(6,[0,1,2,3])],[]⟩
def RR:EW:=cE Tryz.f195 Acq jn Q [1] (rE Tryz.f195 Q) A5
def Acp(x0:OA)(i1:Int)(key2:BA)(v3:Int):WP:=jn 6 (RR jn Q) ((.p x0)::(.i i1)::(.s key2)::(.i v3)::us 36 [])
def Kp(m1:Nat)(x0:OA)(t28:Sl)(t29 t30:Int):WP:=CJ PR Dw jn (bE Tryz.f196 [1,1,1,0,0]) (A6 0 (rE Tryz.f196 Q) A5) (rE Tryz.f196 Q) m1 ((.p x0)::us 27 ((.l t28.a t28.n t28.c)::(.i t29)::(.i t30)::us 21 []))
def Acs:KP:=⟨[(16,[0,1,5])],[]⟩
def RS:EW:=cE Tryz.f197 Acs jn Q [1,1,1] (rE Tryz.f197 Q) A5
def Acr(l0:OA)(v1:BA)(h5:Int):WP:=jn 16 (RS jn Q) ((.p l0)::(.s v1)::us 3 ((.i h5)::us 57 []))
def Asm:KP:=⟨[],[(0,[0,1,2,3,4,5,6,7,9,10,11,12,13,15,16]),(1,[0,1,2,3,4,5,6,7,9,10,11,12,13,15,16])]⟩
def NR:KP:=⟨[(9,[0,3,4]),(14,[3])],[]⟩
def Asr:EW:=sE Tryz.f244 NR jn Q [1,1,1] (rE Tryz.f244 Q) A5
def RT:EW:=cE Tryz.f244 NR jn Q [1,1,1] (rE Tryz.f244 Q) A5
def Ass(all3:Sl):WP:=jn 14 (RT jn Q) (us 3 ((.l all3.a all3.n all3.c)::us 20 []))
def NS(m1:Nat)(l0:OA)(all3:Sl)(h4:Int):WP:=CJ PR NR jn (bE Tryz.f244 [1,1,0,1,0,0]) (A6 0 (Asr jn Q) A5) (rE Tryz.f244 Q) m1 ((.p l0)::us 2 ((.l all3.a all3.n all3.c)::(.i h4)::us 19 []))
def NT:KP:=⟨[(24,[0,1,16,26]),(40,[0,1,6])],[(14,[0,1,2,3,4,5,6,7,8,9,10,11,12,15,16,17,18,21,22,23,24,25,26]),(17,[0,1,2,3,4,5,6,7,8,11,12,13,14,17,18,19,20,21,22])]⟩
def Acu:EW:=sE Tryz.f246 NT jn Q [1,1,1,1,1] (rE Tryz.f246 Q) A5
def RW:EW:=cE Tryz.f246 NT jn Q [1,1,1,1,1] (rE Tryz.f246 Q) A5
def Fh(e0:OA)(key1:BA)(gone6:Sl):WP:=jn 40 (RW jn Q) ((.p e0)::(.s key1)::us 4 ((.l gone6.a gone6.n gone6.c)::us 93 []))
def RU:EW:=cE Tryz.f246 NT jn Q [1,1,1,1,0,1,0,1] (Acu jn Q) (A6 0 (Acu jn Q) A5)
def Uo(e0:OA)(key1:BA)(t16:Int)(t26:Bool):WP:=jn 24 (RU jn Q) ((.p e0)::(.s key1)::us 14 ((.i t16)::us 9 ((.b t26)::us 73 [])))
def Gn:KP:=⟨[(8,[0,1]),(11,[0]),(14,[0]),(15,[0]),(18,[])],[(1,[0,1,2,3,4,6,7,8,10,11,12,13,14,15]),(4,[0,1,2,3,6,7,8,9,10]),(5,[0,1,2,3,4,5,6]),(6,[0,1,2,3,6,7,8,9,10,11]),(7,[0,1,2,3,4,5,6])]⟩
def Asu:EW:=sE Tryz.f252 Gn jn Q [1,1,1,1] (rE Tryz.f252 Q) A5
def Ak3:EW:=sE Tryz.f252 Gn jn Q [1,1,1,1,1] (rE Tryz.f252 Q) A5
def RZ:EW:=cE Tryz.f252 Gn jn Q [1,1,1,1,1] (rE Tryz.f252 Q) A5
def Asx:WP:=jn 18 (RZ jn Q) (us 70 [])
def NV(m4:Nat)(e0:OA):WP:=CJ PR Gn jn (bE Tryz.f252 [1,1,1,1,0,0,0]) (A6 2 (Ak3 jn Q) A5) (rE Tryz.f252 Q) m4 ((.p e0)::us 69 [])
def RY:EW:=cE Tryz.f252 Gn jn Q [1,1,1,1] (rE Tryz.f252 Q) A5
def Asw(e0:OA):WP:=jn 14 (RY jn Q) ((.p e0)::us 69 [])
def NU(m2:Nat)(e0:OA):WP:=CJ PR Gn jn (bE Tryz.f252 [1,1,1,0,0,0]) (A6 0 (Asu jn Q) A5) (rE Tryz.f252 Q) m2 ((.p e0)::us 69 [])
def RX:EW:=cE Tryz.f252 Gn jn Q [1,1] (rE Tryz.f252 Q) A5
def Asv(e0:OA)(key1:BA):WP:=jn 8 (RX jn Q) ((.p e0)::(.s key1)::us 68 [])
def NW:KP:=⟨[],[(2,[0,1,2,3,4,6,7,9,11])]⟩
def Bo:KP:=⟨[(9,[2,5,8,9,10]),(16,[5])],[]⟩
def Asy:EW:=sE Tryz.f258 Bo jn Q [1,1,1] (rE Tryz.f258 Q) A5
def Ae8:EW:=cE Tryz.f258 Bo jn Q [1,1,1] (rE Tryz.f258 Q) A5
def Asz(m1:Nat)(r2b r2o:Nat)(n5:Int)(t8:Sl)(t9 t10:Int):WP:=CJ PR Bo jn (bE Tryz.f258 [1,1,0,1,0,0]) (A6 0 (Asy jn Q) A5) (rE Tryz.f258 Q) m1 (us 2 ((pq r2b r2o)::us 2 ((.i n5)::us 2 ((.l t8.a t8.n t8.c)::(.i t9)::(.i t10)::us 13 []))))
def As0:KP:=⟨[],[(1,[0,1,2,3,6,7,8,9,10])]⟩
def Uq:KP:=⟨[(6,[0,4])],[(1,[0,1,2,3,6,7,8,9,10,11,12,13,14,15,18,19,20,21,22,23,24]),(2,[0,1,2,3,4,5,6]),(3,[0,1,2,3,6,7,8,9,10,11]),(7,[0,1,2,3,6,7,8,9,10,11]),(9,[0,1,2,3,6,7,8,9,10,11,12]),(10,[0,1,2,3,4,5,6])]⟩
def Acv:EW:=sE Tryz.f260 Uq jn Q [1,1] (rE Tryz.f260 Q) A5
def Sa:EW:=cE Tryz.f260 Uq jn Q [1,0,0,1] (Acv jn Q) (A6 0 (Acv jn Q) A5)
def Up(e0:OA)(t4:Bool):WP:=jn 6 (Sa jn Q) ((.p e0)::us 3 ((.b t4)::us 96 []))
def Acw:KP:=⟨[(10,[0,5,6])],[]⟩
def Sb:EW:=cE Tryz.f261 Acw jn Q [1,1,1] (rE Tryz.f261 Q) A5
def Ur(e0:OA)(from5 to6:Int):WP:=jn 10 (Sb jn Q) ((.p e0)::us 4 ((.i from5)::(.i to6)::us 17 []))
def As1:EW:=sE Tryz.f262 Bo jn Q [1,1,1] (rE Tryz.f262 Q) A5
def Ae9:EW:=cE Tryz.f262 Bo jn Q [1,1,1] (rE Tryz.f262 Q) A5
def As2(m1:Nat)(r2b r2o:Nat)(l5 t8:Sl)(t9 t10:Int):WP:=CJ PR Bo jn (bE Tryz.f262 [1,1,0,1,0,0]) (A6 0 (As1 jn Q) A5) (rE Tryz.f262 Q) m1 (us 2 ((pq r2b r2o)::us 2 ((.l l5.a l5.n l5.c)::us 2 ((.l t8.a t8.n t8.c)::(.i t9)::(.i t10)::us 13 []))))
def NX:KP:=⟨[],[(3,[0,1,2,3,4,5,6])]⟩
def NY:KP:=⟨[],[(1,[0,1,2,3,4,5,7,8,12,13,14,15,16])]⟩
def Afa:EW:=cE Tryz.f265 Ec jn Q [1,1] (rE Tryz.f265 Q) A5
def Acx(m1:Nat):EW:=Ia PR AA jn (bE Tryz.f268 [1,1,1,0,0]) (A6 0 (rE Tryz.f268 Q) A5) (rE Tryz.f268 Q) m1
def Kq(m1:Nat):EW:=sE Tryz.f268 AA jn Q [1,1,1,0,0,1] (Acx jn Q m1) (A6 0 (rE Tryz.f268 Q) A5)
def As3(m1:Nat):Nat->EW:=A6 1 (Kq jn Q m1) (A6 0 (rE Tryz.f268 Q) A5)
def Us(m1:Nat):Nat->EW:=A6 2 (Kq jn Q m1) (As3 jn Q m1)
def Afd(m1:Nat):EW:=cE Tryz.f268 AA jn Q [1,1,1,0,0,1] (Acx jn Q m1) (A6 0 (rE Tryz.f268 Q) A5)
def Afe(m1:Nat):EW:=cE Tryz.f268 AA jn Q [1,1,1,0,0,0,0,1,0,1,1,1,1,1] (Kq jn Q m1) (Us jn Q m1)
def Afc(m1:Nat):EW:=cE Tryz.f268 AA jn Q [1,1,1,0,0,0,0,1,0,1,1,1] (Kq jn Q m1) (Us jn Q m1)
def Afb(m1:Nat):EW:=cE Tryz.f268 AA jn Q [1,1,1,0,0,0,0,1,0,1] (Kq jn Q m1) (Us jn Q m1)
def As4(m1:Nat)(x0:OA)(key1:BA)(free6 i7:Int):WP:=CJ PR AA jn (bE Tryz.f268 [1,1,1,0,0]) (A6 0 (rE Tryz.f268 Q) A5) (rE Tryz.f268 Q) m1 ((.p x0)::(.s key1)::us 4 ((.i free6)::(.i i7)::us 71 []))
def Aff:EW:=cE Tryz.f269 Ed jn Q [1,1] (rE Tryz.f269 Q) A5
def As5(m1:Nat)(x0:OA)(t28:Sl)(t29 t30:Int):WP:=CJ PR Dw jn (bE Tryz.f270 [1,1,1,0,0]) (A6 0 (rE Tryz.f270 Q) A5) (rE Tryz.f270 Q) m1 ((.p x0)::us 27 ((.l t28.a t28.n t28.c)::(.i t29)::(.i t30)::us 21 []))
def H9:KP:=⟨[(14,[0,1,6,22]),(28,[0,1,6]),(38,[0,1,6,8]),(40,[0,1,6,8,88])],[(14,[0,2,3,4,5,6]),(18,[0,1,2,3,4,5,6,8,9,10,12,13])]⟩
def Acy:EW:=sE Tryz.f271 H9 jn Q [1,1,1,1] (rE Tryz.f271 Q) A5
def Ala:EW:=sE Tryz.f271 H9 jn Q [1,1,1,1,1,1,1] (rE Tryz.f271 Q) A5
def Sf:EW:=cE Tryz.f271 H9 jn Q [1,1,1,1,1,1,0,1] (Ala jn Q) A5
def Uu(e0:OA)(key1:BA)(n6b n6o:Nat)(gone8:Sl)(t88:Bool):WP:=jn 40 (Sf jn Q) ((.p e0)::(.s key1)::us 4 ((pq n6b n6o)::us 1 ((.l gone8.a gone8.n gone8.c)::us 79 ((.b t88)::us 13 []))))
def Se:EW:=cE Tryz.f271 H9 jn Q [1,1,1,1,1,1] (rE Tryz.f271 Q) A5
def Ut(e0:OA)(key1:BA)(n6b n6o:Nat)(gone8:Sl):WP:=jn 38 (Se jn Q) ((.p e0)::(.s key1)::us 4 ((pq n6b n6o)::us 1 ((.l gone8.a gone8.n gone8.c)::us 93 [])))
def Sd:EW:=cE Tryz.f271 H9 jn Q [1,1,1,1] (rE Tryz.f271 Q) A5
def As6(e0:OA)(key1:BA)(n6b n6o:Nat):WP:=jn 28 (Sd jn Q) ((.p e0)::(.s key1)::us 4 ((pq n6b n6o)::us 95 []))
def Sc:EW:=cE Tryz.f271 H9 jn Q [1,1,1,0,0,1] (Acy jn Q) (A6 0 (Acy jn Q) A5)
def NZ(e0:OA)(key1:BA)(n6b n6o:Nat)(t22:Bool):WP:=jn 14 (Sc jn Q) ((.p e0)::(.s key1)::us 4 ((pq n6b n6o)::us 15 ((.b t22)::us 79 [])))
def Uw:KP:=⟨[(12,[0]),(24,[0,4,6])],[(5,[0,1,2,3,4,5,6,10,11,12,13,14])]⟩
def Si:EW:=cE Tryz.f272 Uw jn Q [1,1,1,1,1,1,1,1] (rE Tryz.f272 Q) A5
def Acz(e0:OA)(key4:BA)(n6b n6o:Nat):WP:=jn 24 (Si jn Q) ((.p e0)::us 3 ((.s key4)::us 1 ((pq n6b n6o)::us 50 [])))
def Sg:EW:=cE Tryz.f272 Uw jn Q [1,1,1] (rE Tryz.f272 Q) A5
def Uv(e0:OA):WP:=jn 12 (Sg jn Q) ((.p e0)::us 56 [])
def As7:KP:=⟨[],[(3,[0,1,2,3,5,6,7,8,9,10])]⟩
def Ac0:KP:=⟨[(8,[0,1])],[(1,[0,1,2,3,4,6,7,8,10,11,12,13,14,15]),(4,[0,1,2,3,4,5,6,8])]⟩
def Sj:EW:=cE Tryz.f277 Ac0 jn Q [1,1] (rE Tryz.f277 Q) A5
def As8(e0:OA)(key1:BA):WP:=jn 8 (Sj jn Q) ((.p e0)::(.s key1)::us 49 [])
def As9:KP:=⟨[],[(4,[0,1,2,3,4])]⟩
def Ac1:KP:=⟨[],[(1,[0,1,2,3,4])]⟩
def Sk:EW:=cE Tryz.f282 Ec jn Q [1,1] (rE Tryz.f282 Q) A5
def Ac2(t4b t4o:Nat):WP:=jn 12 (Sk jn Q) (us 4 ((pq t4b t4o)::us 22 []))
def Atb:KP:=⟨[],[(5,[0,1,2,3,4,5,6,8])]⟩
def Ac3:KP:=⟨[(3,[0])],[(1,[0,1,2,3,4,5,6,10,11,12,13,14])]⟩
def Oa(m1:Nat)(e0:OA):WP:=CJ PR Ac3 jn (bE Tryz.f284 [0,0]) (A6 0 (rE Tryz.f284 Q) A5) (rE Tryz.f284 Q) m1 ((.p e0)::us 40 [])
def Ac4:KP:=⟨[(3,[0])],[(0,[0,1,2,3,4,5,6,8])]⟩
def Ob(m1:Nat)(e0:OA):WP:=CJ PR Ac4 jn (bE Tryz.f286 [0,0]) (A6 0 (rE Tryz.f286 Q) A5) (rE Tryz.f286 Q) m1 ((.p e0)::us 21 [])
def Uy:KP:=⟨[],[(0,[0,1,2,3,4,5,6])]⟩
def Atc:KP:=⟨[],[(6,[0,1,2,3,4])]⟩
def Oc:KP:=⟨[(9,[0,1,5,14,15,16]),(20,[5])],[]⟩
def Atd:EW:=sE Tryz.f289 Oc jn Q [1,1,1] (rE Tryz.f289 Q) A5
def Sm:EW:=cE Tryz.f289 Oc jn Q [1,1,1] (rE Tryz.f289 Q) A5
def Ate(l5:Sl):WP:=jn 20 (Sm jn Q) (us 5 ((.l l5.a l5.n l5.c)::us 33 []))
def Kr(m1:Nat)(e0:OA)(is1:Int)(l5 t14:Sl)(t15 t16:Int):WP:=CJ PR Oc jn (bE Tryz.f289 [1,1,0,1,0,0]) (A6 0 (Atd jn Q) A5) (rE Tryz.f289 Q) m1 ((.p e0)::(.i is1)::us 3 ((.l l5.a l5.n l5.c)::us 8 ((.l t14.a t14.n t14.c)::(.i t15)::(.i t16)::us 22 [])))
def Od:KP:=⟨[(7,[0,1,5,6]),(18,[5])],[(7,[0,2])]⟩
def Atg:EW:=sE Tryz.f290 Od jn Q [1,1] (rE Tryz.f290 Q) A5
def Sn:EW:=cE Tryz.f290 Od jn Q [1,1] (rE Tryz.f290 Q) A5
def Ath(t5b t5o:Nat):WP:=jn 18 (Sn jn Q) (us 5 ((pq t5b t5o)::us 43 []))
def Oe(m1:Nat)(e0:OA)(is1:Int)(t5b t5o:Nat)(h6:Int):WP:=CJ PR Od jn (bE Tryz.f290 [1,0,1,0,0]) (A6 0 (Atg jn Q) A5) (rE Tryz.f290 Q) m1 ((.p e0)::(.i is1)::us 3 ((pq t5b t5o)::(.i h6)::us 42 []))
def Ac5(m1:Nat):EW:=Ia PR AA jn (bE Tryz.f292 [1,1,1,0,0]) (A6 0 (rE Tryz.f292 Q) A5) (rE Tryz.f292 Q) m1
def Ks(m1:Nat):EW:=sE Tryz.f292 AA jn Q [1,1,1,0,0,1] (Ac5 jn Q m1) (A6 0 (rE Tryz.f292 Q) A5)
def Ati(m1:Nat):Nat->EW:=A6 1 (Ks jn Q m1) (A6 0 (rE Tryz.f292 Q) A5)
def Uz(m1:Nat):Nat->EW:=A6 2 (Ks jn Q m1) (Ati jn Q m1)
def Sq(m1:Nat):EW:=cE Tryz.f292 AA jn Q [1,1,1,0,0,1] (Ac5 jn Q m1) (A6 0 (rE Tryz.f292 Q) A5)
def U2(m1:Nat)(x0:OA)(key1:BA)(free6 i7:Int):WP:=jn 8 (Sq jn Q m1) ((.p x0)::(.s key1)::us 4 ((.i free6)::(.i i7)::us 71 []))
def Sr(m1:Nat):EW:=cE Tryz.f292 AA jn Q [1,1,1,0,0,0,0,1,0,1,1,1,1,1] (Ks jn Q m1) (Uz jn Q m1)
def U3(m1:Nat)(x0:OA)(key1:BA)(free6 i7:Int)(p8b p8o:Nat)(t61:Bool):WP:=jn 22 (Sr jn Q m1) ((.p x0)::(.s key1)::us 4 ((.i free6)::(.i i7)::(pq p8b p8o)::us 52 ((.b t61)::us 17 [])))
def Sp(m1:Nat):EW:=cE Tryz.f292 AA jn Q [1,1,1,0,0,0,0,1,0,1,1,1] (Ks jn Q m1) (Uz jn Q m1)
def U1(m1:Nat)(x0:OA)(key1:BA)(free6 i7:Int)(p8b p8o:Nat)(t50:Bool):WP:=jn 18 (Sp jn Q m1) ((.p x0)::(.s key1)::us 4 ((.i free6)::(.i i7)::(pq p8b p8o)::us 41 ((.b t50)::us 28 [])))
def So(m1:Nat):EW:=cE Tryz.f292 AA jn Q [1,1,1,0,0,0,0,1,0,1] (Ks jn Q m1) (Uz jn Q m1)
def U0(m1:Nat)(x0:OA)(key1:BA)(free6 i7:Int)(p8b p8o:Nat)(t35:Bool):WP:=jn 14 (So jn Q m1) ((.p x0)::(.s key1)::us 4 ((.i free6)::(.i i7)::(pq p8b p8o)::us 26 ((.b t35)::us 43 [])))
def Of(m1:Nat)(x0:OA)(key1:BA)(free6 i7:Int):WP:=CJ PR AA jn (bE Tryz.f292 [1,1,1,0,0]) (A6 0 (rE Tryz.f292 Q) A5) (rE Tryz.f292 Q) m1 ((.p x0)::(.s key1)::us 4 ((.i free6)::(.i i7)::us 71 []))
def Ss:EW:=cE Tryz.f298 Ed jn Q [1,1] (rE Tryz.f298 Q) A5
def Ac6(x0:OA)(i1:Int)(key2:BA)(v7b v7o:Nat):WP:=jn 8 (Ss jn Q) ((.p x0)::(.i i1)::(.s key2)::us 4 ((pq v7b v7o)::us 32 []))
def Kt(m1:Nat)(x0:OA)(t28:Sl)(t29 t30:Int):WP:=CJ PR Dw jn (bE Tryz.f299 [1,1,1,0,0]) (A6 0 (rE Tryz.f299 Q) A5) (rE Tryz.f299 Q) m1 ((.p x0)::us 27 ((.l t28.a t28.n t28.c)::(.i t29)::(.i t30)::us 21 []))
def HA:KP:=⟨[(10,[0,28]),(16,[0]),(21,[0,5]),(24,[5])],[(3,[0,1,2,3,6,7,8,9,10,11,12,13,14,15,18,19]),(9,[0,1,2,3,6,7,8,9,10]),(10,[0,1,2,3,4,5,6])]⟩
def Atk:EW:=sE Tryz.f301 HA jn Q [1,1,1] (rE Tryz.f301 Q) A5
def Al5:EW:=sE Tryz.f301 HA jn Q [1,1,1,1,1,1] (rE Tryz.f301 Q) A5
def Sv:EW:=cE Tryz.f301 HA jn Q [1,1,1,1,1,1] (rE Tryz.f301 Q) A5
def Atm(key5:BA):WP:=jn 24 (Sv jn Q) (us 5 ((.s key5)::us 68 []))
def Og(m3:Nat)(e0:OA)(key5:BA):WP:=CJ PR HA jn (bE Tryz.f301 [1,1,1,1,1,0,0,0]) (A6 0 (Al5 jn Q) A5) (rE Tryz.f301 Q) m3 ((.p e0)::us 4 ((.s key5)::us 68 []))
def Su:EW:=cE Tryz.f301 HA jn Q [1,1,1] (rE Tryz.f301 Q) A5
def Atl(e0:OA):WP:=jn 16 (Su jn Q) ((.p e0)::us 73 [])
def St:EW:=cE Tryz.f301 HA jn Q [1,1,0,1] (Atk jn Q) A5
def U4(e0:OA)(t28:Bool):WP:=jn 10 (St jn Q) ((.p e0)::us 27 ((.b t28)::us 45 []))
def Ac7:KP:=⟨[(8,[0,1])],[(1,[0,1,2,3,4,6,7,8,10,11,12,13,14,15])]⟩
def Sw:EW:=cE Tryz.f306 Ac7 jn Q [1,1] (rE Tryz.f306 Q) A5
def Atn(e0:OA)(key1:BA):WP:=jn 8 (Sw jn Q) ((.p e0)::(.s key1)::us 25 [])
def Atp:KP:=⟨[],[(1,[0,2,3,4,5,6])]⟩
def Atq:EW:=sE Tryz.f314 Bo jn Q [1,1,1] (rE Tryz.f314 Q) A5
def Afg:EW:=cE Tryz.f314 Bo jn Q [1,1,1] (rE Tryz.f314 Q) A5
def Atr(m1:Nat)(r2b r2o:Nat)(n5:Int)(t8:Sl)(t9 t10:Int):WP:=CJ PR Bo jn (bE Tryz.f314 [1,1,0,1,0,0]) (A6 0 (Atq jn Q) A5) (rE Tryz.f314 Q) m1 (us 2 ((pq r2b r2o)::us 2 ((.i n5)::us 2 ((.l t8.a t8.n t8.c)::(.i t9)::(.i t10)::us 13 []))))
def Ats:EW:=sE Tryz.f316 Bo jn Q [1,1,1] (rE Tryz.f316 Q) A5
def Afh:EW:=cE Tryz.f316 Bo jn Q [1,1,1] (rE Tryz.f316 Q) A5
def Att(m1:Nat)(r2b r2o:Nat)(l5 t8:Sl)(t9 t10:Int):WP:=CJ PR Bo jn (bE Tryz.f316 [1,1,0,1,0,0]) (A6 0 (Ats jn Q) A5) (rE Tryz.f316 Q) m1 (us 2 ((pq r2b r2o)::us 2 ((.l l5.a l5.n l5.c)::us 2 ((.l t8.a t8.n t8.c)::(.i t9)::(.i t10)::us 13 []))))
def Afi:EW:=cE Tryz.f317 Ec jn Q [1,1] (rE Tryz.f317 Q) A5
def Ac8(m1:Nat):EW:=Ia PR AA jn (bE Tryz.f320 [1,1,1,0,0]) (A6 0 (rE Tryz.f320 Q) A5) (rE Tryz.f320 Q) m1
def Ku(m1:Nat):EW:=sE Tryz.f320 AA jn Q [1,1,1,0,0,1] (Ac8 jn Q m1) (A6 0 (rE Tryz.f320 Q) A5)
def Atv(m1:Nat):Nat->EW:=A6 1 (Ku jn Q m1) (A6 0 (rE Tryz.f320 Q) A5)
def U7(m1:Nat):Nat->EW:=A6 2 (Ku jn Q m1) (Atv jn Q m1)
def Afl(m1:Nat):EW:=cE Tryz.f320 AA jn Q [1,1,1,0,0,1] (Ac8 jn Q m1) (A6 0 (rE Tryz.f320 Q) A5)
def Afm(m1:Nat):EW:=cE Tryz.f320 AA jn Q [1,1,1,0,0,0,0,1,0,1,1,1,1,1] (Ku jn Q m1) (U7 jn Q m1)
def Afk(m1:Nat):EW:=cE Tryz.f320 AA jn Q [1,1,1,0,0,0,0,1,0,1,1,1] (Ku jn Q m1) (U7 jn Q m1)
def Afj(m1:Nat):EW:=cE Tryz.f320 AA jn Q [1,1,1,0,0,0,0,1,0,1] (Ku jn Q m1) (U7 jn Q m1)
def Atw(m1:Nat)(x0:OA)(key1:BA)(free6 i7:Int):WP:=CJ PR AA jn (bE Tryz.f320 [1,1,1,0,0]) (A6 0 (rE Tryz.f320 Q) A5) (rE Tryz.f320 Q) m1 ((.p x0)::(.s key1)::us 4 ((.i free6)::(.i i7)::us 71 []))
def Afn:EW:=cE Tryz.f321 Ed jn Q [1,1] (rE Tryz.f321 Q) A5
def Atx(m1:Nat)(x0:OA)(t28:Sl)(t29 t30:Int):WP:=CJ PR Dw jn (bE Tryz.f322 [1,1,1,0,0]) (A6 0 (rE Tryz.f322 Q) A5) (rE Tryz.f322 Q) m1 ((.p x0)::us 27 ((.l t28.a t28.n t28.c)::(.i t29)::(.i t30)::us 21 []))
def Fi:KP:=⟨[(24,[0,1,28]),(27,[0]),(30,[]),(32,[0,1]),(37,[0,7]),(40,[7])],[(12,[0,1,2,3,6,7,8,9,10]),(13,[0,1,2,3,4,5,6]),(17,[0,1,2,3,6,7,8,9,10])]⟩
def HB:EW:=sE Tryz.f323 Fi jn Q [1,1,1,1] (rE Tryz.f323 Q) A5
def Ame:EW:=sE Tryz.f323 Fi jn Q [1,1,1,0,1,1,0,1,1,1,0,1,1] (HB jn Q) (A6 0 (HB jn Q) A5)
def Amf:Nat->EW:=A6 1 (Ame jn Q) (A6 0 (HB jn Q) A5)
def Amg:EW:=sE Tryz.f323 Fi jn Q [1,1,1,1,1,1,1] (rE Tryz.f323 Q) A5
def Sy:EW:=cE Tryz.f323 Fi jn Q [1,1,1,0,1,1,0,1,1,1,0,1,1] (HB jn Q) (A6 0 (HB jn Q) A5)
def Aty:WP:=jn 30 (Sy jn Q) (us 80 [])
def Oh(m2:Nat)(e0:OA):WP:=CJ PR Fi jn (bE Tryz.f323 [1,1,1,0,1,1,0,1,1,1,0,1,0,0,0]) (Amf jn Q) (rE Tryz.f323 Q) m2 ((.p e0)::us 79 [])
def S1:EW:=cE Tryz.f323 Fi jn Q [1,1,1,1,1,1,1] (rE Tryz.f323 Q) A5
def At0(gone7:Sl):WP:=jn 40 (S1 jn Q) (us 7 ((.l gone7.a gone7.n gone7.c)::us 72 []))
def Oi(m5:Nat)(e0:OA)(gone7:Sl):WP:=CJ PR Fi jn (bE Tryz.f323 [1,1,1,1,1,1,0,0,0]) (A6 3 (Amg jn Q) A5) (rE Tryz.f323 Q) m5 ((.p e0)::us 6 ((.l gone7.a gone7.n gone7.c)::us 72 []))
def Sz:EW:=cE Tryz.f323 Fi jn Q [1,1,1,1] (rE Tryz.f323 Q) A5
def Atz(e0:OA)(key1:BA):WP:=jn 32 (Sz jn Q) ((.p e0)::(.s key1)::us 78 [])
def Sx:EW:=cE Tryz.f323 Fi jn Q [1,1,1,0,1,1,0,1,1,1] (HB jn Q) (A6 0 (HB jn Q) A5)
def U8(e0:OA)(key1:BA)(t28:Bool):WP:=jn 24 (Sx jn Q) ((.p e0)::(.s key1)::us 26 ((.b t28)::us 51 []))
def Ac9:KP:=⟨[(8,[0,1])],[(1,[0,1,2,3,4,6,7,8,10,11,12,13,14,15]),(3,[0,1,2,3,6,7,8,9,10])]⟩
def S3:EW:=cE Tryz.f329 Ac9 jn Q [1,1] (rE Tryz.f329 Q) A5
def At1(e0:OA)(key1:BA):WP:=jn 8 (S3 jn Q) ((.p e0)::(.s key1)::us 42 [])
def At3:EW:=sE Tryz.f336 Bo jn Q [1,1,1] (rE Tryz.f336 Q) A5
def Afo:EW:=cE Tryz.f336 Bo jn Q [1,1,1] (rE Tryz.f336 Q) A5
def At4(m1:Nat)(r2b r2o:Nat)(n5:Int)(t8:Sl)(t9 t10:Int):WP:=CJ PR Bo jn (bE Tryz.f336 [1,1,0,1,0,0]) (A6 0 (At3 jn Q) A5) (rE Tryz.f336 Q) m1 (us 2 ((pq r2b r2o)::us 2 ((.i n5)::us 2 ((.l t8.a t8.n t8.c)::(.i t9)::(.i t10)::us 13 []))))
def Ol:KP:=⟨[(16,[0,3,4,35]),(20,[0,3,4])],[(3,[0,1,2,3,6,7,8,9,10,11]),(6,[0,1,2,3,4,6,7,8,9,10,11,14,15,16])]⟩
def Ada:EW:=sE Tryz.f338 Ol jn Q [1,1,1,1] (rE Tryz.f338 Q) A5
def S5:EW:=cE Tryz.f338 Ol jn Q [1,1,1,1] (rE Tryz.f338 Q) A5
def At5(e0:OA)(key3:BA)(row4:Int):WP:=jn 20 (S5 jn Q) ((.p e0)::us 2 ((.s key3)::(.i row4)::us 75 []))
def S4:EW:=cE Tryz.f338 Ol jn Q [1,1,1,0,0,1,1,1] (Ada jn Q) (A6 0 (Ada jn Q) A5)
def Oj(e0:OA)(key3:BA)(row4:Int)(t35:Bool):WP:=jn 16 (S4 jn Q) ((.p e0)::us 2 ((.s key3)::(.i row4)::us 30 ((.b t35)::us 44 [])))
def Om:KP:=⟨[(7,[0,6,7,8]),(16,[])],[]⟩
def At6:EW:=sE Tryz.f339 Om jn Q [1,1] (rE Tryz.f339 Q) A5
def S6:EW:=cE Tryz.f339 Om jn Q [1,1] (rE Tryz.f339 Q) A5
def At7:WP:=jn 16 (S6 jn Q) (us 22 [])
def U9(m1:Nat)(e0:OA)(t6:Sl)(t7 t8:Int):WP:=CJ PR Om jn (bE Tryz.f339 [1,0,1,0,0]) (A6 0 (At6 jn Q) A5) (rE Tryz.f339 Q) m1 ((.p e0)::us 5 ((.l t6.a t6.n t6.c)::(.i t7)::(.i t8)::us 13 []))
def At9:EW:=sE Tryz.f341 Bo jn Q [1,1,1] (rE Tryz.f341 Q) A5
def Afp:EW:=cE Tryz.f341 Bo jn Q [1,1,1] (rE Tryz.f341 Q) A5
def Aua(m1:Nat)(r2b r2o:Nat)(l5 t8:Sl)(t9 t10:Int):WP:=CJ PR Bo jn (bE Tryz.f341 [1,1,0,1,0,0]) (A6 0 (At9 jn Q) A5) (rE Tryz.f341 Q) m1 (us 2 ((pq r2b r2o)::us 2 ((.l l5.a l5.n l5.c)::us 2 ((.l t8.a t8.n t8.c)::(.i t9)::(.i t10)::us 13 []))))
def On:KP:=⟨[(13,[0,1,5,14]),(22,[5])],[]⟩
def Aub:EW:=sE Tryz.f342 On jn Q [1,1,1,1] (rE Tryz.f342 Q) A5
def S7:EW:=cE Tryz.f342 On jn Q [1,1,1,1] (rE Tryz.f342 Q) A5
def Auc(was5:Bool):WP:=jn 22 (S7 jn Q) (us 5 ((.b was5)::us 30 []))
def Oo(m1:Nat)(d0:OA)(key1:BA)(was5:Bool)(t14:Int):WP:=CJ PR On jn (bE Tryz.f342 [1,1,1,0,1,0,0]) (A6 0 (Aub jn Q) A5) (rE Tryz.f342 Q) m1 ((.p d0)::(.s key1)::us 3 ((.b was5)::us 8 ((.i t14)::us 21 [])))
def Oq:KP:=⟨[(11,[0,4,17,18]),(22,[0])],[(11,[0,1,2,3,4,5,6,8,9])]⟩
def Aud:EW:=sE Tryz.f344 Oq jn Q [1,1,1,1] (rE Tryz.f344 Q) A5
def S8:EW:=cE Tryz.f344 Oq jn Q [1,1,1,1] (rE Tryz.f344 Q) A5
def Aue(s0:OA):WP:=jn 22 (S8 jn Q) ((.p s0)::us 51 [])
def Kv(m1:Nat)(s0:OA)(low4 t17_0 t17_1 t17_2 t17_3 t18:Int):WP:=CJ PR Oq jn (bE Tryz.f344 [1,1,1,0,1,0,0]) (A6 0 (Aud jn Q) A5) (rE Tryz.f344 Q) m1 ((.p s0)::us 3 ((.i low4)::us 12 ((.agg #[.i t17_0,.i t17_1,.i t17_2,.i t17_3])::(.i t18)::us 33 [])))
def Afq:EW:=cE Tryz.f346 Ec jn Q [1,1] (rE Tryz.f346 Q) A5
end
variable{jn:Jn}{Q:VW}{e0 x0 l0 s0 n1 d0:OA}{key1 key2 v1 key5 key3:BA}{m1 p8b p8o n6b n6o m2 t5b t5o:Nat}{free6 i7 is1 h1 i1 n1_0 n1_1 n1_2 n3 room0 v3 t29 t30 t16 row4:Int}{t35 t61 t50 was5:Bool}{t28 all3 gone8 l5 gone7:Sl}
theorem WC:RM jn Q (us 3 ((.i n3)::us 13 []))=(AX ((64:Int)≠0)<|Hh 138 8 [.int .u64 0] (if (IntKind.wrap .i64 (Int.tdiv (IntKind.wrap .i64 (8*n3)) 64))>1 then (IntKind.wrap .i64 (Int.tdiv (IntKind.wrap .i64 (8*n3)) 64)) else 1) (if (IntKind.wrap .i64 (Int.tdiv (IntKind.wrap .i64 (8*n3)) 64))>1 then (IntKind.wrap .i64 (Int.tdiv (IntKind.wrap .i64 (8*n3)) 64)) else 1) λG2=>A0 [.l G2.a G2.n G2.c] 332 λB3=>Q (pq B3 0)):=by kernel_rfl
theorem Mc:NP jn Q (m1+1) room0 n3=(Bw 72 [.i room0,.i 1,.i 1024] λX1=>Aj (decide (n3<X1)) (NP jn Q m1 room0 (IntKind.wrap .i64 (n3*2))) (Acn jn Q n3)):=by kernel_rfl
theorem Akn:Au jn PR Gl Tryz.f189 [.i room0] Q=(D2 λm=>NP jn Q m room0 1):=by kernel_rfl
theorem Ako:Au jn PR Av Tryz.f192 [.p x0,.s key1] Q=(Aj (!Option.isNone x0) (F7 193 [.p x0,.s key1] λX1 X2=>Aj X2 (Ad x0 λB3 O4=>Ba B3 (O4+1) λX5=>C1 X5.a X5.n X1 λB6 O7=>Ax B6 ((O7+X1.toNat*3)+2) λX8=>Q (.tuple #[.i X8,.b true])) (Q (.tuple #[.i 0,.b false]))) (Q (.tuple #[.i 0,.b false]))):=by kernel_rfl
theorem WF:RP jn Q m1 ((.p x0)::(.s key1)::us 4 ((.i free6)::(.i i7)::us 71 []))=(Ad x0 λB23 O24=>Ba B23 (O24+1) λX25=>AX ((X25.n:Int)≠0)<|NQ jn Q m1 x0 key1 free6 (Int.tmod (IntKind.wrap .i64 (i7+1)) (X25.n:Int))):=by kernel_rfl
theorem WG:RQ jn Q m1 ((.p x0)::(.s key1)::us 4 ((.i free6)::(.i i7)::(pq p8b p8o)::us 52 ((.b t61)::us 17 [])))=(Aj t61 (Q (.tuple #[.i i7,.b false])) (Ad (some ⟨p8b,p8o,none⟩) λB29 O30=>Ax B29 O30 λX31=>Aj (X31==0) (Q (.tuple #[.i free6,.b false])) (Uk jn Q m1 x0 key1 free6 i7))):=by kernel_rfl
theorem WE:RO jn Q m1 ((.p x0)::(.s key1)::us 4 ((.i free6)::(.i i7)::(pq p8b p8o)::us 41 ((.b t50)::us 28 [])))=(Aj t50 (Uk jn Q m1 x0 key1 i7 i7) (Ad (some ⟨p8b,p8o,none⟩) λB26 O27=>Ax B26 O27 λX28=>Aj (X28==0) (Ul jn Q m1 x0 key1 free6 i7 p8b p8o (decide (free6<0))) (Ul jn Q m1 x0 key1 free6 i7 p8b p8o false))):=by kernel_rfl
theorem WD:RN jn Q m1 ((.p x0)::(.s key1)::us 4 ((.i free6)::(.i i7)::(pq p8b p8o)::us 26 ((.b t35)::us 43 [])))=(Aj t35 (Q (.tuple #[.i i7,.b true])) (Ad (some ⟨p8b,p8o,none⟩) λB20 O21=>Ax B20 O21 λX22=>Aj (X22==1) (Uj jn Q m1 x0 key1 free6 i7 p8b p8o (decide (free6<0))) (Uj jn Q m1 x0 key1 free6 i7 p8b p8o false))):=by kernel_rfl
theorem WH:NQ jn Q (m1+1) x0 key1 free6 i7=(Ad x0 λB9 O10=>Ba B9 (O10+1) λX11=>C1 X11.a X11.n i7 λB12 O13=>Ad (some ⟨B12,(O13+i7.toNat*3),none⟩) λB14 O15=>Ax B14 O15 λX16=>Aj (X16==2) (Ad (some ⟨B12,(O13+i7.toNat*3),none⟩) λB17 O18=>BR B17 (O18+1) λX19=>Ui jn Q m1 x0 key1 free6 i7 B12 (O13+i7.toNat*3) (sEq X19 key1)) (Ui jn Q m1 x0 key1 free6 i7 B12 (O13+i7.toNat*3) false)):=by kernel_rfl
theorem Akp:Au jn PR AA Tryz.f193 [.p x0,.s key1] Q=(A3 λS=>Ad x0 λB1 O2=>Zd S B1 O2 λX3=>Ad x0 λB4 O5=>Fx S B4 (O5+1) λX6=>Ze 117 [.int .u64 X3,.s key1] λX7=>An true S<|Bw 116 [.int .u64 X7,.i (X6.n:Int)] λX8=>D2 λm=>NQ jn Q m x0 key1 (-1) X8):=by kernel_rfl
theorem Akq:Au jn PR Asl Tryz.f194 [.p l0,.i h1] Q=(A3 λS=>Ad l0 λB1 O2=>Fx S B1 O2 λX3=>C1 X3.a X3.n h1 λB4 O5=>Eh S B4 ((O5+h1.toNat*4)+1) λX6=>Ad l0 λB7 O8=>Ba B7 O8 λX9=>An true S<|C1 X9.a X9.n h1 λB10 O11=>Ax B10 ((O11+h1.toNat*4)+2) λX12=>An true S<|A3 λS=>Ad l0 λB13 O14=>Fx S B13 O14 λX15=>Ad l0 λB16 O17=>Ba B16 O17 λX18=>An true S<|C1 X15.a X15.n X6 λB19 O20=>st B19 ((O20+X6.toNat*4)+2) (.i X12)<|C1 X18.a X18.n X12 λB21 O22=>st B21 ((O22+X12.toNat*4)+1) (.i X6)<|
 Q (.tuple #[])):=by kernel_rfl
theorem Md:RR jn Q ((.p x0)::(.i i1)::(.s key2)::(.i v3)::us 36 [])=(Ad x0 λB12 O13=>Ba B12 (O13+1) λX14=>C1 X14.a X14.n i1 λB15 O16=>st B15 (O16+i1.toNat*3) (.i 2)<|st B15 ((O16+i1.toNat*3)+1) (.s key2)<|st B15 (((O16+i1.toNat*3)+1)+1) (.i v3)<|Ad x0 λB17 O18=>Ax B17 (O18+2) λX19=>Ad x0 λB20 O21=>st B20 (O21+2) (.i (IntKind.wrap .i64 (X19+1)))<|Q (.tuple #[])):=by kernel_rfl
theorem Akr:Au jn PR Acq Tryz.f195 [.p x0,.i i1,.s key2,.i v3] Q=(Ad x0 λB1 O2=>Ba B1 (O2+1) λX3=>C1 X3.a X3.n i1 λB4 O5=>Ax B4 (O5+i1.toNat*3) λX6=>Aj (X6==0) (Ad x0 λB7 O8=>Ax B7 (O8+3) λX9=>Ad x0 λB10 O11=>st B10 (O11+3) (.i (IntKind.wrap .i64 (X9+1)))<|Acp jn Q x0 i1 key2 v3) (Acp jn Q x0 i1 key2 v3)):=by kernel_rfl
theorem Me:Kp jn Q (m1+1) x0 t28 t29 t30=(Aj (decide (t30<t29)) (C1 t28.a t28.n t30 λB14 O15=>Ax B14 (O15+t30.toNat*3) λX16=>BR B14 ((O15+t30.toNat*3)+1) λX17=>Ax B14 (((O15+t30.toNat*3)+1)+1) λX18=>A0 [.i 0,.s Ae,.i 0] 297 λB19=>st B19 0 (.i X16)<|st B19 1 (.s X17)<|st B19 2 (.i X18)<|Ax B19 0 λX20=>Aj (X20==2) (BR B19 1 λX21=>F7 193 [.p x0,.s X21] λX22 X23=>BR B19 1 λX24=>Ax B19 2 λX25=>
 wz 195 [.p x0,.i X22,.s X24,.i X25]<|Kp jn Q m1 x0 t28 t29 (IntKind.wrap .i64 (t30+1))) (Kp jn Q m1 x0 t28 t29 (IntKind.wrap .i64 (t30+1)))) (Q (.tuple #[]))):=by kernel_rfl
theorem Aks:Au jn PR Dw Tryz.f196 [.p x0] Q=(Ad x0 λB1 O2=>Ba B1 (O2+1) λX3=>Ad x0 λB4 O5=>Ax B4 (O5+2) λX6=>Hh 297 32 [.i 0,.s Ae,.i 0] (if (IntKind.wrap .i64 (4*(IntKind.wrap .i64 (X6+1))))>8 then (IntKind.wrap .i64 (4*(IntKind.wrap .i64 (X6+1)))) else 8) (if (IntKind.wrap .i64 (4*(IntKind.wrap .i64 (X6+1))))>8 then (IntKind.wrap .i64 (4*(IntKind.wrap .i64 (X6+1)))) else 8) λG7=>Ad x0 λB8 O9=>st B8 (O9+1) (.l G7.a G7.n G7.c)<|Ad x0 λB10 O11=>st B10 (O11+2) (.i 0)<|Ad x0 λB12 O13=>st B12 (O13+3) (.i 0)<|D2 λm=>Kp jn Q m x0 X3 (X3.n:Int) 0):=by kernel_rfl
theorem Mf{h5:Int}:RS jn Q ((.p l0)::(.s v1)::us 3 ((.i h5)::us 57 []))=(Ad l0 λB18 O19=>Ba B18 O19 λX20=>C1 X20.a X20.n h5 λB21 O22=>st B21 (O22+h5.toNat*4) (.s v1)<|st B21 ((O22+h5.toNat*4)+1) (.i 0)<|st B21 (((O22+h5.toNat*4)+1)+1) (.i 0)<|st B21 ((((O22+h5.toNat*4)+1)+1)+1) (.b true)<|Ad l0 λB23 O24=>Ax B23 (O24+2) λX25=>Ad l0 λB26 O27=>st B26 (O27+2) (.i (IntKind.wrap .i64 (X25+1)))<|Q (.i h5)):=by kernel_rfl
theorem Akt:Au jn PR Acs Tryz.f197 [.p l0,.s v1] Q=(Ad l0 λB1 O2=>Ba B1 O2 λX3=>Ad l0 λB4 O5=>Ba B4 (O5+1) λX6=>Aj (decide ((X6.n:Int)>0)) (Ad l0 λB7 O8=>Ba B7 (O8+1) λX9=>C1 X9.a X9.n (IntKind.wrap .i64 ((X6.n:Int)-1)) λB10 O11=>Ax B10 (O11+((IntKind.wrap .i64 ((X6.n:Int)-(1:Int)))).toNat*1) λX12=>Ad l0 λB13 O14=>Ba B13 (O14+1) λX15=>AX ((0:Int)<=(IntKind.wrap .i64 ((X6.n:Int)-(1:Int)))/\(IntKind.wrap .i64 ((X6.n:Int)-(1:Int)))<=(X15.c:Int))<|Ad l0 λB16 O17=>st B16 (O17+1) (.l (Ht X15.a 0 X15.c 1) (((IntKind.wrap .i64 ((X6.n:Int)-(1:Int)))).toNat-0) (X15.c-0))<|
 Acr jn Q l0 v1 X12) (Ad l0 λB28 O29=>Ba B28 O29 λX30=>A0 [.s Ae,.i 0,.i 0,.b false] 302 λB31=>Bn 302 4 40 [.s Ae,.i 0,.i 0,.b false] ⟨X30.a,X30.n,X30.c⟩ 1 (λw=>Hv w (some ⟨B31,0,none⟩) (1*4)) λG32=>Ad l0 λB33 O34=>st B33 O34 (.l G32.a G32.n G32.c)<|Acr jn Q l0 v1 (X3.n:Int))):=by kernel_rfl
theorem Aku{prev2 next3:Int}:Au jn PR Asm Tryz.f198 [.p l0,.i h1,.i prev2,.i next3] Q=(A3 λS=>Ad l0 λB1 O2=>Fx S B1 O2 λX3=>Ad l0 λB4 O5=>Ba B4 O5 λX6=>An true S<|C1 X3.a X3.n h1 λB7 O8=>st B7 ((O8+h1.toNat*4)+1) (.i prev2)<|C1 X6.a X6.n h1 λB9 O10=>st B9 ((O10+h1.toNat*4)+2) (.i next3)<|A3 λS=>Ad l0 λB11 O12=>Fx S B11 O12 λX13=>Ad l0 λB14 O15=>Ba B14 O15 λX16=>An true S<|C1 X13.a X13.n prev2 λB17 O18=>st B17 ((O18+prev2.toNat*4)+2) (.i h1)<|C1 X16.a X16.n next3 λB19 O20=>st B19 ((O20+next3.toNat*4)+1) (.i h1)<|
 Q (.tuple #[])):=by kernel_rfl
theorem Akv:Au jn PR Av Tryz.f199 [.p l0,.i h1] Q=(Aj (!Option.isNone l0) (Aj (decide (h1>0)) (Ad l0 λB1 O2=>Ba B1 O2 λX3=>Aj (decide (h1<(X3.n:Int))) (Ad l0 λB4 O5=>Ba B4 O5 λX6=>C1 X6.a X6.n h1 λB7 O8=>HZ B7 ((O8+h1.toNat*4)+3) λX9=>Q (.b X9)) (Q (.b false))) (Q (.b false))) (Q (.b false))):=by kernel_rfl
theorem WK:RT jn Q (us 3 ((.l all3.a all3.n all3.c)::us 20 []))=(Q (.l all3.a all3.n all3.c)):=by kernel_rfl
theorem Mg{h4:Int}:NS jn Q (m1+1) l0 all3 h4=(Aj (h4 != 0) (Ad l0 λB2 O3=>Ba B2 O3 λX4=>C1 X4.a X4.n h4 λB5 O6=>BR B5 (O6+h4.toNat*4) λX7=>A0 [.s X7] 9 λB8=>Bn 9 1 16 [.s Ae] ⟨all3.a,all3.n,all3.c⟩ 1 (λw=>Hv w (some ⟨B8,0,none⟩) (1*1)) λG9=>Bw 245 [.p l0,.i h4] λX10=>NS jn Q m1 l0 G9 X10) (Ass jn Q all3)):=by kernel_rfl
theorem Akw:Au jn PR NR Tryz.f244 [.p l0] Q=(Bw 165 [.p l0] λX1=>D2 λm=>NS jn Q m l0 ⟨none,0,0⟩ X1):=by kernel_rfl
theorem Akx:Au jn PR Av Tryz.f245 [.p l0,.i h1] Q=(Dv 199 [.p l0,.i h1] λX1=>Aj (!X1) (Q (.i 0)) (Ad l0 λB2 O3=>Ba B2 O3 λX4=>C1 X4.a X4.n h1 λB5 O6=>Ax B5 ((O6+h1.toNat*4)+2) λX7=>Q (.i X7))):=by kernel_rfl
theorem WL{gone6:Sl}:RW jn Q ((.p e0)::(.s key1)::us 4 ((.l gone6.a gone6.n gone6.c)::us 93 []))=(Ad e0 λB31 O32=>Ba B31 O32 λX33=>Br B31 (O32+1) λX34=>wz 257 [.agg #[.l X33.a X33.n X33.c,.p X34],.i 1,.s key1]<|Q (.tuple #[.b false,.l gone6.a gone6.n gone6.c])):=by kernel_rfl
theorem Gm{t26:Bool}:RU jn Q ((.p e0)::(.s key1)::us 14 ((.i t16)::us 9 ((.b t26)::us 73 [])))=(Aj t26 (Ad e0 λB6 O7=>Ba B6 O7 λX8=>Br B6 (O7+1) λX9=>wz 257 [.agg #[.l X8.a X8.n X8.c,.p X9],.i 1,.s key1]<|Q (.tuple #[.b true,.l none 0 0])) (Aj (t16==2) (A3 λS=>Ad e0 λB10 O11=>Eh S B10 (O11+2) λX12=>Ad e0 λB13 O14=>Eh S B13 (O14+3) λX15=>Ad e0 λB16 O17=>Fx S B16 O17 λX18=>EO S B16 (O17+1) λX19=>Ad e0 λB20 O21=>Fx S B20 O21 λX22=>
 EO S B20 (O21+1) λX23=>VL [
 (A0 [.i 3] 3 λB24=>An true S<|VL [
 (Bw 258 [.agg #[.l X18.a X18.n X18.c,.p X19],.l (some ⟨B24,0,none⟩) 1 1] λX25=>An true S<|A0 [.i 2] 3 λB26=>An true S<|Bw 258 [.agg #[.l X22.a X22.n X22.c,.p X23],.l (some ⟨B26,0,none⟩) 1 1] λX27=>An true S<|AX (X27≠0)<|Ad e0 λB28 O29=>st B28 (O29+3) (.i (if (IntKind.wrap .i64 (X15+(if (IntKind.wrap .i64 (Int.tdiv X25 X27))>1 then (IntKind.wrap .i64 (Int.tdiv X25 X27)) else 1)))<X12 then (IntKind.wrap .i64 (X15+(if (IntKind.wrap .i64 (Int.tdiv X25 X27))>1 then (IntKind.wrap .i64 (Int.tdiv X25 X27)) else 1))) else X12))<|F6 259 [.p e0,.b false] λX30=>
 Fh jn Q e0 key1 X30),
 (A0 [.i 2] 3 λB35=>An true S<|Bw 258 [.agg #[.l X18.a X18.n X18.c,.p X19],.l (some ⟨B24,0,none⟩) 1 1] λX36=>An true S<|Bw 258 [.agg #[.l X22.a X22.n X22.c,.p X23],.l (some ⟨B35,0,none⟩) 1 1] λX37=>An true S<|AX (X37≠0)<|Ad e0 λB38 O39=>st B38 (O39+3) (.i (if (IntKind.wrap .i64 (X15+(if (IntKind.wrap .i64 (Int.tdiv X36 X37))>1 then (IntKind.wrap .i64 (Int.tdiv X36 X37)) else 1)))<X12 then (IntKind.wrap .i64 (X15+(if (IntKind.wrap .i64 (Int.tdiv X36 X37))>1 then (IntKind.wrap .i64 (Int.tdiv X36 X37)) else 1))) else X12))<|F6 259 [.p e0,.b false] λX40=>
 Fh jn Q e0 key1 X40)]),
 (A0 [.i 2] 3 λB41=>An true S<|A0 [.i 3] 3 λB42=>An true S<|Bw 258 [.agg #[.l X18.a X18.n X18.c,.p X19],.l (some ⟨B42,0,none⟩) 1 1] λX43=>An true S<|Bw 258 [.agg #[.l X22.a X22.n X22.c,.p X23],.l (some ⟨B41,0,none⟩) 1 1] λX44=>An true S<|AX (X44≠0)<|Ad e0 λB45 O46=>st B45 (O46+3) (.i (if (IntKind.wrap .i64 (X15+(if (IntKind.wrap .i64 (Int.tdiv X43 X44))>1 then (IntKind.wrap .i64 (Int.tdiv X43 X44)) else 1)))<X12 then (IntKind.wrap .i64 (X15+(if (IntKind.wrap .i64 (Int.tdiv X43 X44))>1 then (IntKind.wrap .i64 (Int.tdiv X43 X44)) else 1))) else X12))<|
 F6 259 [.p e0,.b false] λX47=>Fh jn Q e0 key1 X47)]) (Aj (t16==3) (A3 λS=>Ad e0 λB48 O49=>Eh S B48 (O49+3) λX50=>Ad e0 λB51 O52=>Fx S B51 O52 λX53=>EO S B51 (O52+1) λX54=>Ad e0 λB55 O56=>Fx S B55 O56 λX57=>EO S B55 (O56+1) λX58=>VL [
 (A0 [.i 2] 3 λB59=>An true S<|VL [
 (Bw 258 [.agg #[.l X53.a X53.n X53.c,.p X54],.l (some ⟨B59,0,none⟩) 1 1] λX60=>An true S<|A0 [.i 3] 3 λB61=>An true S<|Bw 258 [.agg #[.l X57.a X57.n X57.c,.p X58],.l (some ⟨B61,0,none⟩) 1 1] λX62=>An true S<|AX (X62≠0)<|Ad e0 λB63 O64=>st B63 (O64+3) (.i (if (IntKind.wrap .i64 (X50-(if (IntKind.wrap .i64 (Int.tdiv X60 X62))>1 then (IntKind.wrap .i64 (Int.tdiv X60 X62)) else 1)))>0 then (IntKind.wrap .i64 (X50-(if (IntKind.wrap .i64 (Int.tdiv X60 X62))>1 then (IntKind.wrap .i64 (Int.tdiv X60 X62)) else 1))) else 0))<|F6 259 [.p e0,.b true] λX65=>
 Fh jn Q e0 key1 X65),
 (A0 [.i 3] 3 λB66=>An true S<|Bw 258 [.agg #[.l X53.a X53.n X53.c,.p X54],.l (some ⟨B59,0,none⟩) 1 1] λX67=>An true S<|Bw 258 [.agg #[.l X57.a X57.n X57.c,.p X58],.l (some ⟨B66,0,none⟩) 1 1] λX68=>An true S<|AX (X68≠0)<|Ad e0 λB69 O70=>st B69 (O70+3) (.i (if (IntKind.wrap .i64 (X50-(if (IntKind.wrap .i64 (Int.tdiv X67 X68))>1 then (IntKind.wrap .i64 (Int.tdiv X67 X68)) else 1)))>0 then (IntKind.wrap .i64 (X50-(if (IntKind.wrap .i64 (Int.tdiv X67 X68))>1 then (IntKind.wrap .i64 (Int.tdiv X67 X68)) else 1))) else 0))<|F6 259 [.p e0,.b true] λX71=>
 Fh jn Q e0 key1 X71)]),
 (A0 [.i 3] 3 λB72=>An true S<|A0 [.i 2] 3 λB73=>An true S<|Bw 258 [.agg #[.l X53.a X53.n X53.c,.p X54],.l (some ⟨B73,0,none⟩) 1 1] λX74=>An true S<|Bw 258 [.agg #[.l X57.a X57.n X57.c,.p X58],.l (some ⟨B72,0,none⟩) 1 1] λX75=>An true S<|AX (X75≠0)<|Ad e0 λB76 O77=>st B76 (O77+3) (.i (if (IntKind.wrap .i64 (X50-(if (IntKind.wrap .i64 (Int.tdiv X74 X75))>1 then (IntKind.wrap .i64 (Int.tdiv X74 X75)) else 1)))>0 then (IntKind.wrap .i64 (X50-(if (IntKind.wrap .i64 (Int.tdiv X74 X75))>1 then (IntKind.wrap .i64 (Int.tdiv X74 X75)) else 1))) else 0))<|
 F6 259 [.p e0,.b true] λX78=>Fh jn Q e0 key1 X78)]) (F6 260 [.p e0] λX79=>Ad e0 λB80 O81=>Ba B80 O81 λX82=>Br B80 (O81+1) λX83=>wz 257 [.agg #[.l X82.a X82.n X82.c,.p X83],.i 0,.s key1]<|Q (.tuple #[.b false,.l X79.a X79.n X79.c]))))):=by kernel_rfl
theorem Aky:Au jn PR NT Tryz.f246 [.p e0,.s key1] Q=(Aj (Option.isNone e0) (Q (.tuple #[.b false,.l none 0 0])) (Ad e0 λB1 O2=>Ba B1 O2 λX3=>Br B1 (O2+1) λX4=>Bw 256 [.agg #[.l X3.a X3.n X3.c,.p X4],.s key1] λX5=>Aj (X5==0) (Uo jn Q e0 key1 X5 (X5==0)) (Uo jn Q e0 key1 X5 (X5==1)))):=by kernel_rfl
theorem Akz:Au jn PR Av Tryz.f247 [.p e0] Q=(Bw 251 [.p e0] λX1=>Aj (X1==0) (Q (.tuple #[.s Ae,.b false])) (Ad e0 λB2 O3=>Ba B2 O3 λX4=>Br B2 (O3+1) λX5=>A0 [.i 0] 3 λB6=>Bw 258 [.agg #[.l X4.a X4.n X4.c,.p X5],.l (some ⟨B6,0,none⟩) 1 1] λX7=>Aj (decide (X7>0)) (Ad e0 λB8 O9=>Ax B8 (O9+3) λX10=>Aj (decide (X7>X10)) (F6 261 [.p e0,.b true] λX11=>C1 X11.a X11.n 0 λB12 O13=>BR B12 (O13+((0:Int)).toNat*1) λX14=>
 Q (.tuple #[.s X14,.b true])) (Ad e0 λB15 O16=>Ba B15 O16 λX17=>Br B15 (O16+1) λX18=>A0 [.i 1] 3 λB19=>Bw 258 [.agg #[.l X17.a X17.n X17.c,.p X18],.l (some ⟨B19,0,none⟩) 1 1] λX20=>F6 261 [.p e0,.b (X20==0)] λX21=>C1 X21.a X21.n 0 λB22 O23=>BR B22 (O23+((0:Int)).toNat*1) λX24=>Q (.tuple #[.s X24,.b true]))) (F6 261 [.p e0,.b false] λX25=>C1 X25.a X25.n 0 λB26 O27=>BR B26 (O27+((0:Int)).toNat*1) λX28=>Q (.tuple #[.s X28,.b true])))):=by kernel_rfl
theorem Ak0:Au jn PR Av Tryz.f249 [.p e0,.s key1] Q=(Aj (Option.isNone e0) (Q (.b false)) (Ad e0 λB1 O2=>Ba B1 O2 λX3=>Br B1 (O2+1) λX4=>Bw 256 [.agg #[.l X3.a X3.n X3.c,.p X4],.s key1] λX5=>Aj (X5==0) (Q (.b true)) (Q (.b (X5==1))))):=by kernel_rfl
theorem Ak1:Au jn PR Av Tryz.f250 [.p e0] Q=(Aj (Option.isNone e0) (Q (.l none 0 0)) (Ad e0 λB1 O2=>Ba B1 O2 λX3=>Br B1 (O2+1) λX4=>A0 [.i 0,.i 1] 3 λB5=>F6 262 [.agg #[.l X3.a X3.n X3.c,.p X4],.l (some ⟨B5,0,none⟩) 2 2] λX6=>Q (.l X6.a X6.n X6.c))):=by kernel_rfl
theorem Ak2:Au jn PR Av Tryz.f251 [.p e0] Q=(Aj (Option.isNone e0) (Q (.i 0)) (Ad e0 λB1 O2=>Ba B1 O2 λX3=>Br B1 (O2+1) λX4=>A0 [.i 0,.i 1] 3 λB5=>Bw 258 [.agg #[.l X3.a X3.n X3.c,.p X4],.l (some ⟨B5,0,none⟩) 2 2] λX6=>Q (.i X6))):=by kernel_rfl
theorem WO:RZ jn Q (us 70 [])=(Q (.b true)):=by kernel_rfl
theorem Mi{m4:Nat}:NV jn Q (m4+1) e0=(A3 λS=>Ad e0 λB28 O29=>Fx S B28 O29 λX30=>EO S B28 (O29+1) λX31=>Ad e0 λB32 O33=>Eh S B32 (O33+2) λX34=>A0 [.i 0,.i 1,.i 2,.i 3] 3 λB35=>An true S<|Bw 258 [.agg #[.l X30.a X30.n X30.c,.p X31],.l (some ⟨B35,0,none⟩) 4 4] λX36=>An true S<|Aj (decide (X36>(IntKind.wrap .i64 (2*X34)))) (A3 λS=>Ad e0 λB37 O38=>Fx S B37 O38 λX39=>EO S B37 (O38+1) λX40=>Ad e0 λB41 O42=>Ba B41 O42 λX43=>Br B41 (O42+1) λX44=>
 An true S<|TC 264 [.agg #[.l X43.a X43.n X43.c,.p X44],.i 3] λX45=>An true S<|wz 263 [.agg #[.l X39.a X39.n X39.c,.p X40],.s X45]<|NV jn Q m4 e0) (Asx jn Q)):=by kernel_rfl
theorem WN:RY jn Q ((.p e0)::us 69 [])=(D2 λm=>NV jn Q m e0):=by kernel_rfl
theorem Mh:NU jn Q (m2+1) e0=(A3 λS=>Ad e0 λB10 O11=>Fx S B10 O11 λX12=>EO S B10 (O11+1) λX13=>Ad e0 λB14 O15=>Eh S B14 (O15+2) λX16=>A0 [.i 0,.i 2] 3 λB17=>An true S<|Bw 258 [.agg #[.l X12.a X12.n X12.c,.p X13],.l (some ⟨B17,0,none⟩) 2 2] λX18=>An true S<|Aj (decide (X18>X16)) (A3 λS=>Ad e0 λB19 O20=>Fx S B19 O20 λX21=>EO S B19 (O20+1) λX22=>Ad e0 λB23 O24=>Ba B23 O24 λX25=>Br B23 (O24+1) λX26=>An true S<|TC 264 [.agg #[.l X25.a X25.n X25.c,.p X26],.i 2] λX27=>
 An true S<|wz 263 [.agg #[.l X21.a X21.n X21.c,.p X22],.s X27]<|NU jn Q m2 e0) (Asw jn Q e0)):=by kernel_rfl
theorem WM:RX jn Q ((.p e0)::(.s key1)::us 68 [])=(Ad e0 λB6 O7=>Ba B6 O7 λX8=>Br B6 (O7+1) λX9=>wz 257 [.agg #[.l X8.a X8.n X8.c,.p X9],.i 0,.s key1]<|D2 λm=>NU jn Q m e0):=by kernel_rfl
theorem Ak4:Au jn PR Gn Tryz.f252 [.p e0,.s key1] Q=(A3 λS=>Aj (Option.isNone e0) (An true S<|An true S<|Q (.b false)) (Dv 249 [.p e0,.s key1] λX1=>An true S<|Aj X1 (An true S<|Q (.b false)) (Ad e0 λB2 O3=>Eh S B2 (O3+2) λX4=>Bw 251 [.p e0] λX5=>An true S<|Aj (X5==X4) (Q (.b false)) (Asv jn Q e0 key1)))):=by kernel_rfl
theorem Ak5:Au jn PR Av Tryz.f253 [.p e0,.s key1] Q=(Dv 249 [.p e0,.s key1] λX1=>Aj (!X1) (Q (.b false)) (Ad e0 λB2 O3=>Ba B2 O3 λX4=>Br B2 (O3+1) λX5=>wz 263 [.agg #[.l X4.a X4.n X4.c,.p X5],.s key1]<|Q (.b true))):=by kernel_rfl
theorem Ak6:Au jn PR Av Tryz.f254 [.p e0] Q=(Aj (Option.isNone e0) (Q (.i 0)) (Ad e0 λB1 O2=>Ax B1 (O2+2) λX3=>Q (.i X3))):=by kernel_rfl
theorem Ak7{again1:Bool}:Au jn PR As0 Tryz.f259 [.p e0,.b again1] Q=(A3 λS=>Ad e0 λB1 O2=>Fx S B1 O2 λX3=>EO S B1 (O2+1) λX4=>Ad e0 λB5 O6=>Eh S B5 (O6+2) λX7=>A0 [.i 0,.i 1] 3 λB8=>An true S<|Bw 258 [.agg #[.l X3.a X3.n X3.c,.p X4],.l (some ⟨B8,0,none⟩) 2 2] λX9=>An true S<|Aj (decide (X9<X7)) (Q (.l none 0 0)) (Ad e0 λB10 O11=>Ba B10 O11 λX12=>Br B10 (O11+1) λX13=>A0 [.i 0] 3 λB14=>Bw 258 [.agg #[.l X12.a X12.n X12.c,.p X13],.l (some ⟨B14,0,none⟩) 1 1] λX15=>
 Aj (decide (X15>0)) (Ad e0 λB16 O17=>Ax B16 (O17+3) λX18=>Aj (decide (X15>X18)) (F6 261 [.p e0,.b true] λX19=>Q (.l X19.a X19.n X19.c)) (Ad e0 λB20 O21=>Ax B20 (O21+3) λX22=>Aj (X15==X22) (Aj again1 (F6 261 [.p e0,.b true] λX23=>Q (.l X23.a X23.n X23.c)) (Ad e0 λB24 O25=>Ba B24 O25 λX26=>Br B24 (O25+1) λX27=>A0 [.i 1] 3 λB28=>Bw 258 [.agg #[.l X26.a X26.n X26.c,.p X27],.l (some ⟨B28,0,none⟩) 1 1] λX29=>F6 261 [.p e0,.b (X29==0)] λX30=>
 Q (.l X30.a X30.n X30.c))) (Ad e0 λB31 O32=>Ba B31 O32 λX33=>Br B31 (O32+1) λX34=>A0 [.i 1] 3 λB35=>Bw 258 [.agg #[.l X33.a X33.n X33.c,.p X34],.l (some ⟨B35,0,none⟩) 1 1] λX36=>F6 261 [.p e0,.b (X36==0)] λX37=>Q (.l X37.a X37.n X37.c)))) (F6 261 [.p e0,.b false] λX38=>Q (.l X38.a X38.n X38.c)))):=by kernel_rfl
theorem WR{t4:Bool}:Sa jn Q ((.p e0)::us 3 ((.b t4)::us 96 []))=(Aj t4 (A3 λS=>Ad e0 λB19 O20=>Fx S B19 O20 λX21=>EO S B19 (O20+1) λX22=>Ad e0 λB23 O24=>Ba B23 O24 λX25=>Br B23 (O24+1) λX26=>An true S<|TC 264 [.agg #[.l X25.a X25.n X25.c,.p X26],.i 2] λX27=>An true S<|wz 263 [.agg #[.l X21.a X21.n X21.c,.p X22],.s X27]<|F6 259 [.p e0,.b false] λX28=>Q (.l X28.a X28.n X28.c)) (A3 λS=>Ad e0 λB29 O30=>Fx S B29 O30 λX31=>EO S B29 (O30+1) λX32=>
 Ad e0 λB33 O34=>Eh S B33 (O34+2) λX35=>A0 [.i 0,.i 2] 3 λB36=>An true S<|Bw 258 [.agg #[.l X31.a X31.n X31.c,.p X32],.l (some ⟨B36,0,none⟩) 2 2] λX37=>An true S<|Aj (decide (X37>=X35)) (Ad e0 λB38 O39=>Ba B38 O39 λX40=>Br B38 (O39+1) λX41=>TC 264 [.agg #[.l X40.a X40.n X40.c,.p X41],.i 0] λX42=>Ad e0 λB43 O44=>Ba B43 O44 λX45=>Br B43 (O44+1) λX46=>wz 263 [.agg #[.l X45.a X45.n X45.c,.p X46],.s X42]<|A0 [.s X42] 9 λB47=>Q (.l (some ⟨B47,0,none⟩) 1 1)) (
 A3 λS=>Ad e0 λB48 O49=>Fx S B48 O49 λX50=>EO S B48 (O49+1) λX51=>Ad e0 λB52 O53=>Eh S B52 (O53+2) λX54=>A0 [.i 0,.i 1,.i 2,.i 3] 3 λB55=>An true S<|Bw 258 [.agg #[.l X50.a X50.n X50.c,.p X51],.l (some ⟨B55,0,none⟩) 4 4] λX56=>An true S<|Aj (decide (X56<X54)) (Q (.l none 0 0)) (A3 λS=>Ad e0 λB57 O58=>Fx S B57 O58 λX59=>EO S B57 (O58+1) λX60=>Ad e0 λB61 O62=>Eh S B61 (O62+2) λX63=>A0 [.i 0,.i 1,.i 2,.i 3] 3 λB64=>An true S<|Bw 258 [.agg #[.l X59.a X59.n X59.c,.p X60],.l (some ⟨B64,0,none⟩) 4 4] λX65=>
 An true S<|Aj (decide (X65>=(IntKind.wrap .i64 (2*X63)))) (A3 λS=>Ad e0 λB66 O67=>Fx S B66 O67 λX68=>EO S B66 (O67+1) λX69=>Ad e0 λB70 O71=>Ba B70 O71 λX72=>Br B70 (O71+1) λX73=>An true S<|TC 264 [.agg #[.l X72.a X72.n X72.c,.p X73],.i 3] λX74=>An true S<|wz 263 [.agg #[.l X68.a X68.n X68.c,.p X69],.s X74]<|F6 259 [.p e0,.b false] λX75=>Q (.l X75.a X75.n X75.c)) (F6 259 [.p e0,.b false] λX76=>Q (.l X76.a X76.n X76.c)))))):=by kernel_rfl
theorem Ak8:Au jn PR Uq Tryz.f260 [.p e0] Q=(A3 λS=>Ad e0 λB1 O2=>Fx S B1 O2 λX3=>EO S B1 (O2+1) λX4=>Ad e0 λB5 O6=>Eh S B5 (O6+2) λX7=>A0 [.i 0,.i 2] 3 λB8=>An true S<|Bw 258 [.agg #[.l X3.a X3.n X3.c,.p X4],.l (some ⟨B8,0,none⟩) 2 2] λX9=>An true S<|Aj (decide (X9>=X7)) (Ad e0 λB10 O11=>Fx S B10 O11 λX12=>EO S B10 (O11+1) λX13=>Ad e0 λB14 O15=>Eh S B14 (O15+2) λX16=>A0 [.i 0] 3 λB17=>An true S<|Bw 258 [.agg #[.l X12.a X12.n X12.c,.p X13],.l (some ⟨B17,0,none⟩) 1 1] λX18=>
 An true S<|Up jn Q e0 (decide (X18<X16))) (An true S<|An true S<|Up jn Q e0 false)):=by kernel_rfl
theorem WS{from5 to6:Int}:Sb jn Q ((.p e0)::us 4 ((.i from5)::(.i to6)::us 17 []))=(Ad e0 λB1 O2=>Ba B1 O2 λX3=>Br B1 (O2+1) λX4=>TC 264 [.agg #[.l X3.a X3.n X3.c,.p X4],.i from5] λX5=>Ad e0 λB6 O7=>Ba B6 O7 λX8=>Br B6 (O7+1) λX9=>wz 257 [.agg #[.l X8.a X8.n X8.c,.p X9],.i to6,.s X5]<|A0 [.s X5] 9 λB10=>Q (.l (some ⟨B10,0,none⟩) 1 1)):=by kernel_rfl
theorem Ak9{recent1:Bool}:Au jn PR Acw Tryz.f261 [.p e0,.b recent1] Q=(Aj recent1 (Ur jn Q e0 0 2) (Ur jn Q e0 1 3)):=by kernel_rfl
theorem WW{t88:Bool}:Sf jn Q ((.p e0)::(.s key1)::us 4 ((pq n6b n6o)::us 1 ((.l gone8.a gone8.n gone8.c)::us 79 ((.b t88)::us 13 []))))=(Aj t88 (Ax n6b n6o λX38=>Ax n6b (n6o+1) λX39=>Ax n6b ((n6o+1)+1) λX40=>wz 283 [.p e0,.agg #[.i X38,.i X39,.i X40],.s key1]<|wz 286 [.p e0]<|wz 284 [.p e0]<|Q (.tuple #[.b false,.l gone8.a gone8.n gone8.c])) (Ax n6b n6o λX41=>Ax n6b (n6o+1) λX42=>Ax n6b ((n6o+1)+1) λX43=>
 wz 285 [.p e0,.agg #[.i X41,.i X42,.i X43],.s key1]<|wz 286 [.p e0]<|wz 284 [.p e0]<|Q (.tuple #[.b false,.l gone8.a gone8.n gone8.c]))):=by kernel_rfl
theorem WV:Se jn Q ((.p e0)::(.s key1)::us 4 ((pq n6b n6o)::us 1 ((.l gone8.a gone8.n gone8.c)::us 93 [])))=(A3 λS=>Ad e0 λB32 O33=>Eh S B32 (O33+5) λX34=>Ad e0 λB35 O36=>Ax B35 (O36+1) λX37=>An true S<|Aj (decide (X34<X37)) (Uu jn Q e0 key1 n6b n6o gone8 true) (Ax n6b n6o λX44=>Uu jn Q e0 key1 n6b n6o gone8 (X44==3))):=by kernel_rfl
theorem WU:Sd jn Q ((.p e0)::(.s key1)::us 4 ((pq n6b n6o)::us 95 []))=(A3 λS=>Ad e0 λB17 O18=>Eh S B17 O18 λX19=>Bw 276 [.p e0] λX20=>An true S<|Aj (decide (X20>=X19)) (EG 272 [.p e0] λX21 X22=>A0 [.s X21] 9 λB23=>Bn 9 1 16 [.s Ae] ⟨none,0,0⟩ 1 (λw=>Hv w (some ⟨B23,0,none⟩) (1*1)) λG24=>Ad e0 λB25 O26=>Br B25 (O26+4) λX27=>λw=>Calls PR 282 #[.p X27,.s key1] w λe w'=>∃X28:Int,∃X29:Int,∃X30:Int,∃X31:Bool,e = .returned (.tuple #[.agg #[.i X28,.i X29,.i X30],.b X31])/\(
 st n6b n6o (.i X28)<|st n6b (n6o+1) (.i X29)<|st n6b ((n6o+1)+1) (.i X30)<|Ut jn Q e0 key1 n6b n6o G24) w') (Ut jn Q e0 key1 n6b n6o ⟨none,0,0⟩)):=by kernel_rfl
theorem WT{t22:Bool}:Sc jn Q ((.p e0)::(.s key1)::us 4 ((pq n6b n6o)::us 15 ((.b t22)::us 79 [])))=(Aj t22 (Ax n6b n6o λX10=>Ax n6b (n6o+1) λX11=>Ax n6b ((n6o+1)+1) λX12=>wz 283 [.p e0,.agg #[.i X10,.i X11,.i X12],.s key1]<|wz 284 [.p e0]<|Q (.tuple #[.b true,.l none 0 0])) (Ax n6b n6o λX13=>Aj (X13==2) (Ax n6b n6o λX14=>Ax n6b (n6o+1) λX15=>Ax n6b ((n6o+1)+1) λX16=>wz 285 [.p e0,.agg #[.i X14,.i X15,.i X16],.s key1]<|
 wz 284 [.p e0]<|Q (.tuple #[.b true,.l none 0 0])) (As6 jn Q e0 key1 n6b n6o))):=by kernel_rfl
theorem Alb:Au jn PR H9 Tryz.f271 [.p e0,.s key1] Q=(Aj (Option.isNone e0) (Q (.tuple #[.b false,.l none 0 0])) (Ad e0 λB1 O2=>Br B1 (O2+4) λX3=>λw=>Calls PR 282 #[.p X3,.s key1] w λe w'=>∃X4:Int,∃X5:Int,∃X6:Int,∃X7:Bool,e = .returned (.tuple #[.agg #[.i X4,.i X5,.i X6],.b X7])/\(A0 [.i 0,.i 0,.i 0] 270 λB8=>st B8 0 (.i X4)<|st B8 1 (.i X5)<|st B8 2 (.i X6)<|Ax B8 0 λX9=>Aj (X9==1) (NZ jn Q e0 key1 B8 0 (X9==1)) (Ax B8 0 λX45=>Aj (X45==2) (Ax B8 1 λX46=>
 NZ jn Q e0 key1 B8 0 (X46 != 0)) (NZ jn Q e0 key1 B8 0 false))) w')):=by kernel_rfl
theorem Mj{key4:BA}:Si jn Q ((.p e0)::us 3 ((.s key4)::us 1 ((pq n6b n6o)::us 50 [])))=(Ax n6b n6o λX24=>Ax n6b (n6o+1) λX25=>Ax n6b ((n6o+1)+1) λX26=>wz 288 [.p e0,.s key4,.agg #[.i X24,.i X25,.i X26]]<|wz 286 [.p e0]<|wz 284 [.p e0]<|Q (.tuple #[.s key4,.b true])):=by kernel_rfl
theorem WX:Sg jn Q ((.p e0)::us 56 [])=(A3 λS=>Ad e0 λB6 O7=>EO S B6 (O7+3) λX8=>Ad e0 λB9 O10=>Br B9 (O10+3) λX11=>An true S<|Bw 165 [.p X11] λX12=>An true S<|EG 164 [.p X8,.i X12] λX13 X14=>Ad e0 λB15 O16=>Br B15 (O16+4) λX17=>λw=>Calls PR 282 #[.p X17,.s X13] w λe w'=>∃X18:Int,∃X19:Int,∃X20:Int,∃X21:Bool,e = .returned (.tuple #[.agg #[.i X18,.i X19,.i X20],.b X21])/\(A0 [.i 0,.i 0,.i 0] 270 λB22=>st B22 0 (.i X18)<|
 st B22 1 (.i X19)<|st B22 2 (.i X20)<|wz 287 [.p e0,pq B22 0]<|st B22 0 (.i 3)<|Ax B22 1 λX23=>Aj (X23==0) (st B22 0 (.i 0)<|Acz jn Q e0 X13 B22 0) (Acz jn Q e0 X13 B22 0)) w'):=by kernel_rfl
theorem Alc:Au jn PR Uw Tryz.f272 [.p e0] Q=(Bw 276 [.p e0] λX1=>Aj (X1==0) (Q (.tuple #[.s Ae,.b false])) (Ad e0 λB2 O3=>Br B2 (O3+3) λX4=>Bw 163 [.p X4] λX5=>Aj (X5==0) (wz 281 [.p e0]<|Uv jn Q e0) (Uv jn Q e0))):=by kernel_rfl
theorem Ald:Au jn PR Av Tryz.f274 [.p e0,.s key1] Q=(Aj (Option.isNone e0) (Q (.b false)) (Ad e0 λB1 O2=>Br B1 (O2+4) λX3=>λw=>Calls PR 282 #[.p X3,.s key1] w λe w'=>∃X4:Int,∃X5:Int,∃X6:Int,∃X7:Bool,e = .returned (.tuple #[.agg #[.i X4,.i X5,.i X6],.b X7])/\(A0 [.i 0,.i 0,.i 0] 270 λB8=>st B8 0 (.i X4)<|st B8 1 (.i X5)<|st B8 2 (.i X6)<|Ax B8 0 λX9=>Aj (X9==1) (Q (.b true)) (Ax B8 0 λX10=>Q (.b (X10==2)))) w')):=by kernel_rfl
theorem Ale:Au jn PR Av Tryz.f275 [.p e0] Q=(Aj (Option.isNone e0) (Q (.l none 0 0)) (Ad e0 λB1 O2=>Br B1 (O2+3) λX3=>F6 244 [.p X3] λX4=>F6 289 [.p e0,.i 1] λX5=>Bn 9 1 16 [.s Ae] ⟨X4.a,X4.n,X4.c⟩ X5.n (λw=>Hv w X5.a (X5.n*1)) λG6=>Q (.l G6.a G6.n G6.c))):=by kernel_rfl
theorem Alf:Au jn PR As7 Tryz.f276 [.p e0] Q=(Aj (Option.isNone e0) (Q (.i 0)) (A3 λS=>Ad e0 λB1 O2=>EO S B1 (O2+3) λX3=>Ad e0 λB4 O5=>Eh S B4 (O5+5) λX6=>Bw 163 [.p X3] λX7=>An true S<|Q (.i (IntKind.wrap .i64 (X7+X6))))):=by kernel_rfl
theorem WY:Sj jn Q ((.p e0)::(.s key1)::us 49 [])=(Ad e0 λB6 O7=>Br B6 (O7+4) λX8=>λw=>Calls PR 282 #[.p X8,.s key1] w λe w'=>∃X9:Int,∃X10:Int,∃X11:Int,∃X12:Bool,e = .returned (.tuple #[.agg #[.i X9,.i X10,.i X11],.b X12])/\(A0 [.i 0,.i 0,.i 0] 270 λB13=>st B13 0 (.i X9)<|st B13 1 (.i X10)<|st B13 2 (.i X11)<|A3 λS=>Ad e0 λB14 O15=>Eh S B14 (O15+5) λX16=>Ad e0 λB17 O18=>Ax B17 (O18+1) λX19=>An true S<|Aj (decide (X16<X19)) (Ax B13 0 λX20=>
 Ax B13 1 λX21=>Ax B13 2 λX22=>wz 283 [.p e0,.agg #[.i X20,.i X21,.i X22],.s key1]<|wz 284 [.p e0]<|Q (.b true)) (Ax B13 0 λX23=>Ax B13 1 λX24=>Ax B13 2 λX25=>wz 285 [.p e0,.agg #[.i X23,.i X24,.i X25],.s key1]<|wz 284 [.p e0]<|Q (.b true))) w'):=by kernel_rfl
theorem Alg:Au jn PR Ac0 Tryz.f277 [.p e0,.s key1] Q=(A3 λS=>Aj (Option.isNone e0) (An true S<|An true S<|Q (.b false)) (Dv 274 [.p e0,.s key1] λX1=>An true S<|Aj X1 (An true S<|Q (.b false)) (Ad e0 λB2 O3=>Eh S B2 O3 λX4=>Bw 276 [.p e0] λX5=>An true S<|Aj (X5==X4) (Q (.b false)) (As8 jn Q e0 key1)))):=by kernel_rfl
theorem Alh:Au jn PR As9 Tryz.f278 [.p e0,.s key1] Q=(Dv 274 [.p e0,.s key1] λX1=>Aj (!X1) (Q (.b false)) (Ad e0 λB2 O3=>Br B2 (O3+4) λX4=>λw=>Calls PR 282 #[.p X4,.s key1] w λe w'=>∃X5:Int,∃X6:Int,∃X7:Int,∃X8:Bool,e = .returned (.tuple #[.agg #[.i X5,.i X6,.i X7],.b X8])/\(A0 [.i 0,.i 0,.i 0] 270 λB9=>st B9 0 (.i X5)<|st B9 1 (.i X6)<|st B9 2 (.i X7)<|A3 λS=>Ad e0 λB10 O11=>EO S B10 (O11+2) λX12=>Ax B9 1 λX13=>An true S<|
 EG 160 [.p X12,.i X13] λX14 X15=>wz 287 [.p e0,pq B9 0]<|wz 288 [.p e0,.s key1,.agg #[.i 0,.i 0,.i 0]]<|wz 284 [.p e0]<|Q (.b true)) w')):=by kernel_rfl
theorem Ali:Au jn PR Av Tryz.f279 [.p e0] Q=(Aj (Option.isNone e0) (Q (.i 0)) (Ad e0 λB1 O2=>Ax B1 O2 λX3=>Q (.i X3))):=by kernel_rfl
theorem Alk:Au jn PR Ac1 Tryz.f281 [.p e0] Q=(λw=>Calls PR 290 #[.p e0,.i 1] w λe w'=>∃X1:BA,∃X2:Int,∃X3:Int,∃X4:Int,e = .returned (.tuple #[.s X1,.agg #[.i X2,.i X3,.i X4]])/\(A0 [.i 0,.i 0,.i 0] 270 λB5=>st B5 0 (.i X2)<|st B5 1 (.i X3)<|st B5 2 (.i X4)<|A3 λS=>Ad e0 λB6 O7=>EO S B6 (O7+2) λX8=>Ax B5 1 λX9=>An true S<|EG 160 [.p X8,.i X9] λX10 X11=>st B5 0 (.i 2)<|st B5 1 (.i 0)<|wz 291 [.p e0,pq B5 0,.s X1]<|
 Ax B5 0 λX12=>Ax B5 1 λX13=>Ax B5 2 λX14=>wz 288 [.p e0,.s X1,.agg #[.i X12,.i X13,.i X14]]<|wz 284 [.p e0]<|Q (.tuple #[])) w'):=by kernel_rfl
theorem Xb{t4b t4o:Nat}:Sk jn Q (us 4 ((pq t4b t4o)::us 22 []))=(A0 [.i 0,.i 0,.i 0] 270 λB15=>Ax B15 0 λX16=>Ax B15 1 λX17=>Ax B15 2 λX18=>st t4b t4o (.i X16)<|st t4b (t4o+1) (.i X17)<|st t4b ((t4o+1)+1) (.i X18)<|Ax t4b t4o λX19=>Ax t4b (t4o+1) λX20=>Ax t4b ((t4o+1)+1) λX21=>Q (.tuple #[.agg #[.i X19,.i X20,.i X21],.b false])):=by kernel_rfl
theorem All:Au jn PR Ec Tryz.f282 [.p x0,.s key1] Q=(A0 [.i 0,.i 0,.i 0] 270 λB1=>Aj (!Option.isNone x0) (F7 292 [.p x0,.s key1] λX2 X3=>Aj X3 (Ad x0 λB4 O5=>Ba B4 (O5+1) λX6=>C1 X6.a X6.n X2 λB7 O8=>Ax B7 ((O8+X2.toNat*5)+2) λX9=>Ax B7 (((O8+X2.toNat*5)+2)+1) λX10=>Ax B7 ((((O8+X2.toNat*5)+2)+1)+1) λX11=>st B1 0 (.i X9)<|st B1 1 (.i X10)<|st B1 2 (.i X11)<|Ax B1 0 λX12=>Ax B1 1 λX13=>Ax B1 2 λX14=>
 Q (.tuple #[.agg #[.i X12,.i X13,.i X14],.b true])) (Ac2 jn Q B1 0)) (Ac2 jn Q B1 0)):=by kernel_rfl
theorem Alm:Au jn PR Atb Tryz.f283 [.p e0,.agg #[.i n1_0,.i n1_1,.i n1_2],.s key2] Q=(A0 [.i n1_0,.i n1_1,.i n1_2] 270 λB1=>st B1 0 (.i 1)<|wz 293 [.p e0,pq B1 0,.s key2]<|wz 287 [.p e0,pq B1 0]<|Ax B1 0 λX2=>Ax B1 1 λX3=>Ax B1 2 λX4=>wz 288 [.p e0,.s key2,.agg #[.i X2,.i X3,.i X4]]<|A3 λS=>Ad e0 λB5 O6=>Eh S B5 (O6+5) λX7=>Ad e0 λB8 O9=>
 Ax B8 (O9+1) λX10=>An true S<|Aj (decide (X7>X10)) (wz 281 [.p e0]<|Q (.tuple #[])) (Q (.tuple #[]))):=by kernel_rfl
theorem Mk:Oa jn Q (m1+1) e0=(Ad e0 λB1 O2=>Br B1 (O2+2) λX3=>Bw 163 [.p X3] λX4=>Aj (decide (X4>0)) (A3 λS=>Ad e0 λB5 O6=>EO S B5 (O6+2) λX7=>Ad e0 λB8 O9=>Br B8 (O9+2) λX10=>An true S<|Bw 165 [.p X10] λX11=>An true S<|EG 164 [.p X7,.i X11] λX12 X13=>Ad e0 λB14 O15=>Br B14 (O15+4) λX16=>λw=>Calls PR 282 #[.p X16,.s X12] w λe w'=>∃X17:Int,∃X18:Int,∃X19:Int,∃X20:Bool,e = .returned (.tuple #[.agg #[.i X17,.i X18,.i X19],.b X20])/\(
 A0 [.i 0,.i 0,.i 0] 270 λB21=>st B21 0 (.i X17)<|st B21 1 (.i X18)<|st B21 2 (.i X19)<|Ax B21 0 λX22=>Aj (X22==1) (Q (.tuple #[])) (Ax B21 0 λX23=>Ax B21 1 λX24=>Ax B21 2 λX25=>wz 294 [.p e0,.agg #[.i X23,.i X24,.i X25],.s X12]<|Oa jn Q m1 e0)) w') (Q (.tuple #[]))):=by kernel_rfl
theorem Aln:Au jn PR Ac3 Tryz.f284 [.p e0] Q=(D2 λm=>Oa jn Q m e0):=by kernel_rfl
theorem Alo:Au jn PR Av Tryz.f285 [.p e0,.agg #[.i n1_0,.i n1_1,.i n1_2],.s key2] Q=(A0 [.i n1_0,.i n1_1,.i n1_2] 270 λB1=>st B1 0 (.i 2)<|wz 293 [.p e0,pq B1 0,.s key2]<|wz 291 [.p e0,pq B1 0,.s key2]<|Ax B1 0 λX2=>Ax B1 1 λX3=>Ax B1 2 λX4=>wz 288 [.p e0,.s key2,.agg #[.i X2,.i X3,.i X4]]<|Q (.tuple #[])):=by kernel_rfl
theorem Ml:Ob jn Q (m1+1) e0=(A3 λS=>Ad e0 λB1 O2=>Eh S B1 (O2+6) λX3=>Ad e0 λB4 O5=>Ax B4 O5 λX6=>An true S<|Aj (decide (X3>X6)) (λw=>Calls PR 290 #[.p e0,.i 3] w λe w'=>∃X7:BA,∃X8:Int,∃X9:Int,∃X10:Int,e = .returned (.tuple #[.s X7,.agg #[.i X8,.i X9,.i X10]])/\(A0 [.i 0,.i 0,.i 0] 270 λB11=>st B11 0 (.i X8)<|st B11 1 (.i X9)<|st B11 2 (.i X10)<|Ax B11 0 λX12=>Ax B11 1 λX13=>Ax B11 2 λX14=>wz 294 [.p e0,.agg #[.i X12,.i X13,.i X14],.s X7]<|
 Ob jn Q m1 e0) w') (Q (.tuple #[]))):=by kernel_rfl
theorem Alp:Au jn PR Ac4 Tryz.f286 [.p e0] Q=(D2 λm=>Ob jn Q m e0):=by kernel_rfl
theorem Alq:Au jn PR Uy Tryz.f287 [.p e0,.p n1] Q=(A3 λS=>Ad e0 λB1 O2=>EO S B1 (O2+3) λX3=>Ad n1 λB4 O5=>Ax B4 (O5+2) λX6=>An true S<|EG 160 [.p X3,.i X6] λX7 X8=>Ad n1 λB9 O10=>st B9 (O10+2) (.i 0)<|Q (.tuple #[])):=by kernel_rfl
theorem Alr{n2_0 n2_1 n2_2:Int}:Au jn PR Atc Tryz.f288 [.p e0,.s key1,.agg #[.i n2_0,.i n2_1,.i n2_2]] Q=(A0 [.i n2_0,.i n2_1,.i n2_2] 270 λB1=>Ad e0 λB2 O3=>Br B2 (O3+4) λX4=>λw=>Calls PR 282 #[.p X4,.s key1] w λe w'=>∃X5:Int,∃X6:Int,∃X7:Int,∃X8:Bool,e = .returned (.tuple #[.agg #[.i X5,.i X6,.i X7],.b X8])/\(A0 [.i 0,.i 0,.i 0] 270 λB9=>st B9 0 (.i X5)<|st B9 1 (.i X6)<|st B9 2 (.i X7)<|Ax B9 0 λX10=>wz 295 [.p e0,.i X10,.i (-1)]<|
 Ax B1 0 λX11=>wz 295 [.p e0,.i X11,.i 1]<|Ax B1 0 λX12=>Aj (X12==0) (Ad e0 λB13 O14=>Br B13 (O14+4) λX15=>λw=>Calls PR 296 #[.p X15,.s key1] w λe w'=>∃X16:Int,∃X17:Int,∃X18:Int,∃X19:Bool,e = .returned (.tuple #[.agg #[.i X16,.i X17,.i X18],.b X19])/\(Q (.tuple #[])) w') (A3 λS=>Ad e0 λB20 O21=>EO S B20 (O21+4) λX22=>Ax B1 0 λX23=>Ax B1 1 λX24=>Ax B1 2 λX25=>An true S<|Dv 297 [.p X22,.s key1,.agg #[.i X23,.i X24,.i X25]] λX26=>
 Q (.tuple #[]))) w'):=by kernel_rfl
theorem Xc:Sm jn Q (us 5 ((.l l5.a l5.n l5.c)::us 33 []))=(Q (.l l5.a l5.n l5.c)):=by kernel_rfl
theorem Mm{t14:Sl}{t15:Int}:Kr jn Q (m1+1) e0 is1 l5 t14 t15 t16=(Aj (decide (t16<t15)) (C1 t14.a t14.n t16 λB5 O6=>BR B5 (O6+t16.toNat*1) λX7=>Ad e0 λB8 O9=>Br B8 (O9+4) λX10=>λw=>Calls PR 282 #[.p X10,.s X7] w λe w'=>∃X11:Int,∃X12:Int,∃X13:Int,∃X14:Bool,e = .returned (.tuple #[.agg #[.i X11,.i X12,.i X13],.b X14])/\(A0 [.i 0,.i 0,.i 0] 270 λB15=>st B15 0 (.i X11)<|st B15 1 (.i X12)<|st B15 2 (.i X13)<|Ax B15 0 λX16=>Aj (X16==is1) (A0 [.s X7] 9 λB17=>
 Bn 9 1 16 [.s Ae] ⟨l5.a,l5.n,l5.c⟩ 1 (λw=>Hv w (some ⟨B17,0,none⟩) (1*1)) λG18=>Kr jn Q m1 e0 is1 G18 t14 t15 (IntKind.wrap .i64 (t16+1))) (Kr jn Q m1 e0 is1 l5 t14 t15 (IntKind.wrap .i64 (t16+1)))) w') (Ate jn Q l5)):=by kernel_rfl
theorem Als:Au jn PR Oc Tryz.f289 [.p e0,.i is1] Q=(Ad e0 λB1 O2=>Br B1 (O2+2) λX3=>F6 244 [.p X3] λX4=>D2 λm=>Kr jn Q m e0 is1 ⟨none,0,0⟩ X4 (X4.n:Int) 0):=by kernel_rfl
theorem Xd:Sn jn Q (us 5 ((pq t5b t5o)::us 43 []))=(st t5b t5o (.i 0)<|st t5b (t5o+1) (.i 0)<|st t5b ((t5o+1)+1) (.i 0)<|Ax t5b t5o λX30=>Ax t5b (t5o+1) λX31=>Ax t5b ((t5o+1)+1) λX32=>Q (.tuple #[.s Ae,.agg #[.i X30,.i X31,.i X32]])):=by kernel_rfl
theorem Mn{h6:Int}:Oe jn Q (m1+1) e0 is1 t5b t5o h6=(Aj (h6 != 0) (Ad e0 λB6 O7=>Br B6 (O7+2) λX8=>EG 164 [.p X8,.i h6] λX9 X10=>Ad e0 λB11 O12=>Br B11 (O12+4) λX13=>λw=>Calls PR 282 #[.p X13,.s X9] w λe w'=>∃X14:Int,∃X15:Int,∃X16:Int,∃X17:Bool,e = .returned (.tuple #[.agg #[.i X14,.i X15,.i X16],.b X17])/\(A0 [.i 0,.i 0,.i 0] 270 λB18=>st B18 0 (.i X14)<|st B18 1 (.i X15)<|st B18 2 (.i X16)<|Ax B18 0 λX19=>
 Aj (X19==is1) (A3 λS=>Ax B18 0 λX20=>Ax B18 1 λX21=>Ax B18 2 λX22=>st t5b t5o (.i X20)<|st t5b (t5o+1) (.i X21)<|st t5b ((t5o+1)+1) (.i X22)<|Ax t5b t5o λX23=>Ax t5b (t5o+1) λX24=>Ax t5b ((t5o+1)+1) λX25=>Q (.tuple #[.s X9,.agg #[.i X23,.i X24,.i X25]])) (Ad e0 λB26 O27=>Br B26 (O27+2) λX28=>Bw 245 [.p X28,.i h6] λX29=>Oe jn Q m1 e0 is1 t5b t5o X29)) w') (Ath jn Q t5b t5o)):=by kernel_rfl
theorem Alu:Au jn PR Od Tryz.f290 [.p e0,.i is1] Q=(A0 [.i 0,.i 0,.i 0] 270 λB1=>Ad e0 λB2 O3=>Br B2 (O3+2) λX4=>Bw 165 [.p X4] λX5=>D2 λm=>Oe jn Q m e0 is1 B1 0 X5):=by kernel_rfl
theorem Alv:Au jn PR Uy Tryz.f291 [.p e0,.p n1,.s key2] Q=(A3 λS=>Ad e0 λB1 O2=>EO S B1 (O2+3) λX3=>Ad n1 λB4 O5=>Ax B4 (O5+2) λX6=>An true S<|EG 160 [.p X3,.i X6] λX7 X8=>Ad e0 λB9 O10=>Br B9 (O10+3) λX11=>Bw 162 [.p X11,.s key2] λX12=>Ad n1 λB13 O14=>st B13 (O14+2) (.i X12)<|Q (.tuple #[])):=by kernel_rfl
theorem Xg:Sq jn Q m1 ((.p x0)::(.s key1)::us 4 ((.i free6)::(.i i7)::us 71 []))=(Ad x0 λB23 O24=>Ba B23 (O24+1) λX25=>AX ((X25.n:Int)≠0)<|Of jn Q m1 x0 key1 free6 (Int.tmod (IntKind.wrap .i64 (i7+1)) (X25.n:Int))):=by kernel_rfl
theorem Xh:Sr jn Q m1 ((.p x0)::(.s key1)::us 4 ((.i free6)::(.i i7)::(pq p8b p8o)::us 52 ((.b t61)::us 17 [])))=(Aj t61 (Q (.tuple #[.i i7,.b false])) (Ad (some ⟨p8b,p8o,none⟩) λB29 O30=>Ax B29 O30 λX31=>Aj (X31==0) (Q (.tuple #[.i free6,.b false])) (U2 jn Q m1 x0 key1 free6 i7))):=by kernel_rfl
theorem Xf:Sp jn Q m1 ((.p x0)::(.s key1)::us 4 ((.i free6)::(.i i7)::(pq p8b p8o)::us 41 ((.b t50)::us 28 [])))=(Aj t50 (U2 jn Q m1 x0 key1 i7 i7) (Ad (some ⟨p8b,p8o,none⟩) λB26 O27=>Ax B26 O27 λX28=>Aj (X28==0) (U3 jn Q m1 x0 key1 free6 i7 p8b p8o (decide (free6<0))) (U3 jn Q m1 x0 key1 free6 i7 p8b p8o false))):=by kernel_rfl
theorem Xe:So jn Q m1 ((.p x0)::(.s key1)::us 4 ((.i free6)::(.i i7)::(pq p8b p8o)::us 26 ((.b t35)::us 43 [])))=(Aj t35 (Q (.tuple #[.i i7,.b true])) (Ad (some ⟨p8b,p8o,none⟩) λB20 O21=>Ax B20 O21 λX22=>Aj (X22==1) (U1 jn Q m1 x0 key1 free6 i7 p8b p8o (decide (free6<0))) (U1 jn Q m1 x0 key1 free6 i7 p8b p8o false))):=by kernel_rfl
theorem Xi:Of jn Q (m1+1) x0 key1 free6 i7=(Ad x0 λB9 O10=>Ba B9 (O10+1) λX11=>C1 X11.a X11.n i7 λB12 O13=>Ad (some ⟨B12,(O13+i7.toNat*5),none⟩) λB14 O15=>Ax B14 O15 λX16=>Aj (X16==2) (Ad (some ⟨B12,(O13+i7.toNat*5),none⟩) λB17 O18=>BR B17 (O18+1) λX19=>U0 jn Q m1 x0 key1 free6 i7 B12 (O13+i7.toNat*5) (sEq X19 key1)) (U0 jn Q m1 x0 key1 free6 i7 B12 (O13+i7.toNat*5) false)):=by kernel_rfl
theorem Alw:Au jn PR AA Tryz.f292 [.p x0,.s key1] Q=(A3 λS=>Ad x0 λB1 O2=>Zd S B1 O2 λX3=>Ad x0 λB4 O5=>Fx S B4 (O5+1) λX6=>Ze 117 [.int .u64 X3,.s key1] λX7=>An true S<|Bw 116 [.int .u64 X7,.i (X6.n:Int)] λX8=>D2 λm=>Of jn Q m x0 key1 (-1) X8):=by kernel_rfl
theorem Alx:Au jn PR Uy Tryz.f293 [.p e0,.p n1,.s key2] Q=(A3 λS=>Ad e0 λB1 O2=>EO S B1 (O2+2) λX3=>Ad n1 λB4 O5=>Ax B4 (O5+1) λX6=>An true S<|EG 160 [.p X3,.i X6] λX7 X8=>Ad e0 λB9 O10=>Br B9 (O10+2) λX11=>Bw 162 [.p X11,.s key2] λX12=>Ad n1 λB13 O14=>st B13 (O14+1) (.i X12)<|Q (.tuple #[])):=by kernel_rfl
theorem Aly:Au jn PR Ac1 Tryz.f294 [.p e0,.agg #[.i n1_0,.i n1_1,.i n1_2],.s key2] Q=(A0 [.i n1_0,.i n1_1,.i n1_2] 270 λB1=>A3 λS=>Ad e0 λB2 O3=>EO S B2 (O3+2) λX4=>Ax B1 1 λX5=>An true S<|EG 160 [.p X4,.i X5] λX6 X7=>st B1 1 (.i 0)<|Ax B1 0 λX8=>Aj (X8==3) (st B1 0 (.i 0)<|Ax B1 0 λX9=>Ax B1 1 λX10=>Ax B1 2 λX11=>wz 288 [.p e0,.s key2,.agg #[.i X9,.i X10,.i X11]]<|
 Q (.tuple #[])) (Ax B1 0 λX12=>Ax B1 1 λX13=>Ax B1 2 λX14=>wz 288 [.p e0,.s key2,.agg #[.i X12,.i X13,.i X14]]<|Q (.tuple #[]))):=by kernel_rfl
theorem Alz{by2:Int}:Au jn PR Av Tryz.f295 [.p e0,.i is1,.i by2] Q=(Aj (is1==1) (Ad e0 λB1 O2=>Ax B1 (O2+5) λX3=>Ad e0 λB4 O5=>st B4 (O5+5) (.i (IntKind.wrap .i64 (X3+by2)))<|Q (.tuple #[])) (Aj (is1==3) (Ad e0 λB6 O7=>Ax B6 (O7+6) λX8=>Ad e0 λB9 O10=>st B9 (O10+6) (.i (IntKind.wrap .i64 (X8+by2)))<|Q (.tuple #[])) (Q (.tuple #[])))):=by kernel_rfl
theorem Al0:Au jn PR Av Tryz.f296 [.p x0,.s key1] Q=(A0 [.i 0,.i 0,.i 0] 270 λB1=>λw=>Calls PR 282 #[.p x0,.s key1] w λe w'=>∃X2:Int,∃X3:Int,∃X4:Int,∃X5:Bool,e = .returned (.tuple #[.agg #[.i X2,.i X3,.i X4],.b X5])/\(A0 [.i 0,.i 0,.i 0] 270 λB6=>st B6 0 (.i X2)<|st B6 1 (.i X3)<|st B6 2 (.i X4)<|Aj X5 (F7 292 [.p x0,.s key1] λX7 X8=>Ad x0 λB9 O10=>Ba B9 (O10+1) λX11=>C1 X11.a X11.n X7 λB12 O13=>st B12 (O13+X7.toNat*5) (.i 1)<|
 st B12 ((O13+X7.toNat*5)+1) (.s Ae)<|st B12 (((O13+X7.toNat*5)+1)+1) (.i 0)<|st B12 ((((O13+X7.toNat*5)+1)+1)+1) (.i 0)<|st B12 (((((O13+X7.toNat*5)+1)+1)+1)+1) (.i 0)<|Ad x0 λB14 O15=>Ax B14 (O15+2) λX16=>Ad x0 λB17 O18=>st B17 (O18+2) (.i (IntKind.wrap .i64 (X16-1)))<|Ax B6 0 λX19=>Ax B6 1 λX20=>Ax B6 2 λX21=>st B1 0 (.i X19)<|st B1 1 (.i X20)<|st B1 2 (.i X21)<|Ax B1 0 λX22=>Ax B1 1 λX23=>Ax B1 2 λX24=>Q (.tuple #[.agg #[.i X22,.i X23,.i X24],.b X5])) (
 Ax B6 0 λX25=>Ax B6 1 λX26=>Ax B6 2 λX27=>st B1 0 (.i X25)<|st B1 1 (.i X26)<|st B1 2 (.i X27)<|Ax B1 0 λX28=>Ax B1 1 λX29=>Ax B1 2 λX30=>Q (.tuple #[.agg #[.i X28,.i X29,.i X30],.b X5]))) w'):=by kernel_rfl
theorem Al1{v2_0 v2_1 v2_2:Int}:Au jn PR IK Tryz.f297 [.p x0,.s key1,.agg #[.i v2_0,.i v2_1,.i v2_2]] Q=(A0 [.i v2_0,.i v2_1,.i v2_2] 270 λB1=>Aj (Option.isNone x0) (Q (.b false)) (F7 292 [.p x0,.s key1] λX2 X3=>Aj X3 (A3 λS=>Ad x0 λB4 O5=>Fx S B4 (O5+1) λX6=>Ax B1 0 λX7=>Ax B1 1 λX8=>Ax B1 2 λX9=>An true S<|C1 X6.a X6.n X2 λB10 O11=>st B10 ((O11+X2.toNat*5)+2) (.i X7)<|st B10 (((O11+X2.toNat*5)+2)+1) (.i X8)<|
 st B10 ((((O11+X2.toNat*5)+2)+1)+1) (.i X9)<|Q (.b false)) (Ax B1 0 λX12=>Ax B1 1 λX13=>Ax B1 2 λX14=>wz 298 [.p x0,.i X2,.s key1,.agg #[.i X12,.i X13,.i X14]]<|A3 λS=>Ad x0 λB15 O16=>Eh S B15 (O16+3) λX17=>Ad x0 λB18 O19=>Ba B18 (O19+1) λX20=>An true S<|Aj (decide ((IntKind.wrap .i64 (2*X17))>(X20.n:Int))) (wz 299 [.p x0]<|Q (.b true)) (Q (.b true))))):=by kernel_rfl
theorem Mo{v7b v7o:Nat}:Ss jn Q ((.p x0)::(.i i1)::(.s key2)::us 4 ((pq v7b v7o)::us 32 []))=(A3 λS=>Ad x0 λB13 O14=>Fx S B13 (O14+1) λX15=>Ax v7b v7o λX16=>Ax v7b (v7o+1) λX17=>Ax v7b ((v7o+1)+1) λX18=>An true S<|C1 X15.a X15.n i1 λB19 O20=>st B19 (O20+i1.toNat*5) (.i 2)<|st B19 ((O20+i1.toNat*5)+1) (.s key2)<|st B19 (((O20+i1.toNat*5)+1)+1) (.i X16)<|st B19 ((((O20+i1.toNat*5)+1)+1)+1) (.i X17)<|st B19 (((((O20+i1.toNat*5)+1)+1)+1)+1) (.i X18)<|Ad x0 λB21 O22=>
 Ax B21 (O22+2) λX23=>Ad x0 λB24 O25=>st B24 (O25+2) (.i (IntKind.wrap .i64 (X23+1)))<|Q (.tuple #[])):=by kernel_rfl
theorem Al2{v3_0 v3_1 v3_2:Int}:Au jn PR Ed Tryz.f298 [.p x0,.i i1,.s key2,.agg #[.i v3_0,.i v3_1,.i v3_2]] Q=(A0 [.i v3_0,.i v3_1,.i v3_2] 270 λB1=>Ad x0 λB2 O3=>Ba B2 (O3+1) λX4=>C1 X4.a X4.n i1 λB5 O6=>Ax B5 (O6+i1.toNat*5) λX7=>Aj (X7==0) (Ad x0 λB8 O9=>Ax B8 (O9+3) λX10=>Ad x0 λB11 O12=>st B11 (O12+3) (.i (IntKind.wrap .i64 (X10+1)))<|Ac6 jn Q x0 i1 key2 B1 0) (Ac6 jn Q x0 i1 key2 B1 0)):=by kernel_rfl
theorem Mp:Kt jn Q (m1+1) x0 t28 t29 t30=(Aj (decide (t30<t29)) (C1 t28.a t28.n t30 λB14 O15=>Ax B14 (O15+t30.toNat*5) λX16=>BR B14 ((O15+t30.toNat*5)+1) λX17=>Ax B14 (((O15+t30.toNat*5)+1)+1) λX18=>Ax B14 ((((O15+t30.toNat*5)+1)+1)+1) λX19=>Ax B14 (((((O15+t30.toNat*5)+1)+1)+1)+1) λX20=>A0 [.i 0,.s Ae,.i 0,.i 0,.i 0] 387 λB21=>st B21 0 (.i X16)<|st B21 1 (.s X17)<|st B21 2 (.i X18)<|st B21 3 (.i X19)<|st B21 4 (.i X20)<|Ax B21 0 λX22=>
 Aj (X22==2) (BR B21 1 λX23=>F7 292 [.p x0,.s X23] λX24 X25=>BR B21 1 λX26=>Ax B21 2 λX27=>Ax B21 3 λX28=>Ax B21 4 λX29=>wz 298 [.p x0,.i X24,.s X26,.agg #[.i X27,.i X28,.i X29]]<|Kt jn Q m1 x0 t28 t29 (IntKind.wrap .i64 (t30+1))) (Kt jn Q m1 x0 t28 t29 (IntKind.wrap .i64 (t30+1)))) (Q (.tuple #[]))):=by kernel_rfl
theorem Al3:Au jn PR Dw Tryz.f299 [.p x0] Q=(Ad x0 λB1 O2=>Ba B1 (O2+1) λX3=>Ad x0 λB4 O5=>Ax B4 (O5+2) λX6=>Hh 387 48 [.i 0,.s Ae,.i 0,.i 0,.i 0] (if (IntKind.wrap .i64 (4*(IntKind.wrap .i64 (X6+1))))>8 then (IntKind.wrap .i64 (4*(IntKind.wrap .i64 (X6+1)))) else 8) (if (IntKind.wrap .i64 (4*(IntKind.wrap .i64 (X6+1))))>8 then (IntKind.wrap .i64 (4*(IntKind.wrap .i64 (X6+1)))) else 8) λG7=>Ad x0 λB8 O9=>st B8 (O9+1) (.l G7.a G7.n G7.c)<|Ad x0 λB10 O11=>st B10 (O11+2) (.i 0)<|Ad x0 λB12 O13=>st B12 (O13+3) (.i 0)<|
 D2 λm=>Kt jn Q m x0 X3 (X3.n:Int) 0):=by kernel_rfl
theorem Al4:Au jn PR Av Tryz.f300 [.p e0,.s key1] Q=(Aj (Option.isNone e0) (Q (.tuple #[.b false,.l none 0 0])) (Ad e0 λB1 O2=>Ba B1 O2 λX3=>Br B1 (O2+1) λX4=>Bw 310 [.agg #[.l X3.a X3.n X3.c,.p X4],.s key1] λX5=>Aj (X5==2) (Ad e0 λB6 O7=>Ba B6 O7 λX8=>Br B6 (O7+1) λX9=>wz 311 [.agg #[.l X8.a X8.n X8.c,.p X9],.i 2,.s key1]<|Q (.tuple #[.b true,.l none 0 0])) (Aj (X5==0) (Q (.tuple #[.b true,.l none 0 0])) (Aj (X5==1) (Ad e0 λB10 O11=>Ba B10 O11 λX12=>
 Br B10 (O11+1) λX13=>wz 312 [.agg #[.l X12.a X12.n X12.c,.p X13],.s key1]<|F6 313 [.p e0] λX14=>Ad e0 λB15 O16=>Ba B15 O16 λX17=>Br B15 (O16+1) λX18=>wz 311 [.agg #[.l X17.a X17.n X17.c,.p X18],.i 2,.s key1]<|Q (.tuple #[.b false,.l X14.a X14.n X14.c])) (F6 313 [.p e0] λX19=>Ad e0 λB20 O21=>Ba B20 O21 λX22=>Br B20 (O21+1) λX23=>wz 311 [.agg #[.l X22.a X22.n X22.c,.p X23],.i 0,.s key1]<|Q (.tuple #[.b false,.l X19.a X19.n X19.c])))))):=by kernel_rfl
theorem Mq:Sv jn Q (us 5 ((.s key5)::us 68 []))=(Q (.tuple #[.s key5,.b true])):=by kernel_rfl
theorem Mr{m3:Nat}:Og jn Q (m3+1) e0 key5=(A3 λS=>Ad e0 λB35 O36=>Fx S B35 O36 λX37=>EO S B35 (O36+1) λX38=>Ad e0 λB39 O40=>Eh S B39 (O40+4) λX41=>A0 [.i 1] 3 λB42=>An true S<|Bw 314 [.agg #[.l X37.a X37.n X37.c,.p X38],.l (some ⟨B42,0,none⟩) 1 1] λX43=>An true S<|Aj (decide (X43>X41)) (A3 λS=>Ad e0 λB44 O45=>Fx S B44 O45 λX46=>EO S B44 (O45+1) λX47=>Ad e0 λB48 O49=>Ba B48 O49 λX50=>Br B48 (O49+1) λX51=>An true S<|TC 315 [.agg #[.l X50.a X50.n X50.c,.p X51],.i 1] λX52=>
 An true S<|wz 312 [.agg #[.l X46.a X46.n X46.c,.p X47],.s X52]<|Og jn Q m3 e0 key5) (Atm jn Q key5)):=by kernel_rfl
theorem Xk:Su jn Q ((.p e0)::us 73 [])=(Ad e0 λB26 O27=>Ba B26 O27 λX28=>Br B26 (O27+1) λX29=>TC 315 [.agg #[.l X28.a X28.n X28.c,.p X29],.i 0] λX30=>Ad e0 λB31 O32=>Ba B31 O32 λX33=>Br B31 (O32+1) λX34=>wz 311 [.agg #[.l X33.a X33.n X33.c,.p X34],.i 1,.s X30]<|D2 λm=>Og jn Q m e0 X30):=by kernel_rfl
theorem Xj{t28:Bool}:St jn Q ((.p e0)::us 27 ((.b t28)::us 45 []))=(Aj t28 (Ad e0 λB17 O18=>Ba B17 O18 λX19=>Br B17 (O18+1) λX20=>TC 315 [.agg #[.l X19.a X19.n X19.c,.p X20],.i 2] λX21=>Ad e0 λB22 O23=>Ba B22 O23 λX24=>Br B22 (O23+1) λX25=>wz 312 [.agg #[.l X24.a X24.n X24.c,.p X25],.s X21]<|Q (.tuple #[.s X21,.b true])) (Atl jn Q e0)):=by kernel_rfl
theorem Al6:Au jn PR HA Tryz.f301 [.p e0] Q=(Bw 305 [.p e0] λX1=>Aj (X1==0) (Q (.tuple #[.s Ae,.b false])) (A3 λS=>Ad e0 λB2 O3=>Fx S B2 O3 λX4=>EO S B2 (O3+1) λX5=>Ad e0 λB6 O7=>Eh S B6 (O7+3) λX8=>A0 [.i 0] 3 λB9=>An true S<|Bw 314 [.agg #[.l X4.a X4.n X4.c,.p X5],.l (some ⟨B9,0,none⟩) 1 1] λX10=>An true S<|Aj (decide (X10<=X8)) (Ad e0 λB11 O12=>Fx S B11 O12 λX13=>EO S B11 (O12+1) λX14=>A0 [.i 2] 3 λB15=>
 An true S<|Bw 314 [.agg #[.l X13.a X13.n X13.c,.p X14],.l (some ⟨B15,0,none⟩) 1 1] λX16=>U4 jn Q e0 (decide (X16>0))) (An true S<|U4 jn Q e0 false))):=by kernel_rfl
theorem Al7:Au jn PR Av Tryz.f303 [.p e0,.s key1] Q=(Aj (Option.isNone e0) (Q (.b false)) (Ad e0 λB1 O2=>Ba B1 O2 λX3=>Br B1 (O2+1) λX4=>Bw 310 [.agg #[.l X3.a X3.n X3.c,.p X4],.s key1] λX5=>Aj (X5==0) (Q (.b true)) (Q (.b (X5==2))))):=by kernel_rfl
theorem Al8:Au jn PR Av Tryz.f304 [.p e0] Q=(Aj (Option.isNone e0) (Q (.l none 0 0)) (Ad e0 λB1 O2=>Ba B1 O2 λX3=>Br B1 (O2+1) λX4=>A0 [.i 0,.i 2] 3 λB5=>F6 316 [.agg #[.l X3.a X3.n X3.c,.p X4],.l (some ⟨B5,0,none⟩) 2 2] λX6=>Q (.l X6.a X6.n X6.c))):=by kernel_rfl
theorem Al9:Au jn PR Av Tryz.f305 [.p e0] Q=(Aj (Option.isNone e0) (Q (.i 0)) (Ad e0 λB1 O2=>Ba B1 O2 λX3=>Br B1 (O2+1) λX4=>A0 [.i 0,.i 2] 3 λB5=>Bw 314 [.agg #[.l X3.a X3.n X3.c,.p X4],.l (some ⟨B5,0,none⟩) 2 2] λX6=>Q (.i X6))):=by kernel_rfl
theorem Xl:Sw jn Q ((.p e0)::(.s key1)::us 25 [])=(Ad e0 λB6 O7=>Ba B6 O7 λX8=>Br B6 (O7+1) λX9=>wz 311 [.agg #[.l X8.a X8.n X8.c,.p X9],.i 2,.s key1]<|Q (.b true)):=by kernel_rfl
theorem Ama:Au jn PR Ac7 Tryz.f306 [.p e0,.s key1] Q=(A3 λS=>Aj (Option.isNone e0) (An true S<|An true S<|Q (.b false)) (Dv 303 [.p e0,.s key1] λX1=>An true S<|Aj X1 (An true S<|Q (.b false)) (Ad e0 λB2 O3=>Eh S B2 (O3+2) λX4=>Bw 305 [.p e0] λX5=>An true S<|Aj (X5==X4) (Q (.b false)) (Atn jn Q e0 key1)))):=by kernel_rfl
theorem Amb:Au jn PR Av Tryz.f307 [.p e0,.s key1] Q=(Dv 303 [.p e0,.s key1] λX1=>Aj (!X1) (Q (.b false)) (Ad e0 λB2 O3=>Ba B2 O3 λX4=>Br B2 (O3+1) λX5=>wz 312 [.agg #[.l X4.a X4.n X4.c,.p X5],.s key1]<|Q (.b true))):=by kernel_rfl
theorem Amc:Au jn PR Av Tryz.f308 [.p e0] Q=(Aj (Option.isNone e0) (Q (.i 0)) (Ad e0 λB1 O2=>Ax B1 (O2+2) λX3=>Q (.i X3))):=by kernel_rfl
theorem Amd:Au jn PR Atp Tryz.f313 [.p e0] Q=(A3 λS=>Ad e0 λB1 O2=>Eh S B1 (O2+2) λX3=>Bw 305 [.p e0] λX4=>An true S<|Aj (decide (X4<X3)) (Q (.l none 0 0)) (EG 301 [.p e0] λX5 X6=>A0 [.s X5] 9 λB7=>Q (.l (some ⟨B7,0,none⟩) 1 1))):=by kernel_rfl
theorem Mt:Sy jn Q (us 80 [])=(Q (.tuple #[.b true,.l none 0 0])):=by kernel_rfl
theorem Mu:Oh jn Q (m2+1) e0=(A3 λS=>Ad e0 λB14 O15=>Fx S B14 O15 λX16=>EO S B14 (O15+1) λX17=>Ad e0 λB18 O19=>Eh S B18 (O19+5) λX20=>A0 [.i 2] 3 λB21=>An true S<|Bw 336 [.agg #[.l X16.a X16.n X16.c,.p X17],.l (some ⟨B21,0,none⟩) 1 1] λX22=>An true S<|Aj (decide (X22>X20)) (A3 λS=>Ad e0 λB23 O24=>Fx S B23 O24 λX25=>EO S B23 (O24+1) λX26=>Ad e0 λB27 O28=>Ba B27 O28 λX29=>Br B27 (O28+1) λX30=>An true S<|TC 337 [.agg #[.l X29.a X29.n X29.c,.p X30],.i 2] λX31=>
 An true S<|wz 335 [.agg #[.l X25.a X25.n X25.c,.p X26],.i 1,.s X31]<|Oh jn Q m2 e0) (Aty jn Q)):=by kernel_rfl
theorem Xq:S1 jn Q (us 7 ((.l gone7.a gone7.n gone7.c)::us 72 []))=(Q (.tuple #[.b false,.l gone7.a gone7.n gone7.c])):=by kernel_rfl
theorem Mv{m5:Nat}:Oi jn Q (m5+1) e0 gone7=(A3 λS=>Ad e0 λB36 O37=>Fx S B36 O37 λX38=>EO S B36 (O37+1) λX39=>Ad e0 λB40 O41=>Eh S B40 (O41+3) λX42=>A0 [.i 0] 3 λB43=>An true S<|Bw 336 [.agg #[.l X38.a X38.n X38.c,.p X39],.l (some ⟨B43,0,none⟩) 1 1] λX44=>An true S<|Aj (decide (X44>X42)) (F6 338 [.p e0] λX45=>Bn 9 1 16 [.s Ae] ⟨gone7.a,gone7.n,gone7.c⟩ X45.n (λw=>Hv w X45.a (X45.n*1)) λG46=>Oi jn Q m5 e0 G46) (At0 jn Q gone7)):=by kernel_rfl
theorem Xp:Sz jn Q ((.p e0)::(.s key1)::us 78 [])=(Ad e0 λB32 O33=>Ba B32 O33 λX34=>Br B32 (O33+1) λX35=>wz 335 [.agg #[.l X34.a X34.n X34.c,.p X35],.i 0,.s key1]<|D2 λm=>Oi jn Q m e0 ⟨none,0,0⟩):=by kernel_rfl
theorem Ms{t28:Bool}:Sx jn Q ((.p e0)::(.s key1)::us 26 ((.b t28)::us 51 []))=(Aj t28 (Ad e0 λB10 O11=>Ba B10 O11 λX12=>Br B10 (O11+1) λX13=>wz 335 [.agg #[.l X12.a X12.n X12.c,.p X13],.i 2,.s key1]<|D2 λm=>Oh jn Q m e0) (Atz jn Q e0 key1)):=by kernel_rfl
theorem Amh:Au jn PR Fi Tryz.f323 [.p e0,.s key1] Q=(Aj (Option.isNone e0) (Q (.tuple #[.b false,.l none 0 0])) (wz 333 [.p e0,.s key1]<|Ad e0 λB1 O2=>Ba B1 O2 λX3=>Br B1 (O2+1) λX4=>Bw 334 [.agg #[.l X3.a X3.n X3.c,.p X4],.s key1] λX5=>Aj (X5==0) (Ad e0 λB6 O7=>Ba B6 O7 λX8=>Br B6 (O7+1) λX9=>wz 335 [.agg #[.l X8.a X8.n X8.c,.p X9],.i 0,.s key1]<|Q (.tuple #[.b true,.l none 0 0])) (Aj (X5==1) (U8 jn Q e0 key1 (X5==1)) (U8 jn Q e0 key1 (X5==2))))):=by kernel_rfl
theorem Ami:Au jn PR Av Tryz.f324 [.p e0] Q=(Bw 328 [.p e0] λX1=>Aj (X1==0) (Q (.tuple #[.s Ae,.b false])) (F7 339 [.p e0] λX2 X3=>Ad e0 λB4 O5=>Ba B4 O5 λX6=>Br B4 (O5+1) λX7=>TC 337 [.agg #[.l X6.a X6.n X6.c,.p X7],.i X2] λX8=>Ad e0 λB9 O10=>Ba B9 O10 λX11=>Br B9 (O10+1) λX12=>wz 340 [.agg #[.l X11.a X11.n X11.c,.p X12],.s X8]<|Q (.tuple #[.s X8,.b true]))):=by kernel_rfl
theorem Amj:Au jn PR Av Tryz.f326 [.p e0,.s key1] Q=(Aj (Option.isNone e0) (Q (.b false)) (Ad e0 λB1 O2=>Ba B1 O2 λX3=>Br B1 (O2+1) λX4=>Bw 334 [.agg #[.l X3.a X3.n X3.c,.p X4],.s key1] λX5=>Aj (X5==0) (Q (.b true)) (Aj (X5==1) (Q (.b true)) (Q (.b (X5==2)))))):=by kernel_rfl
theorem Amk:Au jn PR Av Tryz.f327 [.p e0] Q=(Aj (Option.isNone e0) (Q (.l none 0 0)) (Ad e0 λB1 O2=>Ba B1 O2 λX3=>Br B1 (O2+1) λX4=>A0 [.i 0,.i 1,.i 2] 3 λB5=>F6 341 [.agg #[.l X3.a X3.n X3.c,.p X4],.l (some ⟨B5,0,none⟩) 3 3] λX6=>Q (.l X6.a X6.n X6.c))):=by kernel_rfl
theorem Aml:Au jn PR Av Tryz.f328 [.p e0] Q=(Aj (Option.isNone e0) (Q (.i 0)) (Ad e0 λB1 O2=>Ba B1 O2 λX3=>Br B1 (O2+1) λX4=>A0 [.i 0,.i 1,.i 2] 3 λB5=>Bw 336 [.agg #[.l X3.a X3.n X3.c,.p X4],.l (some ⟨B5,0,none⟩) 3 3] λX6=>Q (.i X6))):=by kernel_rfl
theorem Xr:S3 jn Q ((.p e0)::(.s key1)::us 42 [])=(A3 λS=>Ad e0 λB6 O7=>Fx S B6 O7 λX8=>EO S B6 (O7+1) λX9=>Ad e0 λB10 O11=>Eh S B10 (O11+4) λX12=>A0 [.i 1,.i 2] 3 λB13=>An true S<|Bw 336 [.agg #[.l X8.a X8.n X8.c,.p X9],.l (some ⟨B13,0,none⟩) 2 2] λX14=>An true S<|Aj (decide (X14<X12)) (Ad e0 λB15 O16=>Ba B15 O16 λX17=>Br B15 (O16+1) λX18=>wz 335 [.agg #[.l X17.a X17.n X17.c,.p X18],.i 1,.s key1]<|Q (.b true)) (Ad e0 λB19 O20=>
 Ba B19 O20 λX21=>Br B19 (O20+1) λX22=>wz 335 [.agg #[.l X21.a X21.n X21.c,.p X22],.i 0,.s key1]<|Q (.b true))):=by kernel_rfl
theorem Amm:Au jn PR Ac9 Tryz.f329 [.p e0,.s key1] Q=(A3 λS=>Aj (Option.isNone e0) (An true S<|An true S<|Q (.b false)) (Dv 326 [.p e0,.s key1] λX1=>An true S<|Aj X1 (An true S<|Q (.b false)) (Ad e0 λB2 O3=>Eh S B2 (O3+2) λX4=>Bw 328 [.p e0] λX5=>An true S<|Aj (X5==X4) (Q (.b false)) (At1 jn Q e0 key1)))):=by kernel_rfl
theorem Amn:Au jn PR Av Tryz.f330 [.p e0,.s key1] Q=(Dv 326 [.p e0,.s key1] λX1=>Aj (!X1) (Q (.b false)) (Ad e0 λB2 O3=>Ba B2 O3 λX4=>Br B2 (O3+1) λX5=>wz 340 [.agg #[.l X4.a X4.n X4.c,.p X5],.s key1]<|Q (.b true))):=by kernel_rfl
theorem Amo:Au jn PR Av Tryz.f331 [.p e0] Q=(Aj (Option.isNone e0) (Q (.i 0)) (Ad e0 λB1 O2=>Ax B1 (O2+2) λX3=>Q (.i X3))):=by kernel_rfl
theorem Amp:Au jn PR Av Tryz.f333 [.p e0,.s key1] Q=(Ad e0 λB1 O2=>Br B1 (O2+7) λX3=>Dv 342 [.p X3,.s key1] λX4=>Aj (!X4) (Q (.tuple #[])) (Ad e0 λB5 O6=>Br B5 (O6+6) λX7=>Bw 343 [.p X7] λX8=>Ad e0 λB9 O10=>Br B9 (O10+6) λX11=>wz 344 [.p X11,.s key1]<|Ad e0 λB12 O13=>Br B12 (O13+6) λX14=>Bw 343 [.p X14] λX15=>Aj (decide (X15<X8)) (Ad e0 λB16 O17=>Br B16 (O17+7) λX18=>wz 345 [.p X18]<|
 Q (.tuple #[])) (Q (.tuple #[])))):=by kernel_rfl
theorem Xs:S5 jn Q ((.p e0)::us 2 ((.s key3)::(.i row4)::us 75 []))=(Ad e0 λB26 O27=>Ba B26 O27 λX28=>Br B26 (O27+1) λX29=>TC 337 [.agg #[.l X28.a X28.n X28.c,.p X29],.i row4] λX30=>Ad e0 λB31 O32=>Ba B31 O32 λX33=>Br B31 (O32+1) λX34=>wz 340 [.agg #[.l X33.a X33.n X33.c,.p X34],.s X30]<|Ad e0 λB35 O36=>Ba B35 O36 λX37=>Br B35 (O36+1) λX38=>wz 335 [.agg #[.l X37.a X37.n X37.c,.p X38],.i 1,.s key3]<|A0 [.s X30] 9 λB39=>
 Q (.l (some ⟨B39,0,none⟩) 1 1)):=by kernel_rfl
theorem Mw:S4 jn Q ((.p e0)::us 2 ((.s key3)::(.i row4)::us 30 ((.b t35)::us 44 [])))=(Aj t35 (Ad e0 λB21 O22=>Ba B21 O22 λX23=>Br B21 (O22+1) λX24=>wz 340 [.agg #[.l X23.a X23.n X23.c,.p X24],.s key3]<|A0 [.s key3] 9 λB25=>Q (.l (some ⟨B25,0,none⟩) 1 1)) (At5 jn Q e0 key3 row4)):=by kernel_rfl
theorem Amq:Au jn PR Ol Tryz.f338 [.p e0] Q=(Ad e0 λB1 O2=>Ba B1 O2 λX3=>Br B1 (O2+1) λX4=>TC 337 [.agg #[.l X3.a X3.n X3.c,.p X4],.i 0] λX5=>F7 339 [.p e0] λX6 X7=>A3 λS=>Ad e0 λB8 O9=>Fx S B8 O9 λX10=>EO S B8 (O9+1) λX11=>Ad e0 λB12 O13=>Eh S B12 (O13+4) λX14=>A0 [.i 1,.i 2] 3 λB15=>An true S<|Bw 336 [.agg #[.l X10.a X10.n X10.c,.p X11],.l (some ⟨B15,0,none⟩) 2 2] λX16=>An true S<|
 Aj (decide (X16<X14)) (Ad e0 λB17 O18=>Ba B17 O18 λX19=>Br B17 (O18+1) λX20=>wz 335 [.agg #[.l X19.a X19.n X19.c,.p X20],.i 1,.s X5]<|Q (.l none 0 0)) (A3 λS=>Aj (!X7) (An true S<|Oj jn Q e0 X5 X6 true) (Ad e0 λB40 O41=>Fx S B40 O41 λX42=>EO S B40 (O41+1) λX43=>Bw 348 [.p e0,.s X5] λX44=>An true S<|TC 337 [.agg #[.l X42.a X42.n X42.c,.p X43],.i X6] λX45=>Bw 348 [.p e0,.s X45] λX46=>Oj jn Q e0 X5 X6 (decide (X44<=X46))))):=by kernel_rfl
theorem Xt:S6 jn Q (us 22 [])=(Q (.tuple #[.i 0,.b false])):=by kernel_rfl
theorem Iq{t6:Sl}{t7 t8:Int}:U9 jn Q (m1+1) e0 t6 t7 t8=(Aj (decide (t8<t7)) (C1 t6.a t6.n t8 λB2 O3=>Ax B2 (O3+t8.toNat*1) λX4=>Ad e0 λB5 O6=>Ba B5 O6 λX7=>Br B5 (O6+1) λX8=>A0 [.i X4] 3 λB9=>Bw 336 [.agg #[.l X7.a X7.n X7.c,.p X8],.l (some ⟨B9,0,none⟩) 1 1] λX10=>Aj (decide (X10>0)) (Q (.tuple #[.i X4,.b true])) (U9 jn Q m1 e0 t6 t7 (IntKind.wrap .i64 (t8+1)))) (At7 jn Q)):=by kernel_rfl
theorem Amr:Au jn PR Om Tryz.f339 [.p e0] Q=(A0 [.i 1,.i 2] 3 λB1=>D2 λm=>U9 jn Q m e0 ⟨(some ⟨B1,0,none⟩),2,2⟩ 2 0):=by kernel_rfl
theorem Xu:S7 jn Q (us 5 ((.b was5)::us 30 []))=(Q (.b was5)):=by kernel_rfl
theorem Mx{t14:Int}:Oo jn Q (m1+1) d0 key1 was5 t14=(Aj (decide (t14<3)) (Gj (.int .i64) (.int .u64) PR 351 [.p d0,.i t14,.s key1] λ(X2:Int)(X3:Int)=>Ad d0 λB4 O5=>Ba B4 O5 λX6=>C1 X6.a X6.n X2 λB7 O8=>Dz B7 (O8+X2.toNat*1) λX9=>C1 X6.a X6.n X2 λB10 O11=>st B10 (O11+X2.toNat*1) (.int .u64 (bits .or .u64 X9 X3))<|Oo jn Q m1 d0 key1 was5 (IntKind.wrap .i64 (t14+1))) (Auc jn Q was5)):=by kernel_rfl
theorem Ams:Au jn PR On Tryz.f342 [.p d0,.s key1] Q=(Aj (Option.isNone d0) (Q (.b false)) (Dv 350 [.p d0,.s key1] λX1=>D2 λm=>Oo jn Q m d0 key1 X1 0)):=by kernel_rfl
theorem Amt:Au jn PR Av Tryz.f343 [.p s0] Q=(Aj (Option.isNone s0) (Q (.i 0)) (Ad s0 λB1 O2=>Ax B1 (O2+2) λX3=>Q (.i X3))):=by kernel_rfl
theorem Xv:S8 jn Q ((.p s0)::us 51 [])=(Ad s0 λB9 O10=>Ax B9 (O10+2) λX11=>Ad s0 λB12 O13=>st B12 (O13+2) (.i (IntKind.wrap .i64 (X11+1)))<|A3 λS=>Ad s0 λB14 O15=>Eh S B14 (O15+2) λX16=>Ad s0 λB17 O18=>Ax B17 O18 λX19=>An true S<|Aj (X16==(IntKind.wrap .i64 (10*X19))) (wz 356 [.p s0]<|Q (.tuple #[])) (Q (.tuple #[]))):=by kernel_rfl
theorem My{low4 t17_0 t17_1 t17_2 t17_3 t18:Int}:Kv jn Q (m1+1) s0 low4 t17_0 t17_1 t17_2 t17_3 t18=(Aj (decide (t18<4)) (AX ((0:Int)<=t18/\t18<((4:Nat):Int))<|λw=>∃X6:Int,([.i t17_0,.i t17_1,.i t17_2,.i t17_3]:List Value)[t18.toNat]? = some (.i X6)/\Cu (.i X6)=false/\(Bw 354 [.p s0,.i X6] λX7=>Aj (decide (X7<=low4)) (Bw 119 [.i X7,.i 15] λX8=>wz 355 [.p s0,.i X6,.i X8]<|Kv jn Q m1 s0 low4 t17_0 t17_1 t17_2 t17_3 (IntKind.wrap .i64 (t18+1))) (
 Kv jn Q m1 s0 low4 t17_0 t17_1 t17_2 t17_3 (IntKind.wrap .i64 (t18+1)))) w) (Aue jn Q s0)):=by kernel_rfl
theorem Amu:Au jn PR Oq Tryz.f344 [.p s0,.s key1] Q=(Aj (Option.isNone s0) (Q (.tuple #[])) (Bw 352 [.p s0,.s key1] λX1=>Aj (X1==15) (Q (.tuple #[])) (λw=>Calls PR 353 #[.p s0,.s key1] w λe w'=>∃X2:Int,∃X3:Int,∃X4:Int,∃X5:Int,e = .returned (.agg #[.i X2,.i X3,.i X4,.i X5])/\(D2 λm=>Kv jn Q m s0 X1 X2 X3 X4 X5 0) w'))):=by kernel_rfl
theorem Amv:Au jn PR Av Tryz.f345 [.p d0] Q=(Aj (!Option.isNone d0) (Ad d0 λB1 O2=>Ba B1 O2 λX3=>Aqv [.int .u64 0] X3.a X3.n<|Q (.tuple #[])) (Q (.tuple #[]))):=by kernel_rfl
end Go.Proofs.YtjipofkjmmpjdaaGreat
namespace Go.Proofs.YtjipofkjmmpjdaaGreat
open Go.Hb
section
variable(jn:Jn)(Q:VW)
def Ot:KP:=⟨[(11,[0,1,10]),(22,[])],[]⟩
def Aug:EW:=sE Tryz.f350 Ot jn Q [1,1,1] (rE Tryz.f350 Q) A5
def S9:EW:=cE Tryz.f350 Ot jn Q [1,1,1] (rE Tryz.f350 Q) A5
def Auh:WP:=jn 22 (S9 jn Q) (us 31 [])
def Ou(m1:Nat)(d0:OA)(key1:BA)(t10:Int):WP:=CJ PR Ot jn (bE Tryz.f350 [1,1,0,1,0,0]) (A6 0 (Aug jn Q) A5) (rE Tryz.f350 Q) m1 ((.p d0)::(.s key1)::us 8 ((.i t10)::us 20 []))
def Aui:KP:=⟨[],[(1,[0,1,2,3,5,6,7,8,9,10,12]),(2,[0,1,2,3,4,5,6])]⟩
def Ov:KP:=⟨[(13,[0,5,12,13]),(20,[5])],[]⟩
def Auj:EW:=sE Tryz.f352 Ov jn Q [1,1,1,1] (rE Tryz.f352 Q) A5
def SA:EW:=cE Tryz.f352 Ov jn Q [1,1,1,1] (rE Tryz.f352 Q) A5
def Auk(low5:Int):WP:=jn 20 (SA jn Q) (us 5 ((.i low5)::us 17 []))
def Ow(m1:Nat)(s0:OA)(low5 t12_0 t12_1 t12_2 t12_3 t13:Int):WP:=CJ PR Ov jn (bE Tryz.f352 [1,1,1,0,1,0,0]) (A6 0 (Auj jn Q) A5) (rE Tryz.f352 Q) m1 ((.p s0)::us 4 ((.i low5)::us 6 ((.agg #[.i t12_0,.i t12_1,.i t12_2,.i t12_3])::(.i t13)::us 9 [])))
def Ox:KP:=⟨[(9,[0,1,4,5,7]),(16,[4,5])],[(5,[0,1,2,3,4,5,6,7,8,9,10,12,13,14,15,17,18])]⟩
def Aul:EW:=sE Tryz.f353 Ox jn Q [1,1,1] (rE Tryz.f353 Q) A5
def SB:EW:=cE Tryz.f353 Ox jn Q [1,1,1] (rE Tryz.f353 Q) A5
def Aum(t4b t4o l5b l5o:Nat):WP:=jn 16 (SB jn Q) (us 4 ((pq t4b t4o)::(pq l5b l5o)::us 25 []))
def Oy(m1:Nat)(s0:OA)(key1:BA)(t4b t4o l5b l5o:Nat)(t7:Int):WP:=CJ PR Ox jn (bE Tryz.f353 [1,1,0,1,0,0]) (A6 0 (Aul jn Q) A5) (rE Tryz.f353 Q) m1 ((.p s0)::(.s key1)::us 2 ((pq t4b t4o)::(pq l5b l5o)::us 1 ((.i t7)::us 23 [])))
def Aun:KP:=⟨[],[(1,[0,1,2,3,4,5,6,7,8,10,11,12,14,15,16,17,18,19,20,21,22])]⟩
def Oz:KP:=⟨[(7,[0,9,10]),(14,[0])],[]⟩
def Auo:EW:=sE Tryz.f356 Oz jn Q [1,1] (rE Tryz.f356 Q) A5
def SC:EW:=cE Tryz.f356 Oz jn Q [1,1] (rE Tryz.f356 Q) A5
def Aup(s0:OA):WP:=jn 14 (SC jn Q) ((.p s0)::us 27 [])
def O0(m1:Nat)(s0:OA)(t9 t10:Int):WP:=CJ PR Oz jn (bE Tryz.f356 [1,0,1,0,0]) (A6 0 (Auo jn Q) A5) (rE Tryz.f356 Q) m1 ((.p s0)::us 8 ((.i t9)::(.i t10)::us 17 []))
def Adb(m1:Nat):EW:=Ia PR AA jn (bE Tryz.f357 [1,1,1,0,0]) (A6 0 (rE Tryz.f357 Q) A5) (rE Tryz.f357 Q) m1
def Kw(m1:Nat):EW:=sE Tryz.f357 AA jn Q [1,1,1,0,0,1] (Adb jn Q m1) (A6 0 (rE Tryz.f357 Q) A5)
def Auq(m1:Nat):Nat->EW:=A6 1 (Kw jn Q m1) (A6 0 (rE Tryz.f357 Q) A5)
def UA(m1:Nat):Nat->EW:=A6 2 (Kw jn Q m1) (Auq jn Q m1)
def Aft(m1:Nat):EW:=cE Tryz.f357 AA jn Q [1,1,1,0,0,1] (Adb jn Q m1) (A6 0 (rE Tryz.f357 Q) A5)
def Afu(m1:Nat):EW:=cE Tryz.f357 AA jn Q [1,1,1,0,0,0,0,1,0,1,1,1,1,1] (Kw jn Q m1) (UA jn Q m1)
def Afs(m1:Nat):EW:=cE Tryz.f357 AA jn Q [1,1,1,0,0,0,0,1,0,1,1,1] (Kw jn Q m1) (UA jn Q m1)
def Afr(m1:Nat):EW:=cE Tryz.f357 AA jn Q [1,1,1,0,0,0,0,1,0,1] (Kw jn Q m1) (UA jn Q m1)
def Aur(m1:Nat)(x0:OA)(key1:BA)(free6 i7:Int):WP:=CJ PR AA jn (bE Tryz.f357 [1,1,1,0,0]) (A6 0 (rE Tryz.f357 Q) A5) (rE Tryz.f357 Q) m1 ((.p x0)::(.s key1)::us 4 ((.i free6)::(.i i7)::us 71 []))
def Afv:EW:=cE Tryz.f358 Ed jn Q [1,1] (rE Tryz.f358 Q) A5
def Aus(m1:Nat)(x0:OA)(t28:Sl)(t29 t30:Int):WP:=CJ PR Dw jn (bE Tryz.f359 [1,1,1,0,0]) (A6 0 (rE Tryz.f359 Q) A5) (rE Tryz.f359 Q) m1 ((.p x0)::us 27 ((.l t28.a t28.n t28.c)::(.i t29)::(.i t30)::us 21 []))
def O1:KP:=⟨[(19,[0,1,8]),(24,[0,1,8])],[(5,[0,1,2,3,4,5]),(8,[0,2,3,4,5,6])]⟩
def Am5:EW:=sE Tryz.f360 O1 jn Q [1,1,1,1,1] (rE Tryz.f360 Q) A5
def SD:EW:=cE Tryz.f360 O1 jn Q [1,1,1,1,1] (rE Tryz.f360 Q) A5
def Adc(e0:OA)(key1:BA)(gone8:Sl):WP:=jn 24 (SD jn Q) ((.p e0)::(.s key1)::us 6 ((.l gone8.a gone8.n gone8.c)::us 53 []))
def OB(m1:Nat)(e0:OA)(key1:BA)(gone8:Sl):WP:=CJ PR O1 jn (bE Tryz.f360 [1,1,1,1,0,0,0]) (A6 0 (Am5 jn Q) A5) (rE Tryz.f360 Q) m1 ((.p e0)::(.s key1)::us 6 ((.l gone8.a gone8.n gone8.c)::us 53 []))
def UC:KP:=⟨[(10,[0,28])],[(3,[0,1,2,3,6,7,8,9,10,11,12,13,14,15,18,19])]⟩
def Auu:EW:=sE Tryz.f361 UC jn Q [1,1,1] (rE Tryz.f361 Q) A5
def SE:EW:=cE Tryz.f361 UC jn Q [1,1,0,1] (Auu jn Q) A5
def UB(e0:OA)(t28:Bool):WP:=jn 10 (SE jn Q) ((.p e0)::us 27 ((.b t28)::us 9 []))
def Auv:KP:=⟨[],[(1,[0,1,2,3,4,6,7,8,10,11,12,13,14,15])]⟩
def Aux:EW:=sE Tryz.f372 Bo jn Q [1,1,1] (rE Tryz.f372 Q) A5
def Afw:EW:=cE Tryz.f372 Bo jn Q [1,1,1] (rE Tryz.f372 Q) A5
def Auy(m1:Nat)(r2b r2o:Nat)(n5:Int)(t8:Sl)(t9 t10:Int):WP:=CJ PR Bo jn (bE Tryz.f372 [1,1,0,1,0,0]) (A6 0 (Aux jn Q) A5) (rE Tryz.f372 Q) m1 (us 2 ((pq r2b r2o)::us 2 ((.i n5)::us 2 ((.l t8.a t8.n t8.c)::(.i t9)::(.i t10)::us 13 []))))
def Gp:KP:=⟨[(5,[0]),(19,[0,4]),(22,[4]),(24,[])],[(8,[0,1,2,3,6,7,8,9,10]),(9,[0,1,2,3,4,5,6])]⟩
def UE:EW:=sE Tryz.f373 Gp jn Q [1,1] (rE Tryz.f373 Q) A5
def UF(m1:Nat):EW:=Ia PR Gp jn (bE Tryz.f373 [1,0,0,0]) (A6 0 (UE jn Q) A5) (rE Tryz.f373 Q) m1
def UG(m1:Nat):Nat->EW:=A6 1 (UF jn Q m1) (A6 0 (UE jn Q) A5)
def Ang(m1:Nat):EW:=sE Tryz.f373 Gp jn Q [1,0,0,0,1,0,1,1,1,1,1] (UF jn Q m1) (UG jn Q m1)
def Anh(m1:Nat):Nat->EW:=A6 2 (Ang jn Q m1) (UG jn Q m1)
def SF(m1:Nat):EW:=cE Tryz.f373 Gp jn Q [1,0,0,0,1,0,1,1,1,1,1] (UF jn Q m1) (UG jn Q m1)
def Auz(m1:Nat)(key4:BA):WP:=jn 22 (SF jn Q m1) (us 4 ((.s key4)::us 59 []))
def OD(m1 m2:Nat)(e0:OA)(key4:BA):WP:=CJ PR Gp jn (bE Tryz.f373 [1,0,0,0,1,0,1,1,1,1,0,0,0]) (Anh jn Q m1) (rE Tryz.f373 Q) m2 ((.p e0)::us 3 ((.s key4)::us 59 []))
def SG:EW:=cE Tryz.f373 Gp jn Q [1,1] (rE Tryz.f373 Q) A5
def Au0:WP:=jn 24 (SG jn Q) (us 64 [])
def OC(m1:Nat)(e0:OA):WP:=CJ PR Gp jn (bE Tryz.f373 [1,0,0,0]) (A6 0 (UE jn Q) A5) (rE Tryz.f373 Q) m1 ((.p e0)::us 63 [])
def Ade:KP:=⟨[(5,[0])],[]⟩
def OE(m1:Nat)(e0:OA):WP:=CJ PR Ade jn (bE Tryz.f374 [1,0,0]) (A6 0 (rE Tryz.f374 Q) A5) (rE Tryz.f374 Q) m1 ((.p e0)::us 30 [])
def Au1:EW:=sE Tryz.f375 Bo jn Q [1,1,1] (rE Tryz.f375 Q) A5
def Afx:EW:=cE Tryz.f375 Bo jn Q [1,1,1] (rE Tryz.f375 Q) A5
def Au2(m1:Nat)(r2b r2o:Nat)(l5 t8:Sl)(t9 t10:Int):WP:=CJ PR Bo jn (bE Tryz.f375 [1,1,0,1,0,0]) (A6 0 (Au1 jn Q) A5) (rE Tryz.f375 Q) m1 (us 2 ((pq r2b r2o)::us 2 ((.l l5.a l5.n l5.c)::us 2 ((.l t8.a t8.n t8.c)::(.i t9)::(.i t10)::us 13 []))))
def Afy:EW:=cE Tryz.f377 Ec jn Q [1,1] (rE Tryz.f377 Q) A5
def Adf(m1:Nat):EW:=Ia PR AA jn (bE Tryz.f381 [1,1,1,0,0]) (A6 0 (rE Tryz.f381 Q) A5) (rE Tryz.f381 Q) m1
def Kx(m1:Nat):EW:=sE Tryz.f381 AA jn Q [1,1,1,0,0,1] (Adf jn Q m1) (A6 0 (rE Tryz.f381 Q) A5)
def Au3(m1:Nat):Nat->EW:=A6 1 (Kx jn Q m1) (A6 0 (rE Tryz.f381 Q) A5)
def UH(m1:Nat):Nat->EW:=A6 2 (Kx jn Q m1) (Au3 jn Q m1)
def Af1(m1:Nat):EW:=cE Tryz.f381 AA jn Q [1,1,1,0,0,1] (Adf jn Q m1) (A6 0 (rE Tryz.f381 Q) A5)
def Af2(m1:Nat):EW:=cE Tryz.f381 AA jn Q [1,1,1,0,0,0,0,1,0,1,1,1,1,1] (Kx jn Q m1) (UH jn Q m1)
def Af0(m1:Nat):EW:=cE Tryz.f381 AA jn Q [1,1,1,0,0,0,0,1,0,1,1,1] (Kx jn Q m1) (UH jn Q m1)
def Afz(m1:Nat):EW:=cE Tryz.f381 AA jn Q [1,1,1,0,0,0,0,1,0,1] (Kx jn Q m1) (UH jn Q m1)
def Au4(m1:Nat)(x0:OA)(key1:BA)(free6 i7:Int):WP:=CJ PR AA jn (bE Tryz.f381 [1,1,1,0,0]) (A6 0 (rE Tryz.f381 Q) A5) (rE Tryz.f381 Q) m1 ((.p x0)::(.s key1)::us 4 ((.i free6)::(.i i7)::us 71 []))
def Af3:EW:=cE Tryz.f384 Ed jn Q [1,1] (rE Tryz.f384 Q) A5
def Au5(m1:Nat)(x0:OA)(t28:Sl)(t29 t30:Int):WP:=CJ PR Dw jn (bE Tryz.f385 [1,1,1,0,0]) (A6 0 (rE Tryz.f385 Q) A5) (rE Tryz.f385 Q) m1 ((.p x0)::us 27 ((.l t28.a t28.n t28.c)::(.i t29)::(.i t30)::us 21 []))
end
variable{jn:Jn}{Q:VW}{e0 s0 d0:OA}{key1 key2 key4:BA}{m1 t4b t4o l5b l5o:Nat}{i1 t10 low5:Int}{gone8:Sl}
theorem Amw:Au jn PR Av Tryz.f348 [.p e0,.s key1] Q=(Ad e0 λB1 O2=>Br B1 (O2+6) λX3=>Bw 352 [.p X3,.s key1] λX4=>Ad e0 λB5 O6=>Br B5 (O6+7) λX7=>Dv 350 [.p X7,.s key1] λX8=>Aj X8 (Q (.i (IntKind.wrap .i64 (X4+1)))) (Q (.i X4))):=by kernel_rfl
theorem Xx:S9 jn Q (us 31 [])=(Q (.b true)):=by kernel_rfl
theorem Mz:Ou jn Q (m1+1) d0 key1 t10=(Aj (decide (t10<3)) (Gj (.int .i64) (.int .u64) PR 351 [.p d0,.i t10,.s key1] λ(X1:Int)(X2:Int)=>Ad d0 λB3 O4=>Ba B3 O4 λX5=>C1 X5.a X5.n X1 λB6 O7=>Dz B6 (O7+X1.toNat*1) λX8=>Aj ((bits .and .u64 X8 X2)==0) (Q (.b false)) (Ou jn Q m1 d0 key1 (IntKind.wrap .i64 (t10+1)))) (Auh jn Q)):=by kernel_rfl
theorem Amy:Au jn PR Ot Tryz.f350 [.p d0,.s key1] Q=(Aj (Option.isNone d0) (Q (.b false)) (D2 λm=>Ou jn Q m d0 key1 0)):=by kernel_rfl
theorem Amz:Au jn PR Aui Tryz.f351 [.p d0,.i i1,.s key2] Q=(A3 λS=>Ad d0 λB1 O2=>Fx S B1 O2 λX3=>Ze 117 [.int .u64 (IntKind.wrap .u64 (IntKind.wrap .i64 (11+i1))),.s key2] λX4=>An true S<|Bw 116 [.int .u64 X4,.i (IntKind.wrap .i64 (64*(X3.n:Int)))] λX5=>A3 λS=>AX ((64:Int)≠0)<|AX ((64:Int)≠0)<|AX ((0:Int)<=(Int.tmod X5 (64:Int)))<|Q (.tuple #[.i (IntKind.wrap .i64 (Int.tdiv X5 64)),.int .u64 (GM .u64 1 (Int.tmod X5 64))])):=by kernel_rfl
theorem Xy:SA jn Q (us 5 ((.i low5)::us 17 []))=(Q (.i low5)):=by kernel_rfl
theorem M0{t12_0 t12_1 t12_2 t12_3 t13:Int}:Ow jn Q (m1+1) s0 low5 t12_0 t12_1 t12_2 t12_3 t13=(Aj (decide (t13<4)) (AX ((0:Int)<=t13/\t13<((4:Nat):Int))<|λw=>∃X5:Int,([.i t12_0,.i t12_1,.i t12_2,.i t12_3]:List Value)[t13.toNat]? = some (.i X5)/\Cu (.i X5)=false/\(Bw 354 [.p s0,.i X5] λX6=>Ow jn Q m1 s0 (if X6<low5 then X6 else low5) t12_0 t12_1 t12_2 t12_3 (IntKind.wrap .i64 (t13+1))) w) (Auk jn Q low5)):=by kernel_rfl
theorem Am0:Au jn PR Ov Tryz.f352 [.p s0,.s key1] Q=(Aj (Option.isNone s0) (Q (.i 0)) (λw=>Calls PR 353 #[.p s0,.s key1] w λe w'=>∃X1:Int,∃X2:Int,∃X3:Int,∃X4:Int,e = .returned (.agg #[.i X1,.i X2,.i X3,.i X4])/\(D2 λm=>Ow jn Q m s0 15 X1 X2 X3 X4 0) w')):=by kernel_rfl
theorem Xz:SB jn Q (us 4 ((pq t4b t4o)::(pq l5b l5o)::us 25 []))=(Ax l5b l5o λX11=>Ax l5b (l5o+1) λX12=>Ax l5b ((l5o+1)+1) λX13=>Ax l5b (((l5o+1)+1)+1) λX14=>st t4b t4o (.i X11)<|st t4b (t4o+1) (.i X12)<|st t4b ((t4o+1)+1) (.i X13)<|st t4b (((t4o+1)+1)+1) (.i X14)<|Ax t4b t4o λX15=>Ax t4b (t4o+1) λX16=>Ax t4b ((t4o+1)+1) λX17=>Ax t4b (((t4o+1)+1)+1) λX18=>Q (.agg #[.i X15,.i X16,.i X17,.i X18])):=by kernel_rfl
theorem M1{t7:Int}:Oy jn Q (m1+1) s0 key1 t4b t4o l5b l5o t7=(Aj (decide (t7<4)) (A3 λS=>Ad s0 λB3 O4=>Eh S B3 O4 λX5=>Ad s0 λB6 O7=>Eh S B6 O7 λX8=>Ze 117 [.int .u64 (IntKind.wrap .u64 (IntKind.wrap .i64 (t7+1))),.s key1] λX9=>An true S<|Bw 116 [.int .u64 X9,.i X8] λX10=>An true S<|AX ((0:Int)<=t7/\t7<((4:Nat):Int))<|st l5b (l5o+t7.toNat*1) (.i (IntKind.wrap .i64 ((IntKind.wrap .i64 (t7*X5))+X10)))<|Oy jn Q m1 s0 key1 t4b t4o l5b l5o (IntKind.wrap .i64 (t7+1))) (
 Aum jn Q t4b t4o l5b l5o)):=by kernel_rfl
theorem Am1:Au jn PR Ox Tryz.f353 [.p s0,.s key1] Q=(A0 [.i 0,.i 0,.i 0,.i 0] 405 λB1=>A0 [.i 0,.i 0,.i 0,.i 0] 405 λB2=>D2 λm=>Oy jn Q m s0 key1 B1 0 B2 0 0):=by kernel_rfl
theorem Am2:Au jn PR Av Tryz.f354 [.p s0,.i i1] Q=(Ad s0 λB1 O2=>Ba B1 (O2+1) λX3=>AX ((2:Int)≠0)<|C1 X3.a X3.n (IntKind.wrap .i64 (Int.tdiv i1 2)) λB4 O5=>ld (.int .u8) B4 (O5+((IntKind.wrap .i64 (Int.tdiv i1 (2:Int)))).toNat*1) λ(X6:Int)=>AX ((2:Int)≠0)<|AX ((0:Int)<=(IntKind.wrap .i64 ((Int.tmod i1 (2:Int))*(4:Int))))<|Q (.i (bits .and .i64 (IntKind.wrap .i64 (C7 .u8 X6 (IntKind.wrap .i64 ((Int.tmod i1 2)*4)))) 15))):=by kernel_rfl
theorem Am3{v2:Int}:Au jn PR Aun Tryz.f355 [.p s0,.i i1,.i v2] Q=(AX ((2:Int)≠0)<|A3 λS=>Ad s0 λB1 O2=>Fx S B1 (O2+1) λX3=>AX ((2:Int)≠0)<|Ad s0 λB4 O5=>AX ((2:Int)≠0)<|AX ((0:Int)<=(IntKind.wrap .i64 ((Int.tmod i1 (2:Int))*(4:Int))))<|AX ((0:Int)<=(IntKind.wrap .i64 ((Int.tmod i1 (2:Int))*(4:Int))))<|Ba B4 (O5+1) λX6=>An true S<|C1 X6.a X6.n (IntKind.wrap .i64 (Int.tdiv i1 2)) λB7 O8=>ld (.int .u8) B7 (O8+((IntKind.wrap .i64 (Int.tdiv i1 (2:Int)))).toNat*1) λ(X9:Int)=>An true S<|C1 X3.a X3.n (IntKind.wrap .i64 (Int.tdiv i1 2)) λB10 O11=>
 st B10 (O11+((IntKind.wrap .i64 (Int.tdiv i1 (2:Int)))).toNat*1) (.int .u8 (bits .or .u8 (bits .andNot .u8 X9 (GM .u8 15 (IntKind.wrap .i64 ((Int.tmod i1 2)*4)))) (GM .u8 (IntKind.wrap .u8 v2) (IntKind.wrap .i64 ((Int.tmod i1 2)*4)))))<|Q (.tuple #[])):=by kernel_rfl
theorem X0:SC jn Q ((.p s0)::us 27 [])=(Ad s0 λB5 O6=>Ax B5 (O6+2) λX7=>AX ((2:Int)≠0)<|Ad s0 λB8 O9=>st B8 (O9+2) (.i (IntKind.wrap .i64 (Int.tdiv X7 2)))<|Q (.tuple #[])):=by kernel_rfl
theorem M2{t9:Int}:O0 jn Q (m1+1) s0 t9 t10=(Aj (decide (t10<t9)) (Bw 354 [.p s0,.i t10] λX4=>AX ((2:Int)≠0)<|wz 355 [.p s0,.i t10,.i (IntKind.wrap .i64 (Int.tdiv X4 2))]<|O0 jn Q m1 s0 t9 (IntKind.wrap .i64 (t10+1))) (Aup jn Q s0)):=by kernel_rfl
theorem Am4:Au jn PR Oz Tryz.f356 [.p s0] Q=(Aj (Option.isNone s0) (Q (.tuple #[])) (Ad s0 λB1 O2=>Ax B1 O2 λX3=>D2 λm=>O0 jn Q m s0 (IntKind.wrap .i64 (4*X3)) 0)):=by kernel_rfl
theorem XA:SD jn Q ((.p e0)::(.s key1)::us 6 ((.l gone8.a gone8.n gone8.c)::us 53 []))=(Ad e0 λB20 O21=>Ba B20 O21 λX22=>Br B20 (O21+1) λX23=>Bw 370 [.agg #[.l X22.a X22.n X22.c,.p X23],.s key1] λX24=>Aj (X24==2) (wz 371 [.p e0,.i 1,.s key1,.i 0]<|Q (.tuple #[.b false,.l gone8.a gone8.n gone8.c])) (wz 371 [.p e0,.i 0,.s key1,.i 0]<|Q (.tuple #[.b false,.l gone8.a gone8.n gone8.c]))):=by kernel_rfl
theorem M3:OB jn Q (m1+1) e0 key1 gone8=(A3 λS=>Ad e0 λB12 O13=>Eh S B12 (O13+2) λX14=>Bw 365 [.p e0] λX15=>An true S<|Aj (decide (X15>=X14)) (EG 361 [.p e0] λX16 X17=>A0 [.s X16] 9 λB18=>Bn 9 1 16 [.s Ae] ⟨gone8.a,gone8.n,gone8.c⟩ 1 (λw=>Hv w (some ⟨B18,0,none⟩) (1*1)) λG19=>OB jn Q m1 e0 key1 G19) (Adc jn Q e0 key1 gone8)):=by kernel_rfl
theorem Am6:Au jn PR O1 Tryz.f360 [.p e0,.s key1] Q=(Aj (Option.isNone e0) (Q (.tuple #[.b false,.l none 0 0])) (Dv 363 [.p e0,.s key1] λX1=>Aj X1 (Ad e0 λB2 O3=>Br B2 (O3+5) λX4=>F7 192 [.p X4,.s key1] λX5 X6=>A3 λS=>Ad e0 λB7 O8=>EO S B7 (O8+5) λX9=>Bw 119 [.i X5,.i 3] λX10=>An true S<|Dv 161 [.p X9,.s key1,.i X10] λX11=>Q (.tuple #[.b true,.l none 0 0])) (D2 λm=>OB jn Q m e0 key1 ⟨none,0,0⟩))):=by kernel_rfl
theorem XB{t28:Bool}:SE jn Q ((.p e0)::us 27 ((.b t28)::us 9 []))=(Aj t28 (EG 373 [.p e0] λX11 X12=>Aj X12 (Q (.tuple #[.s X11,.b true])) (TC 374 [.p e0] λX13=>Q (.tuple #[.s X13,.b true]))) (TC 374 [.p e0] λX14=>Q (.tuple #[.s X14,.b true]))):=by kernel_rfl
theorem Am7:Au jn PR UC Tryz.f361 [.p e0] Q=(Bw 365 [.p e0] λX1=>Aj (X1==0) (Q (.tuple #[.s Ae,.b false])) (A3 λS=>Ad e0 λB2 O3=>Fx S B2 O3 λX4=>EO S B2 (O3+1) λX5=>Ad e0 λB6 O7=>Eh S B6 (O7+3) λX8=>A0 [.i 0] 3 λB9=>An true S<|Bw 372 [.agg #[.l X4.a X4.n X4.c,.p X5],.l (some ⟨B9,0,none⟩) 1 1] λX10=>An true S<|Aj (decide (X10>X8)) (An true S<|UB jn Q e0 true) (Ad e0 λB15 O16=>Fx S B15 O16 λX17=>EO S B15 (O16+1) λX18=>
 A0 [.i 1] 3 λB19=>An true S<|Bw 372 [.agg #[.l X17.a X17.n X17.c,.p X18],.l (some ⟨B19,0,none⟩) 1 1] λX20=>UB jn Q e0 (X20==0)))):=by kernel_rfl
theorem Am8:Au jn PR Av Tryz.f363 [.p e0,.s key1] Q=(Aj (Option.isNone e0) (Q (.b false)) (Ad e0 λB1 O2=>Ba B1 O2 λX3=>Br B1 (O2+1) λX4=>Bw 370 [.agg #[.l X3.a X3.n X3.c,.p X4],.s key1] λX5=>Aj (X5==0) (Q (.b true)) (Q (.b (X5==1))))):=by kernel_rfl
theorem Am9:Au jn PR Av Tryz.f364 [.p e0] Q=(Aj (Option.isNone e0) (Q (.l none 0 0)) (Ad e0 λB1 O2=>Ba B1 O2 λX3=>Br B1 (O2+1) λX4=>A0 [.i 0,.i 1] 3 λB5=>F6 375 [.agg #[.l X3.a X3.n X3.c,.p X4],.l (some ⟨B5,0,none⟩) 2 2] λX6=>Q (.l X6.a X6.n X6.c))):=by kernel_rfl
theorem Ana:Au jn PR Av Tryz.f365 [.p e0] Q=(Aj (Option.isNone e0) (Q (.i 0)) (Ad e0 λB1 O2=>Ba B1 O2 λX3=>Br B1 (O2+1) λX4=>A0 [.i 0,.i 1] 3 λB5=>Bw 372 [.agg #[.l X3.a X3.n X3.c,.p X4],.l (some ⟨B5,0,none⟩) 2 2] λX6=>Q (.i X6))):=by kernel_rfl
theorem Anb:Au jn PR Auv Tryz.f366 [.p e0,.s key1] Q=(A3 λS=>Aj (Option.isNone e0) (An true S<|An true S<|Q (.b false)) (Dv 363 [.p e0,.s key1] λX1=>An true S<|Aj X1 (An true S<|Q (.b false)) (Ad e0 λB2 O3=>Eh S B2 (O3+2) λX4=>Bw 365 [.p e0] λX5=>An true S<|Aj (X5==X4) (Q (.b false)) (wz 371 [.p e0,.i 1,.s key1,.i 0]<|Q (.b true))))):=by kernel_rfl
theorem Anc:Au jn PR Av Tryz.f367 [.p e0,.s key1] Q=(Dv 363 [.p e0,.s key1] λX1=>Aj (!X1) (Q (.b false)) (wz 376 [.p e0,.s key1]<|Q (.b true))):=by kernel_rfl
theorem Ane:Au jn PR Av Tryz.f368 [.p e0] Q=(Aj (Option.isNone e0) (Q (.i 0)) (Ad e0 λB1 O2=>Ax B1 (O2+2) λX3=>Q (.i X3))):=by kernel_rfl
theorem Anf{row1:Int}{count3:Int}:Au jn PR Av Tryz.f371 [.p e0,.i row1,.s key2,.i count3] Q=(Ad e0 λB1 O2=>Ba B1 O2 λX3=>Br B1 (O2+1) λX4=>wz 378 [.agg #[.l X3.a X3.n X3.c,.p X4],.i row1,.s key2]<|Ad e0 λB5 O6=>Br B5 (O6+5) λX7=>Dv 161 [.p X7,.s key2,.i count3] λX8=>Q (.tuple #[])):=by kernel_rfl
theorem M4:SF jn Q m1 (us 4 ((.s key4)::us 59 []))=(Q (.tuple #[.s key4,.b true])):=by kernel_rfl
theorem M6{m2:Nat}:OD jn Q m1 (m2+1) e0 key4=(A3 λS=>Ad e0 λB21 O22=>Fx S B21 O22 λX23=>EO S B21 (O22+1) λX24=>Ad e0 λB25 O26=>Eh S B25 (O26+4) λX27=>A0 [.i 2] 3 λB28=>An true S<|Bw 372 [.agg #[.l X23.a X23.n X23.c,.p X24],.l (some ⟨B28,0,none⟩) 1 1] λX29=>An true S<|Aj (decide (X29>X27)) (A3 λS=>Ad e0 λB30 O31=>Fx S B30 O31 λX32=>EO S B30 (O31+1) λX33=>Ad e0 λB34 O35=>Ba B34 O35 λX36=>Br B34 (O35+1) λX37=>An true S<|TC 379 [.agg #[.l X36.a X36.n X36.c,.p X37],.i 2] λX38=>
 An true S<|wz 380 [.agg #[.l X32.a X32.n X32.c,.p X33],.s X38]<|OD jn Q m1 m2 e0 key4) (Auz jn Q m1 key4)):=by kernel_rfl
theorem XF:SG jn Q (us 64 [])=(Q (.tuple #[.s Ae,.b false])):=by kernel_rfl
theorem M5:OC jn Q (m1+1) e0=(Ad e0 λB1 O2=>Ba B1 O2 λX3=>Br B1 (O2+1) λX4=>A0 [.i 0] 3 λB5=>Bw 372 [.agg #[.l X3.a X3.n X3.c,.p X4],.l (some ⟨B5,0,none⟩) 1 1] λX6=>Aj (decide (X6>0)) (Ad e0 λB7 O8=>Ba B7 O8 λX9=>Br B7 (O8+1) λX10=>TC 379 [.agg #[.l X9.a X9.n X9.c,.p X10],.i 0] λX11=>Ad e0 λB12 O13=>Br B12 (O13+5) λX14=>F7 192 [.p X14,.s X11] λX15 X16=>Aj (decide (X15>1)) (wz 371 [.p e0,.i 1,.s X11,.i 0]<|
 OC jn Q m1 e0) (wz 376 [.p e0,.s X11]<|Ad e0 λB17 O18=>Ba B17 O18 λX19=>Br B17 (O18+1) λX20=>wz 378 [.agg #[.l X19.a X19.n X19.c,.p X20],.i 2,.s X11]<|D2 λm=>OD jn Q m1 m e0 X11)) (Au0 jn Q)):=by kernel_rfl
theorem Ani:Au jn PR Gp Tryz.f373 [.p e0] Q=(D2 λm=>OC jn Q m e0):=by kernel_rfl
theorem XG:OE jn Q (m1+1) e0=(Ad e0 λB1 O2=>Ba B1 O2 λX3=>Br B1 (O2+1) λX4=>TC 379 [.agg #[.l X3.a X3.n X3.c,.p X4],.i 1] λX5=>Ad e0 λB6 O7=>Br B6 (O7+5) λX8=>F7 192 [.p X8,.s X5] λX9 X10=>Aj (X9==0) (wz 376 [.p e0,.s X5]<|Q (.s X5)) (wz 371 [.p e0,.i 1,.s X5,.i (IntKind.wrap .i64 (X9-1))]<|OE jn Q m1 e0)):=by kernel_rfl
theorem Anj:Au jn PR Ade Tryz.f374 [.p e0] Q=(D2 λm=>OE jn Q m e0):=by kernel_rfl
theorem Ank:Au jn PR Av Tryz.f376 [.p e0,.s key1] Q=(Ad e0 λB1 O2=>Ba B1 O2 λX3=>Br B1 (O2+1) λX4=>wz 380 [.agg #[.l X3.a X3.n X3.c,.p X4],.s key1]<|Ad e0 λB5 O6=>Br B5 (O6+5) λX7=>F7 159 [.p X7,.s key1] λX8 X9=>Q (.tuple #[])):=by kernel_rfl
end Go.Proofs.YtjipofkjmmpjdaaGreat
namespace Go.Hb
section
variable{W0 w:World}{L M:List HP}{b:Nat}
theorem Ab6{c cap s r s' r':Nat}{B B':Array Value}(h:Ab W0 w (F8 c (.chan cap B false s r false)::M)):Ab W0 (w.setChan c cap B' false s' r' false) (F8 c (.chan cap B' false s' r' false)::M):=by
 have hb:=h.objC;have hlt:c<w.heap.size:=(Array.getElem?_eq_some_iff.1 hb).1;refine h.swapC rfl rfl ?_ (λx y hx hy=>?_)
 ·simp[World.setChan,hlt]
 ·simp only[World.setChan];rw[Array.getElem?_setIfInBounds_ne (Ne.symm hx)];exact hy
end
end Go.Hb
namespace Go.Proofs.YtjipofkjmmpjdaaGreat
open Go.Conc Go.RowKit Go.Hb
set_option maxRecDepth 100000 in
theorem YC{b o:Nat}(w:World)(h:w.cell? ⟨b,o+4,none⟩=some (.bool true)):Calls PR 200 #[pq b o] w λe w'=>e = .returned (.bool true)/\w'=w:=by
 refine calls_of_loneTo λcs=>?_;have e:Frame.enter PR 200 #[pq b o] .normal=(base 200).at ⟨#[pq b o,undef,undef,undef,undef,undef,undef,undef,undef,undef,undef,undef,undef,undef,undef,undef,undef,undef,undef,undef,undef,undef,undef,undef,undef],[]⟩ [.code (Tryz.f200.body.getD .skip)]:=by
  simp[Frame.enter,Frame.at,Tryz.func200,base,Tryz.f200]
 rw[e];refine LoneTo.goes (n:=18) ?_;simp only[Tryz.f200,Option.getD_some]
 s_c stepG_seq
 s_reg
 s_op
 s_c stepG_region_end
 s_c stepG_seq
 s_c stepG_seq
 s_reg
 s_op
 s_op
 s_op
 s_op
 s_c stepG_region_end
 s_cond true
 s_c stepG_seq
 s_reg
 s_op
 s_c stepG_region_end
 s_c stepG_ret'
 s_stop
 refine LoneTo.done ⟨.returned (.bool true),_,rfl,⟨rfl,?_⟩,rfl,rfl,rfl,rfl,_,Tryz.func200,by simp[results,Tryz.f200,Frame.at]⟩;rfl
set_option maxRecDepth 100000 in
theorem To{b o c cap s r:Nat}{tm:Bool}(w:World)(h:w.cell? ⟨b,o+4,none⟩=some (.bool false))(h0:w.cell? ⟨b,o,none⟩=some (.chan (some c)))(hc:w.heap[c]? = some (.chan cap #[] false s r tm)):Calls PR 200 #[pq b o] w λe w'=>e = .returned (.bool false)/\w'=w:=by
 refine calls_of_loneTo λcs=>?_;have e:Frame.enter PR 200 #[pq b o] .normal=(base 200).at ⟨#[pq b o,undef,undef,undef,undef,undef,undef,undef,undef,undef,undef,undef,undef,undef,undef,undef,undef,undef,undef,undef,undef,undef,undef,undef,undef],[]⟩ [.code (Tryz.f200.body.getD .skip)]:=by
  simp[Frame.enter,Frame.at,Tryz.func200,base,Tryz.f200]
 rw[e];refine LoneTo.goes (n:=24) ?_;simp only[Tryz.f200,Option.getD_some]
 s_c stepG_seq
 s_reg
 s_op
 s_c stepG_region_end
 s_c stepG_seq
 s_c stepG_seq
 s_reg
 s_op
 s_op
 s_op
 s_op
 s_c stepG_region_end
 s_cond false
 s_c stepG_skip
 s_c stepG_seq
 s_c stepG_seq
 s_reg
 s_op
 s_op
 s_op
 s_op
 s_c stepG_region_end
 s_c stepG_seq
 s_reg
 s_stop
 refine LoneTo.step (step_lone_select_default (c:=c) (z:=(.agg #[.i 0,.string ⟨#[]⟩,.i 0])) (cap:=cap) (s:=s) (r:=r) (tm:=tm) (stepG_comm (cases:=#[rcase c (.agg #[.i 0,.string ⟨#[]⟩,.i 0])]) (blocking:=false) (shape:=.select) (w':=w) rfl rfl (by decide) (by simp[go_sem,execOp,rcase,Act.eval])) hc) ?_;rw[Frame.finish_at]
 walk_nrm
 refine LoneTo.goes (n:=18) ?_
 s_op
 s_op
 s_c stepG_region_end
 s_c stepG_block
 s_cond false
 s_c stepG_skip
 s_c stepG_inBlock
 s_c stepG_seq
 s_reg
 s_op
 s_op
 s_op
 s_op
 s_op
 s_c stepG_region_end
 s_c stepG_ret'
 s_stop
 refine LoneTo.done ⟨.returned (.bool false),_,rfl,⟨rfl,?_⟩,rfl,rfl,rfl,rfl,_,Tryz.func200,by simp[results,Tryz.f200,Frame.at]⟩;rfl
def A3y(cs:List Value)(o:Nat)(k:Int)(key:BA)(n:Int):List Value:=(((cs.set (o+1) (.i k)).set (o+1+1) (.string key)).set (o+1+1+1) (.i n)).set (o+4) (.bool true)
set_option maxRecDepth 100000 in
theorem Tp{W w:World}{L:List HP}{b o c cap s r:Nat}{k n:Int}{key:BA}{cs buf:List Value}(hl:o+5<=cs.length)(h:cs[o+4]? = some (.bool false))(h0:cs[o]? = some (.chan (some c)))
  (hs:Ab W w (F8 c (.chan cap (.agg #[.i k,.string key,.i n]::buf).toArray false s r false)::blk b cs::L)):Calls PR 200 #[pq b o] w λe w'=>e = .returned (.bool true)/\Ab W w' (F8 c (.chan cap buf.toArray false s (r+1) false)::blk b (A3y cs o k key n)::L):=by
 have hc:=hs.objC;have h:=(hs.cell (q:=1) rfl).trans h;have h0:=(hs.cell (q:=1) rfl).trans h0;have hs1:=Ab6 (s':=s) (r':=r+1) (B':=buf.toArray) hs;generalize hw1:w.setChan c cap buf.toArray false s (r+1) false=w1 at *;have a1:w1.cell? ⟨b,o+1,none⟩=some cs[o+1]:=(hs1.cell (q:=1) rfl).trans (List.getElem?_eq_getElem (by omega));have f1:=hs1.frozen (q:=1) (b:=b) (o:=o+1) rfl (by omega);have hs2:=hs1.set (q:=1) (b:=b) (o:=o+1) (v:=.i k) rfl;have a2:=(hs2.cell (q:=1) rfl).trans (List.getElem?_eq_getElem (show o+1+1<_ by simp;omega))
 have f2:=hs2.frozen (q:=1) (b:=b) (o:=o+1+1) rfl (by simp;omega);have hs3:=hs2.set (q:=1) (b:=b) (o:=o+1+1) (v:=.string key) rfl;have a3:=(hs3.cell (q:=1) rfl).trans (List.getElem?_eq_getElem (show o+1+2<_ by simp;omega))
 have f3:=hs3.frozen (q:=1) (b:=b) (o:=o+1+2) rfl (by simp;omega);have hs4:=hs3.set (q:=1) (b:=b) (o:=o+1+2) (v:=.i n) rfl;have a4:=(hs4.cell (q:=1) rfl).trans (List.getElem?_eq_getElem (show o+4<_ by simp;omega))
 have f4:=hs4.frozen (q:=1) (b:=b) (o:=o+4) rfl (by simp;omega);have hs5:=hs4.set (q:=1) (b:=b) (o:=o+4) (v:=.bool true) rfl;obtain⟨w5,hw5⟩:∃w5,(((w1.setCell ⟨b,o+1,none⟩ (.i k)).setCell ⟨b,o+1+1,none⟩ (.string key)).setCell ⟨b,o+1+2,none⟩ (.i n)).setCell ⟨b,o+4,none⟩ (.bool true)=w5:=⟨_,rfl⟩;rw[hw5] at hs5;have h4:w5.cell? ⟨b,o+4,none⟩=some (.bool true):=(hs5.cell (q:=1) (o:=o+4) rfl).trans (by rw[List.getElem?_set_self (by simp;omega)])
 have hx:(Value.agg #[.i k,.string key,.i n]::buf).toArray.extract 1 (Value.agg #[.i k,.string key,.i n]::buf).toArray.size=buf.toArray:=by simp
 refine calls_of_loneTo λcs_=>?_;have e:Frame.enter PR 200 #[pq b o] .normal=(base 200).at ⟨#[pq b o,undef,undef,undef,undef,undef,undef,undef,undef,undef,undef,undef,undef,undef,undef,undef,undef,undef,undef,undef,undef,undef,undef,undef,undef],[]⟩ [.code (Tryz.f200.body.getD .skip)]:=by
  simp[Frame.enter,Frame.at,Tryz.func200,base,Tryz.f200]
 rw[e];clear e;refine LoneTo.goes (n:=24) ?_;simp only[Tryz.f200,Option.getD_some]
 s_c stepG_seq
 s_reg
 s_op
 s_c stepG_region_end
 s_c stepG_seq
 s_c stepG_seq
 s_reg
 s_op
 s_op
 s_op
 s_op
 s_c stepG_region_end
 s_cond false
 s_c stepG_skip
 s_c stepG_seq
 s_c stepG_seq
 s_reg
 s_op
 s_op
 s_op
 s_op
 s_c stepG_region_end
 s_c stepG_seq
 s_reg
 s_stop
 refine LoneTo.step (step_lone_select_recv_buf (c:=c) (z:=(.agg #[.i 0,.string ⟨#[]⟩,.i 0])) (stepG_comm (cases:=#[rcase c (.agg #[.i 0,.string ⟨#[]⟩,.i 0])]) (blocking:=false) (shape:=.select) (w':=w) rfl rfl (by decide) (by simp[go_sem,execOp,rcase,Act.eval])) hc (by simp)) ?_;rw[Frame.finish_at,hx,hw1]
 walk_nrm
 refine LoneTo.goes (n:=34) ?_
 s_op
 s_op
 s_c stepG_region_end
 s_c stepG_block
 s_cond true
 s_c stepG_seq
 s_reg
 s_op
 s_op
 s_op
 s_op
 s_op
 s_c stepG_region_end
 s_reg
 s_op
 s_op
 s_op
 s_op
 clear hw5
 s_c stepG_region_end
 s_c stepG_inBlock
 s_c stepG_seq
 s_reg
 s_op
 s_op
 s_op
 s_op
 s_op
 s_c stepG_region_end
 s_c stepG_ret'
 s_stop
 have hs6:=hs5;simp only[List.set_cons_succ,List.set_cons_zero] at hs6;clear hs hs1 hs2 hs3 hs4 hs5 a1 a2 a3 a4 f1 f2 f3 f4 h4;refine LoneTo.done ⟨.returned (.bool true),_,rfl,⟨rfl,by unfold A3y;exact hs6⟩,rfl,rfl,rfl,rfl,_,Tryz.func200,?_⟩
 simp[results,Tryz.f200,Frame.at]
set_option maxRecDepth 100000 in
theorem QP{W w:World}{L:List HP}{b o c cap s r:Nat}{kd n:Int}{key:BA}{cs buf:List Value}(hl:10<cs.length)(h0:cs[o]? = some (.chan (some c)))(hn:cs[10]? = some (.i n))(hr:buf.length<cap)
  (hs:Ab W w (F8 c (.chan cap buf.toArray false s r false)::blk b cs::L)):Calls PR 122 #[pq b 0,pq b o,.i kd,.string key] w λe w'=>e = .returned (.bool true)/\Ab W w' (F8 c (.chan cap (buf++[Value.agg #[.i kd,.string key,.i n]]).toArray false (s+1) r false)::blk b (cs.set 10 (.i (IntKind.wrap .i64 (n+1))))::L):=by
 have hc:=hs.objC;have h0:=(hs.cell (q:=1) rfl).trans h0;have hn0:=(hs.cell (q:=1) rfl).trans hn;have hs1:=Ab6 (s':=s+1) (r':=r) (B':=(buf++[Value.agg #[.i kd,.string key,.i n]]).toArray) hs;have hp:buf.toArray.push (Value.agg #[.i kd,.string key,.i n])=(buf++[Value.agg #[.i kd,.string key,.i n]]).toArray:=by simp
 generalize hw1:w.setChan c cap (buf++[Value.agg #[.i kd,.string key,.i n]]).toArray false (s+1) r false=w1 at *;have a1:=(hs1.cell (q:=1) rfl).trans hn;have f1:=hs1.frozen (q:=1) (b:=b) (o:=10) rfl (by omega);have hs2:=hs1.set (q:=1) (b:=b) (o:=10) (v:=.i (IntKind.wrap .i64 (n+1))) rfl;refine calls_of_loneTo λcs_=>?_;have e:Frame.enter PR 122 #[pq b 0,pq b o,.i kd,.string key] .normal=(base 122).at ⟨#[pq b 0,pq b o,.i kd,.string key,undef,undef,undef,undef,undef,undef,undef,undef,undef,undef,undef,undef,undef,undef,undef,undef,undef,undef,undef,undef,undef,undef,undef,undef,undef,undef,undef],[]⟩ [.code (Tryz.f122.body.getD .skip)]:=by
  simp[Frame.enter,Frame.at,Tryz.func122,base,Tryz.f122]
 rw[e];clear e;refine LoneTo.goes (n:=24) ?_;simp only[Tryz.f122,Option.getD_some]
 s_c stepG_seq
 s_reg
 s_op
 s_c stepG_region_end
 s_c stepG_seq
 s_c stepG_seq
 s_reg
 s_op
 s_op
 s_op
 s_op
 s_c stepG_region_end
 s_reg
 s_op
 s_op
 s_op
 s_op
 s_op
 s_op
 s_op
 s_op
 s_c stepG_region_end
 s_c stepG_seq
 s_reg
 s_stop
 refine LoneTo.step (step_lone_select_send_room (c:=c) (v:=(Value.agg #[.i kd,.string key,.i n])) (z':=(.agg #[.i 0,.string ⟨#[]⟩,.i 0])) (stepG_comm (cases:=#[scase c (Value.agg #[.i kd,.string key,.i n]) (.agg #[.i 0,.string ⟨#[]⟩,.i 0])]) (blocking:=false) (shape:=.select) (w':=w) rfl rfl (by decide) (by simp[go_sem,execOp,scase,Act.eval])) hc (by simpa using hr)) ?_;rw[Frame.finish_at,hp,hw1]
 walk_nrm
 refine LoneTo.goes (n:=30) ?_
 s_op
 s_op
 s_c stepG_region_end
 s_c stepG_block
 s_cond true
 s_c stepG_seq
 s_reg
 s_op
 s_op
 s_op
 s_op
 s_op
 s_op
 s_op
 s_op
 s_c stepG_region_end
 s_c stepG_seq
 s_reg
 s_op
 s_c stepG_region_end
 s_c stepG_ret'
 s_stop
 refine LoneTo.done ⟨.returned (.bool true),_,rfl,⟨rfl,hs2⟩,rfl,rfl,rfl,rfl,_,Tryz.func122,?_⟩;simp[results,Tryz.f122,Frame.at]
set_option maxRecDepth 100000 in
theorem QO{W w:World}{L:List HP}{b o c cap s r:Nat}{kd n:Int}{key:BA}{cs buf:List Value}(h0:cs[o]? = some (.chan (some c)))(hn:cs[10]? = some (.i n))(hr:cap<=buf.length)
  (hs:Ab W w (F8 c (.chan cap buf.toArray false s r false)::blk b cs::L)):Calls PR 122 #[pq b 0,pq b o,.i kd,.string key] w λe w'=>e = .returned (.bool false)/\w'=w:=by
 have hc:=hs.objC;have h0:=(hs.cell (q:=1) rfl).trans h0;have hn0:=(hs.cell (q:=1) rfl).trans hn;refine calls_of_loneTo λcs_=>?_;have e:Frame.enter PR 122 #[pq b 0,pq b o,.i kd,.string key] .normal=(base 122).at ⟨#[pq b 0,pq b o,.i kd,.string key,undef,undef,undef,undef,undef,undef,undef,undef,undef,undef,undef,undef,undef,undef,undef,undef,undef,undef,undef,undef,undef,undef,undef,undef,undef,undef,undef],[]⟩ [.code (Tryz.f122.body.getD .skip)]:=by
  simp[Frame.enter,Frame.at,Tryz.func122,base,Tryz.f122]
 rw[e];clear e;refine LoneTo.goes (n:=24) ?_;simp only[Tryz.f122,Option.getD_some]
 s_c stepG_seq
 s_reg
 s_op
 s_c stepG_region_end
 s_c stepG_seq
 s_c stepG_seq
 s_reg
 s_op
 s_op
 s_op
 s_op
 s_c stepG_region_end
 s_reg
 s_op
 s_op
 s_op
 s_op
 s_op
 s_op
 s_op
 s_op
 s_c stepG_region_end
 s_c stepG_seq
 s_reg
 s_stop
 refine LoneTo.step (step_lone_select_send_full (c:=c) (v:=(Value.agg #[.i kd,.string key,.i n])) (z':=(.agg #[.i 0,.string ⟨#[]⟩,.i 0])) (stepG_comm (cases:=#[scase c (Value.agg #[.i kd,.string key,.i n]) (.agg #[.i 0,.string ⟨#[]⟩,.i 0])]) (blocking:=false) (shape:=.select) (w':=w) rfl rfl (by decide) (by simp[go_sem,execOp,scase,Act.eval])) hc (by simpa using hr)) ?_;rw[Frame.finish_at]
 walk_nrm
 refine LoneTo.goes (n:=30) ?_
 s_op
 s_op
 s_c stepG_region_end
 s_c stepG_block
 s_cond false
 s_c stepG_seq
 s_reg
 s_op
 s_c stepG_region_end
 s_c stepG_ret'
 s_stop
 refine LoneTo.done ⟨.returned (.bool false),_,rfl,⟨rfl,rfl⟩,rfl,rfl,rfl,rfl,_,Tryz.func122,?_⟩;simp[results,Tryz.f122,Frame.at]
end Go.Proofs.YtjipofkjmmpjdaaGreat
namespace Go.Hb
structure Pl(V:Type) where
 is_:Int
 key:BA
 v:V
instance {V:Type} [Inhabited V]:Inhabited (Pl V):=⟨⟨0,⟨#[]⟩,default⟩⟩
def Cr{V:Type}(RV:Rec V):Rec (Pl V):=⟨2+RV.sz,λp=>.i p.is_::.s p.key::RV.cells p.v,λp=>by simp[RV.len];omega⟩
instance {V:Type} {RV:Rec V}:GG (Cr RV):=⟨by show 0<2+_;omega⟩
section
variable{V:Type}[Inhabited V]
def Bs(ps:List (Pl V))(i:Nat):Int:=(ps.getD i default).is_
def Dx(ps:List (Pl V))(i:Nat):BA:=(ps.getD i default).key
def AC(ps:List (Pl V))(k:BA):Nat->Option Nat->Nat->Nat×Bool
 | 0,_,i=>(i,false)
 | f+1,free,i=>
  if Bs ps i=2/\Dx ps i=k then (i,true)
  else if Bs ps i=1/\free=none then AC ps k f (some i) ((i+1) % ps.length)
  else if Bs ps i=0 then (free.getD i,false)
  else AC ps k f free ((i+1) % ps.length)
def SR(ps:List (Pl V))(k:BA)(i:Nat):Prop:=Bs ps i=2/\Dx ps i=k
theorem DG(i e n:Nat):((i+1) % n+e) % n=(i+(e+1)) % n:=by
 rw[Nat.mod_add_mod];congr 1;omega
theorem J5(ps:List (Pl V))(k:BA):∀(f:Nat)(free:Option Nat)(i:Nat),i<ps.length->(AC ps k f free i).2=true->SR ps k (AC ps k f free i).1/\(AC ps k f free i).1<ps.length
 | 0,_,_,_,h=>by simp[AC] at h
 | f+1,free,i,hi,h=>by
  have hm:(i+1) % ps.length<ps.length:=Nat.mod_lt _ (by omega);unfold AC at h ⊢;split at h
  ·rename_i h1;rw[if_pos h1];exact⟨h1,hi⟩
  ·rename_i h1;rw[if_neg h1]
   split at h
   ·rename_i h2;rw[if_pos h2];exact J5 ps k f _ _ hm h
   ·rename_i h2;rw[if_neg h2]
    split at h
    ·simp at h
    ·rename_i h3;rw[if_neg h3];exact J5 ps k f _ _ hm h
theorem Ir(ps:List (Pl V))(k:BA):∀(f:Nat)(free:Option Nat)(i:Nat),i<ps.length->(∃e,e<f/\Bs ps ((i+e) % ps.length)=0)->(AC ps k f free i).2=false ->
  ∃d,Bs ps ((i+d) % ps.length)=0/\(∀e,e<d->Bs ps ((i+e) % ps.length)≠0/\¬SR ps k ((i+e) % ps.length)) /\
   (∀j,free=some j->(AC ps k f free i).1=j)/\(free=none->∃e,e<=d/\(AC ps k f free i).1=(i+e) % ps.length/\Bs ps ((i+e) % ps.length)≠2)
 | 0,_,_,_,⟨e,he,_⟩,_=>by omega
 | f+1,free,i,hi,⟨e,he,hz⟩,h=>by
  have hm:(i+1) % ps.length<ps.length:=Nat.mod_lt _ (by omega);have hi0:(i+0) % ps.length=i:=by rw[Nat.add_zero,Nat.mod_eq_of_lt hi]
  have next:Bs ps i≠0->∃e',e'<f/\Bs ps (((i+1) % ps.length+e') % ps.length)=0:=by
   intro hne;cases e with
   | zero=>rw[hi0] at hz;exact absurd hz hne
   | succ e=>exact⟨e,by omega,by rw[DG];exact hz⟩
  unfold AC at h ⊢;split at h
  ·simp at h
  rename_i h1;rw[if_neg h1];split at h
  ·rename_i h2;rw[if_pos h2];obtain⟨d,d1,d2,d3,d4⟩:=Ir ps k f (some i) _ hm (next (by rw[h2.1];decide)) h
   refine⟨d+1,by rw[DG] at d1;exact d1,λe he=>?_,λj hj=>(by rw[h2.2] at hj;cases hj),λ_=>?_⟩
   ·cases e with
    | zero=>rw[hi0];exact⟨by rw[h2.1];decide,h1⟩
    | succ e=>have:=d2 e (by omega);rw[DG] at this;exact this
   ·exact⟨0,by omega,by rw[hi0];exact d3 i rfl,by rw[hi0,h2.1];decide⟩
  ·rename_i h2;rw[if_neg h2];split at h
   ·rename_i h3;rw[if_pos h3];refine⟨0,by rw[hi0];exact h3,λe he=>by omega,λj hj=>by rw[hj];rfl,λhf=>⟨0,by omega,by rw[hf,hi0];rfl,by rw[hi0,h3];decide⟩⟩
   ·rename_i h3;rw[if_neg h3];obtain⟨d,d1,d2,d3,d4⟩:=Ir ps k f free _ hm (next h3) h;refine⟨d+1,by rw[DG] at d1;exact d1,λe he=>?_,d3,λhf=>?_⟩
    ·cases e with
     | zero=>rw[hi0];exact⟨h3,h1⟩
     | succ e=>have:=d2 e (by omega);rw[DG] at this;exact this
    ·obtain⟨e,e1,e2,e3⟩:=d4 hf;exact⟨e+1,by omega,by rw[e2,DG],by rw[DG] at e3;exact e3⟩
def En(p:Pl V):List (BA×V):=if p.is_=2 then [(p.key,p.v)] else []
theorem Ft{p:Pl V}(h:p.is_=2):En p=[(p.key,p.v)]:=if_pos h
theorem Hl{p:Pl V}(h:p.is_≠2):En p=[]:=if_neg h
def AP(ps:List (Pl V)):List (BA×V):=ps.flatMap En
theorem BB(a b:List (Pl V)):AP (a++b)=AP a++AP b:=by simp[AP]
theorem QC{α:Type}[Inhabited α]{l:List α}{i:Nat}(h:i<l.length):l=l.take i++l.getD i default::l.drop (i+1):=by
 rw[List.getD_eq_getElem?_getD,List.getElem?_eq_getElem h];simp
theorem L7{α:Type}{l:List α}{i:Nat}(h:i<l.length)(a:α):l.set i a=l.take i++a::l.drop (i+1):=by
 rw[List.set_eq_take_append_cons_drop,if_pos h]
theorem P8{ps:List (Pl V)}{i:Nat}(h:i<ps.length):(AP ps).Perm (En (ps.getD i default)++AP (ps.take i++ps.drop (i+1))):=by
 have:AP ps=AP (ps.take i)++(En (ps.getD i default)++AP (ps.drop (i+1))):=by
  conv=>lhs;rw[QC h]
  rw[BB];rfl
 rw[this,BB];rw[<- List.append_assoc,<- List.append_assoc];exact List.Perm.append_right _ List.perm_append_comm
theorem Lo{ps:List (Pl V)}{i:Nat}(h:i<ps.length)(p:Pl V):(AP (ps.set i p)).Perm (En p++AP (ps.take i++ps.drop (i+1))):=by
 have:AP (ps.set i p)=AP (ps.take i)++(En p++AP (ps.drop (i+1))):=by
  rw[L7 h,BB];rfl
 rw[this,BB];rw[<- List.append_assoc,<- List.append_assoc];exact List.Perm.append_right _ List.perm_append_comm
def A7(ps:List (Pl V)):Nat:=ps.countP λp=>decide (p.is_≠0)
theorem Bl{ps:List (Pl V)}{i:Nat}(h:i<ps.length)(p:Pl V)(hp:p.is_≠0):A7 (ps.set i p)=A7 ps+(if Bs ps i=0 then 1 else 0):=by
 have h1:A7 ps=A7 (ps.take i)+((if Bs ps i=0 then 0 else 1)+A7 (ps.drop (i+1))):=by
  conv=>lhs;rw[QC h]
  unfold A7 Bs;rw[List.countP_append,List.countP_cons]
  by_cases h0:(ps.getD i default).is_=0 <;> simp[h0] <;> omega
 have h2:A7 (ps.set i p)=A7 (ps.take i)+(1+A7 (ps.drop (i+1))):=by
  rw[L7 h];unfold A7;rw[List.countP_append,List.countP_cons];simp[hp];omega
 rw[h1,h2];split <;> omega
theorem Zc{ps:List (Pl V)}(h:A7 ps<ps.length):∃i,i<ps.length/\Bs ps i=0:=by
 unfold A7 at h
 induction ps with
 | nil=>simp at h
 | cons p ps ih=>
  by_cases hp:p.is_=0
  ·exact⟨0,by simp,hp⟩
  ·rw[List.countP_cons,if_pos (by simp[hp])] at h;simp only[List.length_cons] at h;obtain⟨i,hi,hz⟩:=ih (by omega);exact⟨i+1,by simpa using hi,hz⟩
theorem PF{ps:List (Pl V)}{i j:Nat}(h:i<ps.length)(p:Pl V):Bs (ps.set i p) j=if j=i then p.is_ else Bs ps j:=by
 unfold Bs;rw[List.getD_eq_getElem?_getD,List.getElem?_set,List.getD_eq_getElem?_getD]
 by_cases e:i=j
 ·subst e;simp[h]
 ·rw[if_neg e,if_neg (Ne.symm e)]
theorem SV{ps:List (Pl V)}{i j:Nat}(h:i<ps.length)(p:Pl V):Dx (ps.set i p) j=if j=i then p.key else Dx ps j:=by
 unfold Dx;rw[List.getD_eq_getElem?_getD,List.getElem?_set,List.getD_eq_getElem?_getD]
 by_cases e:i=j
 ·subst e;simp[h]
 ·rw[if_neg e,if_neg (Ne.symm e)]
structure BV(st:BA->Nat)(ps:List (Pl V))(m:List (BA×V)):Prop where
 big:8<=ps.length
 small:ps.length<4611686018427387904
 start:∀k,st k<ps.length
 perm:(AP ps).Perm m
 nodup:(m.map (·.1)).Nodup
 reach:∀i,i<ps.length->Bs ps i=2->∃e,i=(st (Dx ps i)+e) % ps.length/\∀e',e'<e->Bs ps ((st (Dx ps i)+e') % ps.length)≠0
 room:A7 ps<ps.length
section
variable{st:BA->Nat}{ps:List (Pl V)}{m:List (BA×V)}
theorem BV.stop(h:BV st ps m)(k:BA):∃e,e<ps.length/\Bs ps ((st k+e) % ps.length)=0:=by
 obtain⟨i,hi,hz⟩:=Zc h.room;have hs:=h.start k
 by_cases hle:st k<=i
 ·exact⟨i-st k,by omega,by rw[show st k+(i-st k)=i by omega,Nat.mod_eq_of_lt hi];exact hz⟩
 ·refine⟨i+ps.length-st k,by omega,?_⟩;rw[show st k+(i+ps.length-st k)=i+ps.length by omega,Nat.add_mod_right,Nat.mod_eq_of_lt hi];exact hz
def AI(st:BA->Nat)(ps:List (Pl V))(k:BA):Nat×Bool:=AC ps k ps.length none (st k)
theorem Ao1{i:Nat}(hi:i<ps.length)(h2:Bs ps i=2):(Dx ps i,(ps.getD i default).v)∈AP ps:=by
 refine(P8 hi).symm.subset ?_;have:En (ps.getD i default)=[(Dx ps i,(ps.getD i default).v)]:=Ft h2;rw[this];simp
theorem An5{e:BA×V}(h:e∈AP ps):∃i,i<ps.length/\Bs ps i=2/\Dx ps i=e.1/\(ps.getD i default).v=e.2:=by
 unfold AP at h;rw[List.mem_flatMap] at h;obtain⟨p,hp,he⟩:=h;obtain⟨i,hi,rfl⟩:=List.mem_iff_getElem.1 hp;unfold En at he;split at he
 ·rename_i h2;simp only[List.mem_singleton] at he;have hg:ps.getD i default=ps[i]:=by rw[List.getD_eq_getElem?_getD,List.getElem?_eq_getElem hi];rfl
  refine⟨i,hi,by unfold Bs;rw[hg];exact h2,by unfold Dx;rw[hg,he],by rw[hg,he]⟩
 ·cases he
def AE(m:List (BA×V))(k:BA):Option V:=(m.find? λe=>decide (e.1=k)).map (·.2)
theorem Bz{k:BA}{v:V}(hn:(m.map (·.1)).Nodup):AE m k=some v↔(k,v)∈m:=by
 unfold AE
 induction m with
 | nil=>simp
 | cons e m ih=>
  simp only[List.map_cons,List.nodup_cons] at hn;rw[List.find?_cons]
  by_cases he:e.1=k
  ·subst he;simp only[decide_true,Option.map_some,Option.some.injEq];constructor
   ·rintro rfl;simp
   ·intro h;rcases List.mem_cons.1 h with h|h
    ·exact(congrArg Prod.snd h).symm
    ·exact absurd (List.mem_map_of_mem (f:=(·.1)) h) hn.1
  ·simp only[he,decide_false];rw[ih hn.2];constructor
   ·exact λh=>List.mem_cons_of_mem _ h
   ·intro h;rcases List.mem_cons.1 h with h|h
    ·subst h;exact absurd rfl he
    ·exact h
theorem Bu{k:BA}:AE m k=none↔∀e∈m,e.1≠k:=by
 unfold AE;simp
theorem Agv{m':List (BA×V)}(hn:(m.map (·.1)).Nodup)(hp:m.Perm m')(k:BA):AE m k=AE m' k:=by
 have hn':(m'.map (·.1)).Nodup:=(hp.map _).nodup_iff.1 hn;cases h:AE m k with
 | some v=>exact((Bz hn').2 (hp.subset ((Bz hn).1 h))).symm
 | none=>exact(Bu.2 λe he=>Bu.1 h e (hp.symm.subset he)).symm
theorem BV.hit(h:BV st ps m){k:BA}(hf:(AI st ps k).2=true):(AI st ps k).1<ps.length/\SR ps k (AI st ps k).1/\AE m k=some (ps.getD (AI st ps k).1 default).v:=by
 obtain⟨h1,h2⟩:=J5 ps k ps.length none (st k) (h.start k) hf;refine⟨h2,h1,(Bz h.nodup).2 ?_⟩;have:=Ao1 (i:=(AI st ps k).1) h2 h1.1;rw[show Dx ps (AI st ps k).1=k from h1.2] at this;exact h.perm.subset this
theorem BV.miss(h:BV st ps m){k:BA}(hf:(AI st ps k).2=false):(AI st ps k).1<ps.length/\Bs ps (AI st ps k).1≠2/\AE m k=none /\
  ∃e,(AI st ps k).1=(st k+e) % ps.length/\∀e',e'<e->Bs ps ((st k+e') % ps.length)≠0:=by
 obtain⟨d,d1,d2,_,d4⟩:=Ir ps k ps.length none (st k) (h.start k) (h.stop k) hf;obtain⟨e,e1,e2,e3⟩:=d4 rfl;have hp:0<ps.length:=by have:=h.big;omega
 have hfe:(AI st ps k).1=(st k+e) % ps.length:=e2;refine⟨by rw[hfe];exact Nat.mod_lt _ hp,by rw[hfe];exact e3,?_,e,hfe,λe' he'=>(d2 e' (by omega)).1⟩
 rw[Bu];intro x hx hk;obtain⟨i,hi,i2,ik,_⟩:=An5 (h.perm.symm.subset hx);obtain⟨a,a1,a2⟩:=h.reach i hi i2;rw[ik,hk] at a1 a2
 by_cases hda:d<a
 ·exact a2 d hda d1
 ·by_cases hde:d=a
  ·subst hde;rw[<- a1,i2] at d1;cases d1
  ·have:=(d2 a (by omega)).2;rw[<- a1] at this;exact this ⟨i2,by rw[ik,hk]⟩
def E5(m:List (BA×V))(k:BA)(v:V):List (BA×V):=m.map λe=>if e.1=k then (k,v) else e
def BJ(m:List (BA×V))(k:BA):List (BA×V):=m.filter λe=>decide (e.1≠k)
def Cj(m:List (BA×V))(k:BA)(v:V):List (BA×V):=match AE m k with
 | some _=>E5 m k v
 | none=>(k,v)::m
theorem Lz(m:List (BA×V))(k:BA)(v:V):(E5 m k v).map (·.1)=m.map (·.1):=by
 unfold E5;rw[List.map_map];apply List.map_congr_left;intro e _;simp only[Function.comp];split
 ·rename_i h;exact h.symm
 ·rfl
theorem YE{j:Nat}{k:BA}(hj:j<ps.length)(hit:SR ps k j)(hp:(AP ps).Perm m):((k,(ps.getD j default).v)::AP (ps.take j++ps.drop (j+1))).Perm m:=by
 have h1:=(P8 hj).symm.trans hp;have:En (ps.getD j default)=[(k,(ps.getD j default).v)]:=by rw[<- hit.2];exact Ft hit.1
 rw[this] at h1;exact h1
theorem BV.set(h:BV st ps m){k:BA}{v:V}{j:Nat}(hj:j<ps.length)(hit:SR ps k j):BV st (ps.set j { ps.getD j default with v:=v }) (E5 m k v):=by
 have h0:=YE hj hit h.perm;have hn:=(h0.map (·.1)).nodup_iff.2 h.nodup;simp only[List.map_cons,List.nodup_cons] at hn;have hset:(AP (ps.set j { ps.getD j default with v:=v })).Perm ((k,v)::AP (ps.take j++ps.drop (j+1))):=by
  have:=Lo hj { ps.getD j default with v:=v };have e:En { ps.getD j default with v:=v }=[(k,v)]:=by rw[<- hit.2];exact Ft (p:={ ps.getD j default with v:=v }) hit.1
  rw[e] at this;exact this
 have hm:(E5 m k v).Perm ((k,v)::AP (ps.take j++ps.drop (j+1))):=by
  have h1:(E5 m k v).Perm (E5 ((k,(ps.getD j default).v)::AP (ps.take j++ps.drop (j+1))) k v):=(h0.map _).symm;refine h1.trans ?_;unfold E5;rw[List.map_cons,if_pos rfl];rw[List.map_congr_left (g:=id) (λe he=>?_),List.map_id];rw[if_neg];rfl
  intro hk;exact hn.1 (by rw[<- hk];exact List.mem_map_of_mem he)
 have hi:∀x,Bs (ps.set j { ps.getD j default with v:=v }) x=Bs ps x:=by
  intro x;rw[PF hj];split
  ·rename_i e;subst e;rfl
  ·rfl
 have hk:∀x,Dx (ps.set j { ps.getD j default with v:=v }) x=Dx ps x:=by
  intro x;rw[SV hj];split
  ·rename_i e;subst e;rfl
  ·rfl
 refine⟨by rw[List.length_set];exact h.big,by rw[List.length_set];exact h.small,by rw[List.length_set];exact h.start,hset.trans hm.symm,by rw[Lz];exact h.nodup,?_,?_⟩
 ·intro i hil h2;rw[List.length_set] at hil ⊢;rw[hi] at h2;simp only[hi,hk];exact h.reach i hil h2
 ·rw[Bl hj _ (by show Bs ps j≠0;rw[hit.1];decide),List.length_set,if_neg (by rw[hit.1];decide)];exact h.room
theorem Tw{p:Pl V}{j:Nat}(h:BV st ps m)(hj:j<ps.length)(hp:p.is_≠0)(hnew:p.is_=2->∃e,j=(st p.key+e) % ps.length/\∀e',e'<e->Bs ps ((st p.key+e') % ps.length)≠0) :
  ∀i,i<(ps.set j p).length->Bs (ps.set j p) i=2->∃e,i=(st (Dx (ps.set j p) i)+e) % (ps.set j p).length/\∀e',e'<e->Bs (ps.set j p) ((st (Dx (ps.set j p) i)+e') % (ps.set j p).length)≠0:=by
 intro i hi h2;rw[List.length_set] at hi ⊢;have mono:∀x,Bs ps x≠0->Bs (ps.set j p) x≠0:=by
  intro x hx;rw[PF hj];split
  ·exact hp
  ·exact hx
 rw[PF hj] at h2;rw[SV hj]
 by_cases e:i=j
 ·subst e;rw[if_pos rfl] at h2 ⊢;obtain⟨e,e1,e2⟩:=hnew h2;exact⟨e,e1,λe' he'=>mono _ (e2 e' he')⟩
 ·rw[if_neg e] at h2 ⊢;obtain⟨e,e1,e2⟩:=h.reach i hi h2;exact⟨e,e1,λe' he'=>mono _ (e2 e' he')⟩
theorem BV.add(h:BV st ps m){k:BA}{v:V}{j:Nat}(hj:j<ps.length)(h2:Bs ps j≠2)(hno:AE m k=none)
  (hr:∃e,j=(st k+e) % ps.length/\∀e',e'<e->Bs ps ((st k+e') % ps.length)≠0) (hroom:A7 ps+1<ps.length):BV st (ps.set j ⟨2,k,v⟩) ((k,v)::m):=by
 have hfull:(AP (ps.set j ⟨2,k,v⟩)).Perm ((k,v)::m):=by
  have h1:=Lo hj (⟨2,k,v⟩:Pl V);have h3:=(P8 hj).symm.trans h.perm;have e1:En (⟨2,k,v⟩:Pl V)=[(k,v)]:=rfl;have e2:En (ps.getD j default)=[]:=Hl h2;rw[e1] at h1;rw[e2,List.nil_append] at h3;exact h1.trans (List.Perm.cons _ h3)
 refine⟨by rw[List.length_set];exact h.big,by rw[List.length_set];exact h.small,by rw[List.length_set];exact h.start,hfull,?_,Tw h hj (by show(2:Int)≠0;decide) (λ_=>hr),?_⟩
 ·rw[List.map_cons,List.nodup_cons];refine⟨λhm=>?_,h.nodup⟩;rw[List.mem_map] at hm;obtain⟨e,he,hk⟩:=hm;exact Bu.1 hno e he hk
 ·rw[Bl hj _ (by show(2:Int)≠0;decide),List.length_set];split <;> omega
theorem BV.del(h:BV st ps m){k:BA}{z:Pl V}{j:Nat}(hj:j<ps.length)(hit:SR ps k j)(hz:z.is_=1):BV st (ps.set j z) (BJ m k):=by
 have h0:=YE hj hit h.perm;have hn:=(h0.map (·.1)).nodup_iff.2 h.nodup;simp only[List.map_cons,List.nodup_cons] at hn;have hset:(AP (ps.set j z)).Perm (AP (ps.take j++ps.drop (j+1))):=by
  have:=Lo hj z;have e:En z=[]:=by unfold En;rw[if_neg (by rw[hz];decide)]
  rw[e] at this;exact this
 have hm:(BJ m k).Perm (AP (ps.take j++ps.drop (j+1))):=by
  have h1:(BJ m k).Perm (BJ ((k,(ps.getD j default).v)::AP (ps.take j++ps.drop (j+1))) k):=(h0.filter _).symm;refine h1.trans ?_;unfold BJ;rw[List.filter_cons_of_neg (by simp)];rw[List.filter_eq_self.2];intro e he;simp only[ne_eq,decide_not,Bool.not_eq_eq_eq_not,Bool.not_true,decide_eq_false_iff_not];intro hk;exact hn.1 (by rw[<- hk];exact List.mem_map_of_mem he)
 refine⟨by rw[List.length_set];exact h.big,by rw[List.length_set];exact h.small,by rw[List.length_set];exact h.start,hset.trans hm.symm,?_,Tw h hj (by rw[hz];decide) (λh2=>by rw[hz] at h2;cases h2),?_⟩
 ·exact(List.Nodup.sublist ((List.filter_sublist).map _) h.nodup)
 ·rw[Bl hj _ (by rw[hz];decide),List.length_set,if_neg (by rw[hit.1];decide)];exact h.room
theorem KD(hn:(m.map (·.1)).Nodup){k:BA}{v:V}(h:AE m k=some v):(BJ m k).length+1=m.length:=by
 have hm:=(Bz hn).1 h;obtain⟨a,b,rfl⟩:=List.append_of_mem hm;unfold BJ;simp only[List.map_append,List.map_cons] at hn;rw[List.nodup_append] at hn;simp only[List.nodup_cons] at hn;rw[List.filter_append,List.filter_cons_of_neg (by simp),List.filter_eq_self.2,List.filter_eq_self.2]
 ·simp;omega
 ·intro e he;simp only[ne_eq,decide_not,Bool.not_eq_eq_eq_not,Bool.not_true,decide_eq_false_iff_not];rintro rfl;exact hn.2.1.1 (List.mem_map_of_mem he)
 ·intro e he;simp only[ne_eq,decide_not,Bool.not_eq_eq_eq_not,Bool.not_true,decide_eq_false_iff_not];rintro rfl;exact hn.2.2 _ (List.mem_map_of_mem he) e.1 (by simp) rfl
theorem BV.new{n:Nat}{z:Pl V}(hz:z.is_=0)(h8:8<=n)(hn:n<4611686018427387904)(hst:∀k,st k<n):BV st (List.replicate n z) []:=by
 have hu:A7 (List.replicate n z)=0:=by
  unfold A7;rw[List.countP_eq_zero]
  intro a ha;rw[List.eq_of_mem_replicate ha];simp[hz]
 refine⟨by simpa using h8,by simpa using hn,by simpa using hst,?_,by simp,?_,by rw[hu];simp;omega⟩
 ·have:AP (List.replicate n z)=[]:=by
   unfold AP;rw[List.flatMap_eq_nil_iff]
   intro a ha;rw[List.eq_of_mem_replicate ha];unfold En;rw[if_neg (by rw[hz];decide)]
  rw[this]
 ·intro i hi h2;rw[List.length_replicate] at hi;unfold Bs at h2;rw[List.getD_eq_getElem?_getD,List.getElem?_eq_getElem (by simpa using hi)] at h2;simp only[List.getElem_replicate,Option.getD_some,hz] at h2;cases h2
end
end
end Go.Hb
namespace Go.Hb
def Abd(x0:Int):Int:=
 (bits .xor .u64 (IntKind.wrap .u64 ((bits .xor .u64 (IntKind.wrap .u64 ((bits .xor .u64 x0 (C7 .u64 x0 (30:Int)))*(13787848793156543929:Int))) (C7 .u64 (IntKind.wrap .u64 ((bits .xor .u64 x0 (C7 .u64 x0 (30:Int)))*(13787848793156543929:Int))) (27:Int)))*(10723151780598845931:Int))) (C7 .u64 (IntKind.wrap .u64 ((bits .xor .u64 (IntKind.wrap .u64 ((bits .xor .u64 x0 (C7 .u64 x0 (30:Int)))*(13787848793156543929:Int))) (C7 .u64 (IntKind.wrap .u64 ((bits .xor .u64 x0 (C7 .u64 x0 (30:Int)))*(13787848793156543929:Int))) (27:Int)))*(10723151780598845931:Int))) (31:Int)))
theorem Ad5(x:Int):0<=Abd x/\Abd x<=18446744073709551615:=by
 have h:(Lit.int .u64 (Abd x)).wf=true:=wf_bits _ _ _ _;generalize Abd x=n at h;simpa[Lit.wf,IntKind.min,IntKind.max,IntKind.signed,IntKind.bits] using h
def PD(s:BA):Nat->Nat->Int->Int
 | 0,_,h=>h
 | m+1,i,h=>PD s m (i+1) (Abd (IntKind.wrap .u64 ((bits .xor .u64 h (IntKind.wrap .u64 (AU s i)))+(11400714819323198485:Int))))
def Yo(seed:Int)(s:BA):Int:=PD s s.size 0 (Abd (bits .xor .u64 seed (IntKind.wrap .u64 (s.size:Int))))
noncomputable def EJ(seed:Int)(s:BA):Int:=Classical.choose (⟨Yo seed s,rfl⟩:∃x,x=Yo seed s)
theorem Yn(seed:Int)(s:BA):EJ seed s=Yo seed s:=Classical.choose_spec (⟨Yo seed s,rfl⟩:∃x,x=Yo seed s)
theorem SQ(s:BA):∀(m i:Nat)(h:Int),(0<=h/\h<=18446744073709551615)->0<=PD s m i h/\PD s m i h<=18446744073709551615
 | 0,_,_,h=>h
 | m+1,i,_,_=>SQ s m (i+1) _ (Ad5 _)
theorem FR(seed:Int)(s:BA):0<=EJ seed s/\EJ seed s<=18446744073709551615:=by
 rw[Yn];exact SQ s _ _ _ (Ad5 _)
noncomputable def Az(seed:Int)(n:Nat)(k:BA):Nat:=(EJ seed k).toNat % n
theorem Jc(seed:Int)(n:Nat)(k:BA):(EJ seed k).toNat % n=Az seed n k:=by unfold Az;rfl
theorem C9{seed:Int}{n:Nat}(h:0<n)(k:BA):Az seed n k<n:=Nat.mod_lt _ h
def Rec.ii:Rec (Int×Int):=⟨2,λv=>[.i v.1,.i v.2],λ_=>rfl⟩
def Rec.iii:Rec (Int×Int×Int):=⟨3,λv=>[.i v.1,.i v.2.1,.i v.2.2],λ_=>rfl⟩
def Rec.si:Rec (BA×Int):=⟨2,λv=>[.s v.1,.i v.2],λ_=>rfl⟩
def Ln:Option Nat->Int
 | some j=>(j:Int)
 | none=>-1
theorem Gr(f:Option Nat):Ln f<0↔f=none:=by
 cases f with
 | none=>simp[Ln]
 | some j=>simp[Ln]
section
variable{V:Type}[Inhabited V]
noncomputable def ixr(RV:Rec V)(b:Nat)(seed:Int)(m:List (BA×V)):HP:=
 JU λ(x:Sl×List (Pl V))=>ED (BV (Az seed x.2.length) x.2 m/\2*A7 x.2<=x.2.length)
  (AF [blk b [.int .u64 seed,.l x.1.a x.1.n x.1.c,.i (m.length:Int),.i (A7 x.2:Int)],recs (Cr RV) x.1 x.2])
variable{RV:Rec V}{b:Nat}{seed:Int}{m:List (BA×V)}{W w:World}{M L:List HP}
instance At.ixr:At (ixr RV b seed m::L) b (ixr RV b seed m) (λx=>x::L):=⟨DX⟩
theorem Cy(h:Ab W w (ixr RV b seed m::M)):∃(s:Sl) (ps:List (Pl V)),BV (Az seed ps.length) ps m/\2*A7 ps<=ps.length/\s.n=ps.length /\
  Ab W w (blk b [.int .u64 seed,.l s.a s.n s.c,.i (m.length:Int),.i (A7 ps:Int)]::recs (Cr RV) s ps::M):=by
 obtain⟨⟨s,ps⟩,h⟩:=h.openE;obtain⟨⟨h1,h2⟩,h⟩:=h.openA;have h:=h.openL;have h:Ab W w (blk b [.int .u64 seed,.l s.a s.n s.c,.i (m.length:Int),.i (A7 ps:Int)]::recs (Cr RV) s ps::M):=h;exact⟨s,ps,h1,h2,(Bx (s:=s) h (GG.pos)).1,h⟩
theorem AV(s:Sl){ps:List (Pl V)}{n u:Int}(h1:BV (Az seed ps.length) ps m)(h2:2*A7 ps<=ps.length)(hn:n=m.length)(hu:u=A7 ps)
  (h:Ab W w (blk b [.int .u64 seed,.l s.a s.n s.c,.i n,.i u]::recs (Cr RV) s ps::M)):Ab W w (ixr RV b seed m::M):=by
 subst hn hu;exact Ab.shutE (s,ps) (Ab.shutA ⟨h1,h2⟩ (Ab.shutL (Ps:=[_,_]) h))
theorem BV.perm'{st:BA->Nat}{ps:List (Pl V)}{m m':List (BA×V)}(h:BV st ps m)(hp:m.Perm m'):BV st ps m':=
 ⟨h.big,h.small,h.start,h.perm.trans hp,(hp.map _).nodup_iff.1 h.nodup,h.reach,h.room⟩
theorem Aoe{m':List (BA×V)}(hp:m.Perm m')(h:Ab W w (ixr RV b seed m::M)):Ab W w (ixr RV b seed m'::M):=by
 obtain⟨s,ps,h1,h2,_,h⟩:=Cy h;exact AV s (h1.perm' hp) h2 (by rw[hp.length_eq]) rfl h
theorem Agc(h:Ab W w (ixr RV b seed m::M)):(m.map (·.1)).Nodup:=by
 obtain⟨s,ps,h1,_⟩:=Cy h;exact h1.nodup
theorem DI{α:Type}(E:Rec α)(z:α):∀n,Da (E.cells z) n=E.flat (List.replicate n z)
 | 0=>rfl
 | n+1=>by rw[Da,DI E z n,List.replicate_succ];rfl
theorem VB{α:Type}[Inhabited α]{E:Rec α}{b o i n j:Nat}{s:Sl}{rows:List α}{F:HP->List HP}{vs pre mid tl:List Value}{a':α}{K:WP}(h:Ab W w L)[hA:At L b (reca E b o s rows) F](hn:n=E.sz)(hi:i<rows.length)
  (ha:E.cells (rows.getD i default)=pre++mid++tl) (hj:pre.length=j) (hm:mid.length=vs.length) (ha':E.cells a'=pre++vs++tl) (hK:∀w',Ab W w' (F (reca E b o s (rows.set i a')))->K w'):sts vs b (o+i*n+j) K w:=by
 subst hn hj;refine At.one (hA:=hA) h λM h hb=>?_;have hsa:s.a=some ⟨b,o,none⟩:=h.pure (q:=0) rfl λ_ hg=>hg.1;have h':=h.turn (q:=0) (p':=recs E s rows) rfl λ_ hg=>hg.2;obtain⟨pr,tl2,hp,hl,hn,ht,h2⟩:=h'.openS (q:=0) rfl hsa;have h2:Ab W w (blk b (pr++E.flat rows++tl2)::M):=h2;have hr:rows=rows.take i++rows.getD i default::rows.drop (i+1):=QC hi;have hfr:E.flat rows=E.flat (rows.take i)++(E.cells (rows.getD i default)++E.flat (rows.drop (i+1))):=by
  have h:=congrArg E.flat hr;rw[Rec.flat_append] at h;exact h
 have hfs:E.flat (rows.set i a')=E.flat (rows.take i)++(E.cells a'++E.flat (rows.drop (i+1))):=by
  rw[L7 hi,Rec.flat_append];rfl
 rw[hfr,ha] at h2;have e1:pr++(E.flat (rows.take i)++(pre++mid++tl++E.flat (rows.drop (i+1))))++tl2=(pr++E.flat (rows.take i)++pre)++mid++(tl++E.flat (rows.drop (i+1))++tl2):=by simp only[List.append_assoc]
 have e2:pr++(E.flat (rows.take i)++(pre++vs++tl++E.flat (rows.drop (i+1))))++tl2=(pr++E.flat (rows.take i)++pre)++vs++(tl++E.flat (rows.drop (i+1))++tl2):=by simp only[List.append_assoc]
 rw[e1] at h2;have hpl:(pr++E.flat (rows.take i)++pre).length=o+i*E.sz+pre.length:=by
  rw[List.length_append,List.length_append,hp,Rec.flat_length,List.length_take,Nat.min_eq_left (by omega)]
 rw[<- hpl];refine OS 0 vs w _ _ mid _ K h2 rfl hm λw' h3=>hK w' (hb _ _ ?_);have h3:Ab W w' (blk b ((pr++E.flat (rows.take i)++pre)++vs++(tl++E.flat (rows.drop (i+1))++tl2))::M):=h3;rw[<- e2,<- ha',<- hfs] at h3;have h4:=h3.shutS (q:=0) (s:=s) (sz:=E.sz) rfl hsa hp (by rw[Rec.flat_length,List.length_set,<- Rec.flat_length];exact hl) hn ht
 exact h4.turn (q:=0) rfl λ_ hg=>⟨hsa,hg⟩
end
end Go.Hb
namespace Go.Hb
open Go.Sort Go.Proofs
section
variable{W0 w w':World}{L M:List HP}{F:HP->List HP}{b:Nat}
theorem Ab.write{cs cs':List Value}(h:Ab W0 w (blk b cs::M))(ho:w'.os=w.os)(hu:w'.output=w.output)(hoth:∀x o,x≠b->w.heap[x]? = some o->w'.heap[x]? = some o)
  (hb:∀T fr,w.heap[b]? = some (.cells cs.toArray T fr)->w'.heap[b]? = some (.cells cs'.toArray T fr)) (hl:cs'.length=cs.length):Ab W0 w' (blk b cs'::M):=by
 obtain⟨h1,h2,ha,hb2,hc,⟨T,lo,hi,hd,hf⟩,he⟩:=h.st;have hwb:w.heap[b]? = some (.cells cs.toArray T (lo,hi)):=ha _ _ hd;have hnew:=hb _ _ hwb;refine⟨by rw[ho];exact h.os,by rw[hu];exact h.out,λx=>if x=b then some (.cells cs'.toArray T (lo,hi)) else none,h2,λx y hx=>?_,λx y hx=>?_,λx=>?_,⟨T,lo,hi,by simp,λi hi'=>hf i (by omega)⟩,he⟩
 ·simp only at hx;split at hx
  ·rename_i hxb;subst hxb;cases hx;exact hnew
  ·cases hx
 ·have hxb:x≠b:=by
   intro hxb;subst hxb
   rcases hc x with h'|h'
   ·rw[hd] at h';cases h'
   ·rw[hx] at h';cases h'
  exact hoth x y hxb (hb2 _ _ hx)
 ·simp only
  by_cases hxb:x=b
  ·subst hxb;rcases hc x with h'|h'
   ·rw[hd] at h';cases h'
   ·exact .inr h'
  ·left;rw[if_neg hxb]
def GO(k:BA):List UInt8:=k.data.toList
def txB(l:List UInt8):BA:=⟨l.toArray⟩
theorem Aen(k:BA):txB (GO k)=k:=by unfold txB GO;simp
theorem Ay5(l:List UInt8):GO (txB l)=l:=by unfold txB GO;simp
def EA(l:List BA):List BA:=((l.map GO).mergeSort λx y=>decide (x<=y)).map txB
theorem Aga(l:List (List UInt8)):Rec.str.flat (l.map txB)=l.map encStr:=by
 unfold Rec.flat Rec.str
 induction l with
 | nil=>rfl
 | cons x l ih=>simp only[List.map_cons,List.flatten_cons];rw[ih];rfl
theorem Axj{pre cs tl:List Value}{d:List (List UInt8)}(hl:d.length=cs.length):putCells encStr pre.length d.toArray (pre++cs++tl).toArray=(pre++d.map encStr++tl).toArray:=by
 unfold putCells;apply Array.ext_getElem?;intro i;simp only[Array.getElem?_mapIdx,List.getElem?_toArray,List.size_toArray]
 by_cases h1:i<pre.length
 ·rw[List.getElem?_append_left (by simp;omega),List.getElem?_append_left h1,List.getElem?_append_left (by simp;omega),List.getElem?_append_left h1,List.getElem?_eq_getElem h1];simp only[Option.map_some];rw[if_neg (by omega)]
 ·by_cases h2:i<pre.length+cs.length
  ·rw[List.getElem?_append_left (by simp;omega),List.getElem?_append_right (by omega),List.getElem?_append_left (by simp;omega),List.getElem?_append_right (by omega),List.getElem?_eq_getElem (by omega),List.getElem?_map,List.getElem?_eq_getElem (by omega)];simp only[Option.map_some];rw[if_pos (by omega),getElem!_pos _ _ (by simp;omega)]
   simp
  ·rw[List.getElem?_append_right (by simp;omega),List.getElem?_append_right (by simp;omega)];simp only[List.length_append,List.length_map,hl];cases tl[i-(pre.length+cs.length)]? with
   | none=>rfl
   | some v=>simp only[Option.map_some];rw[if_neg (by omega)]
theorem Ahq{P:Program}{f:FuncId}{s:Sl}{keys:List BA}
  (hC:∀(blk off cap:Nat)(ss:List (List UInt8))(w:World),Holds encStr w blk off ss.toArray->blk<w.heap.size->ss.length<4611686018427387904 ->
   Calls P f #[.l (some ⟨blk,off,none⟩) ss.length cap] w λe w'=>e = .returned (.tuple #[])/\∃n os,w'=grow (putRow encStr (Sort.ahead w n) blk off (ss.mergeSort λx y=>decide (x<=y)).toArray) os)
  (hN:∀(cap:Nat)(w:World),Calls P f #[.l none 0 cap] w λe w'=>e = .returned (.tuple #[])/\w'=w)
  (h:Ab W0 w L) [hA:Jl L s (recs Rec.str s keys) F] (hk:keys.length<4611686018427387904):Calls P f #[.l s.a s.n s.c] w λe w'=>e = .returned (.tuple #[])/\Ab W0 w' (F (recs Rec.str s (EA keys))):=by
 have hn:=(Bx (hA:=hA) h).1;refine Jl.one (hA:=hA) h λM h hb=>?_;obtain⟨g,_,⟨h1,h2⟩,h3⟩:=h.get (q:=0) rfl;have hsl:(EA keys).length=keys.length:=by simp[EA]
 rcases h3 with⟨ha,hn0,_⟩|⟨b,o,pre0,tl0,ha,_⟩
 ·have hk0:keys=[]:=List.length_eq_zero_iff.1 (by omega);subst hk0;rw[ha,hn0];exact(hN _ w).mono λe w' ⟨he,hw⟩=>⟨he,by subst hw;rw[show EA []=[] by simp[EA]];exact hb _ _ h⟩
 ·obtain⟨pre,tl,hp,hl,hsn,ht,h4⟩:=Ab.openS (q:=0) h rfl ha;subst hp;have h4:Ab W0 w (blk b (pre++Rec.str.flat keys++tl)::M):=h4;have hfl:(Rec.str.flat keys).length=keys.length:=by rw[Rec.flat_length];simp[Rec.str]
  have hblk:b<w.heap.size:=by
   obtain⟨g,hg,T,lo,hi,hb0,_⟩:=h4.get (q:=0) rfl;exact(Array.getElem?_eq_some_iff.1 (hg _ _ hb0)).1
  have hH:Holds encStr w b pre.length (keys.map GO).toArray:=by
   intro j hj;have hj:j<keys.length:=by simpa using hj
   refine⟨?_,h4.frozen (q:=0) rfl (by simp[hfl];omega)⟩;rw[h4.cell (q:=0) rfl,List.append_assoc,List.getElem?_append_right (by omega),List.getElem?_append_left (by rw[hfl];omega)]
   have:=Rec.flat_get (E:=Rec.str) (rows:=keys) (i:=j) (j:=0) (List.getElem?_eq_getElem hj) (by decide);have hj2:j*Rec.str.sz+0=j:=by show j*1+0=j;omega
   rw[hj2] at this;rw[Nat.add_sub_cancel_left,this,getElem!_pos _ _ (by simpa using hj)];simp only[List.getElem_toArray,List.getElem_map];show some (Value.string keys[j])=some (Value.string (txB (GO keys[j])));rw[Aen]
  rw[ha,hn,<- List.length_map (f:=GO)];refine(hC b pre.length s.c (keys.map GO) w hH hblk (by simpa using hk)).mono λe w' ⟨he,n,os,hw⟩=>⟨he,?_⟩;have hd:((keys.map GO).mergeSort λx y=>decide (x<=y)).length=(Rec.str.flat keys).length:=by simp[hfl]
  have h5:Ab W0 w' (blk b (pre++((keys.map GO).mergeSort λx y=>decide (x<=y)).map encStr++tl)::M):=by
   subst hw;refine Ab.write h4 rfl rfl (λx o hx ho=>?_) (λT fr hT=>?_) (by simp[hfl])
   ·unfold grow putRow mapBlock;simp only[Sort.ahead];have hlt:=(Array.getElem?_eq_some_iff.1 ho).1;rw[Array.getElem?_append_left (by simpa using hlt),Array.getElem?_modify,if_neg (Ne.symm hx)];exact ho
   ·unfold grow putRow mapBlock;simp only[Sort.ahead];rw[Array.getElem?_append_left (by simpa using hblk),Array.getElem?_modify,if_pos rfl,hT];simp only[Option.map_some,onCells];rw[Axj hd]
  rw[<- Aga] at h5;have h6:=h5.shutS (q:=0) (s:=s) (sz:=1) rfl ha rfl (by show(Rec.str.flat (EA keys)).length=_;rw[Rec.flat_length,hsl,hn];rfl) hsn ht
  exact hb _ _ h6
end
theorem Apu(a b:BA):sLt a b=decide (GO a<GO b):=by
 unfold sLt GO;rw[ByteArray.toList_eq,ByteArray.toList_eq,bytesLess_eq]
theorem Aeo{a b:BA}(h:GO a=GO b):a=b:=by
 rw[<- Aen a,<- Aen b,h]
def DP(l:List BA):Prop:=l.Pairwise λa b=>GO a<GO b
theorem DP.nodup{l:List BA}(h:DP l):l.Nodup:=by
 refine List.Pairwise.imp (λ{a b} hab=>?_) h;rintro rfl;exact absurd hab (List.lt_irrefl _)
theorem FZ:∀{l l':List BA},l.Pairwise (λa b=>GO a<=GO b)->l'.Pairwise (λa b=>GO a<=GO b)->l.Perm l'->l=l'
 | [],l',_,_,hp=>(List.nil_perm.1 hp).symm
 | a::l,[],_,_,hp=>absurd hp.symm (by simp)
 | a::l,b::l',h,h',hp=>by
  simp only[List.pairwise_cons] at h h';have hab:GO a=GO b:=by
   have h1:b∈a::l:=hp.symm.subset (by simp);have h2:a∈b::l':=hp.subset (by simp);have h3:GO a<=GO b:=by
    rcases List.mem_cons.1 h1 with rfl|h1
    ·exact List.le_refl _
    ·exact h.1 b h1
   have h4:GO b<=GO a:=by
    rcases List.mem_cons.1 h2 with rfl|h2
    ·exact List.le_refl _
    ·exact h'.1 a h2
   exact List.le_antisymm h3 h4
  have:=Aeo hab;subst this;rw[FZ h.2 h'.2 (List.Perm.cons_inv hp)]
theorem JO(l:List BA):(EA l).Perm l:=by
 unfold EA;have:=(List.mergeSort_perm (l.map GO) λx y=>decide (x<=y)).map txB;refine this.trans ?_;have e:(l.map GO).map txB=l:=by
  rw[List.map_map];conv=>rhs;rw[<- List.map_id l]
  exact List.map_congr_left λa _=>Aen a
 rw[e]
theorem HT(l:List BA):(EA l).Pairwise λa b=>GO a<=GO b:=by
 unfold EA;rw[List.pairwise_map];have:=List.pairwise_mergeSort (le:=λx y:List UInt8=>decide (x<=y)) (λa b c h1 h2=>by simp only[decide_eq_true_eq] at *;exact List.le_trans h1 h2) (λa b=>by simp only[Bool.or_eq_true,decide_eq_true_eq];exact List.le_total a b) (l.map GO)
 refine List.Pairwise.imp (λ{a b} h=>?_) this;rw[Ay5,Ay5];simpa using h
theorem DP.le{l:List BA}(h:DP l):l.Pairwise λa b=>GO a<=GO b:=List.Pairwise.imp (λ{a b} h=>List.le_of_lt h) h
theorem Ap3{l r:List BA}(hp:l.Perm r)(hr:DP r):EA l=r:=FZ (HT l) hr.le ((JO l).trans hp)
end Go.Hb
namespace Go.Hb
section
variable{V:Type}[Inhabited V]
def Rq:List (BA×V)->BA->Nat×Bool
 | [],_=>(0,false)
 | e::r,k=>if sLt e.1 k then ((Rq r k).1+1,(Rq r k).2) else (0,decide (e.1=k))
def BQ(m:List (BA×V)):Prop:=DP (m.map (·.1))
theorem BQ.nodup{m:List (BA×V)}(h:BQ m):(m.map (·.1)).Nodup:=DP.nodup h
theorem BQ.tail{e:BA×V}{m:List (BA×V)}(h:BQ (e::m)):BQ m:=by
 unfold BQ DP at h ⊢;simp only[List.map_cons,List.pairwise_cons] at h;exact h.2
theorem Ik:∀{m:List (BA×V)}{k:BA},(Rq m k).2=true->∃v,m[(Rq m k).1]? = some (k,v)
 | [],_,h=>by cases h
 | e::r,k,h=>by
  unfold Rq at h ⊢;split at h
  ·rename_i h1;rw[if_pos h1];obtain⟨v,hv⟩:=Ik h;exact⟨v,by simpa using hv⟩
  ·rename_i h1;rw[if_neg h1];simp only[decide_eq_true_eq] at h;exact⟨e.2,by simp[<- h]⟩
theorem Agu{a k:BA}(h1:sLt a k=false)(h2:a≠k):GO k<GO a:=by
 rw[Apu] at h1;have h3:GO k<=GO a:=by simpa using h1
 rcases List.le_iff_lt_or_eq.1 h3 with h|h
 ·exact h
 ·exact absurd (Aeo h).symm h2
theorem II:∀{m:List (BA×V)}{k:BA},BQ m->(Rq m k).2=false->(∀e∈m,e.1≠k)/\∀v,BQ (m.take (Rq m k).1++(k,v)::m.drop (Rq m k).1)
 | [],_,_,_=>⟨(λ_ h=>by cases h),λv=>by simp[BQ,DP,Rq]⟩
 | e::r,k,hr,h=>by
  unfold Rq at h ⊢;split at h
  ·rename_i h1;rw[if_pos h1];obtain⟨h2,h3⟩:=II hr.tail h;have hlt:GO e.1<GO k:=by rw[Apu] at h1;simpa using h1
   refine⟨λx hx=>?_,λv=>?_⟩
   ·rcases List.mem_cons.1 hx with rfl|hx
    ·intro he;rw[he] at hlt;exact absurd hlt (List.lt_irrefl _)
    ·exact h2 x hx
   ·have h4:=h3 v;unfold BQ DP at h4 hr ⊢;simp only[List.take_succ_cons,List.drop_succ_cons,List.cons_append,List.map_cons,List.pairwise_cons] at hr ⊢;refine⟨λx hx=>?_,h4⟩;simp only[List.map_append,List.map_cons,List.mem_append,List.mem_cons] at hx;rcases hx with hx|hx|hx
    ·exact hr.1 x (((List.take_sublist _ _).map _).subset hx)
    ·rw[hx];exact hlt
    ·exact hr.1 x (((List.drop_sublist _ _).map _).subset hx)
  ·rename_i h1;rw[if_neg h1];simp only[decide_eq_false_iff_not] at h;have hlt:=Agu (by simpa using h1) h;have hall:∀x∈(e::r).map (·.1),GO k<GO x:=by
    intro x hx;rw[List.map_cons,List.mem_cons] at hx;rcases hx with rfl|hx
    ·exact hlt
    ·unfold BQ DP at hr;simp only[List.map_cons,List.pairwise_cons] at hr;exact List.lt_trans hlt (hr.1 x hx)
   refine⟨λx hx he=>?_,λv=>?_⟩
   ·have:=hall x.1 (List.mem_map_of_mem hx);rw[he] at this;exact absurd this (List.lt_irrefl _)
   ·show BQ ((k,v)::e::r);unfold BQ DP at hr ⊢;rw[List.map_cons,List.pairwise_cons];exact⟨hall,hr⟩
theorem Ad4{m:List (BA×V)}{k:BA}(hr:BQ m):AE m k=if (Rq m k).2 then (m[(Rq m k).1]?).map (·.2) else none:=by
 cases h:(Rq m k).2 with
 | true=>
  obtain⟨v,hv⟩:=Ik h;rw[hv];exact(Bz hr.nodup).2 (List.mem_of_getElem? hv)
 | false=>exact Bu.2 (II hr h).1
theorem Vn{m:List (BA×V)}{i:Nat}{k:BA}{v u:V}(h:m[i]? = some (k,v)):(m.set i (k,u)).map (·.1)=m.map (·.1):=by
 obtain⟨hlt,hri⟩:=List.getElem?_eq_some_iff.1 h;rw[List.map_set];apply List.ext_getElem?;intro j;rw[List.getElem?_set];split
 ·rename_i h;subst h;simp[hlt,hri]
 ·rfl
theorem Apo{m:List (BA×V)}{i:Nat}{k:BA}{v u:V}(hr:BQ m)(h:m[i]? = some (k,v)):BQ (m.set i (k,u)):=by
 unfold BQ;rw[Vn h];exact hr
theorem YO{m:List (BA×V)}{i:Nat}{k:BA}{v u:V}(hn:(m.map (·.1)).Nodup)(h:m[i]? = some (k,v)):m.set i (k,u)=E5 m k u:=by
 obtain⟨hlt,hri⟩:=List.getElem?_eq_some_iff.1 h;unfold E5;apply List.ext_getElem?;intro j;rw[List.getElem?_set,List.getElem?_map]
 by_cases e:i=j
 ·subst e;simp[hlt,hri]
 ·rw[if_neg e];cases hj:m[j]? with
  | none=>rfl
  | some x=>
   simp only[Option.map_some];rw[if_neg];intro hk;obtain⟨hjl,hjx⟩:=List.getElem?_eq_some_iff.1 hj;have:(m.map (·.1))[i]? = (m.map (·.1))[j]?:=by simp[hlt,hjl,hri,hjx,hk]
   exact e ((List.getElem?_inj (by simpa using hlt) hn).1 this)
theorem GH{m:List (BA×V)}{i:Nat}{k:BA}{v:V}(hn:(m.map (·.1)).Nodup)(h:m[i]? = some (k,v)):m.eraseIdx i=BJ m k:=by
 obtain⟨hlt,hri⟩:=List.getElem?_eq_some_iff.1 h;have hs:m=m.take i++(k,v)::m.drop (i+1):=by rw[<- hri];simp
 rw[List.eraseIdx_eq_take_drop_succ];unfold BJ
 conv=>rhs;rw[hs]
 rw[hs] at hn;simp only[List.map_append,List.map_cons] at hn;rw[List.nodup_append] at hn;simp only[List.nodup_cons] at hn;rw[List.filter_append,List.filter_cons_of_neg (by simp),List.filter_eq_self.2,List.filter_eq_self.2]
 ·intro e he;simp only[ne_eq,decide_not,Bool.not_eq_eq_eq_not,Bool.not_true,decide_eq_false_iff_not];rintro rfl;exact hn.2.1.1 (List.mem_map_of_mem he)
 ·intro e he;simp only[ne_eq,decide_not,Bool.not_eq_eq_eq_not,Bool.not_true,decide_eq_false_iff_not];rintro rfl;exact hn.2.2 _ (List.mem_map_of_mem he) e.1 (by simp) rfl
def Ho(m:List (BA×V))(k:BA)(v:V):List (BA×V):=if (Rq m k).2 then m.set (Rq m k).1 (k,v) else m.take (Rq m k).1++(k,v)::m.drop (Rq m k).1
theorem Hp{m:List (BA×V)}{k:BA}{v:V}(hr:BQ m):BQ (Ho m k v):=by
 unfold Ho;split
 ·rename_i h;obtain⟨u,hu⟩:=Ik h;exact Apo hr hu
 ·rename_i h;exact(II hr (by simpa using h)).2 v
theorem IX{m:List (BA×V)}{k:BA}{v:V}(hr:BQ m):(Ho m k v).Perm (Cj m k v):=by
 unfold Ho Cj;cases h:(Rq m k).2 with
 | true=>
  obtain⟨u,hu⟩:=Ik h;have hg:AE m k=some u:=by rw[Ad4 hr,h,hu];rfl
  rw[hg];simp only[if_true];rw[YO hr.nodup hu]
 | false=>
  have hg:AE m k=none:=by rw[Ad4 hr,h];rfl
  rw[hg];simp only[Bool.false_eq_true,if_false];refine List.perm_middle.trans ?_;rw[List.take_append_drop]
def Ew(m:List (BA×V))(k:BA):List (BA×V):=if (Rq m k).2 then m.eraseIdx (Rq m k).1 else m
theorem Fk{m:List (BA×V)}{k:BA}(hr:BQ m):Ew m k=BJ m k:=by
 unfold Ew;split
 ·rename_i h;obtain⟨u,hu⟩:=Ik h;exact GH hr.nodup hu
 ·rename_i h;have:=(II hr (by simpa using h)).1;unfold BJ;rw[List.filter_eq_self.2];intro e he;simpa using this e he
theorem L5{m:List (BA×V)}{k:BA}(hr:BQ m):BQ (Ew m k):=by
 rw[Fk hr];unfold BQ DP BJ at *;exact List.Pairwise.sublist ((List.filter_sublist).map _) hr
theorem Tf{m m':List (BA×V)}{k:BA}(hp:m.Perm m'):(BJ m k).Perm (BJ m' k):=hp.filter _
theorem Tg{m:List (BA×V)}{k:BA}{v:V}{P:BA->Prop}(hm:∀e∈m,P e.1)(hk:P k):∀e∈Cj m k v,P e.1:=by
 unfold Cj;cases AE m k with
 | none=>
  intro e he;rcases List.mem_cons.1 he with rfl|he
  ·exact hk
  ·exact hm e he
 | some u=>
  intro e he;unfold E5 at he;rw[List.mem_map] at he;obtain⟨x,hx,rfl⟩:=he;split
  ·exact hk
  ·exact hm x hx
theorem I5{m:List (BA×V)}{k:BA}{P:BA->Prop}(hm:∀e∈m,P e.1):∀e∈BJ m k,P e.1:=λe he=>hm e (List.mem_filter.1 he).1
theorem Aw8(m:List (BA×V))(k:BA):(BJ m k).length<=m.length:=List.length_filter_le _ _
end
end Go.Hb
namespace Go.Hb
theorem SU{ls:List Lk}{h:Nat}{l:Lk}(hl:h<ls.length):Dp (ls.set h l)=upd (Dp ls) h (l.v,l.there):=by
 funext x;unfold Dp upd;rw[E2 hl];split <;> rfl
theorem PA{ls:List Lk}{l:Lk}(x:Nat):(ls++[l]).getD x default=if x=ls.length then l else ls.getD x default:=by
 rw[List.getD_eq_getElem?_getD,List.getD_eq_getElem?_getD];rcases Nat.lt_trichotomy x ls.length with h|h|h
 ·rw[List.getElem?_append_left h,if_neg (by omega)]
 ·subst h;rw[if_pos rfl,List.getElem?_append_right (by omega)];simp
 ·rw[List.getElem?_append_right (by omega),if_neg (by omega),List.getElem?_eq_none (by simp;omega),List.getElem?_eq_none (by omega)]
theorem Agd{ls:List Lk}{l:Lk}:Dp (ls++[l])=upd (Dp ls) ls.length (l.v,l.there):=by
 funext x;unfold Dp upd;rw[PA];split <;> rfl
theorem Apg{ls:List Lk}{h:Nat}{l:Lk}(hl:h<ls.length):DK (ls.set h l)=upd (DK ls) h l.next:=by
 funext x;unfold DK upd;rw[E2 hl];split <;> rfl
theorem Apm{ls:List Lk}{h:Nat}{l:Lk}(hl:h<ls.length):DL (ls.set h l)=upd (DL ls) h l.prev:=by
 funext x;unfold DL upd;rw[E2 hl];split <;> rfl
theorem A1z{ls:List Lk}{l:Lk}:DK (ls++[l])=upd (DK ls) ls.length l.next:=by
 funext x;unfold DK upd;rw[PA];split <;> rfl
theorem A14{ls:List Lk}{l:Lk}:DL (ls++[l])=upd (DL ls) ls.length l.prev:=by
 funext x;unfold DL upd;rw[PA];split <;> rfl
theorem D4.upd_out{nx pv:Nat->Nat}{ord:List Nat}{h a b:Nat}(hs:D4 nx pv ord)(hh:h∉0::ord):D4 (upd nx h a) (upd pv h b) ord:=by
 refine DU.mono hs (λx hx=>Bk ?_) (λy hy=>Bk ?_)
 ·rintro rfl;rw[show(0::(ord++[0]))=(0::ord)++[0] by simp,List.dropLast_concat] at hx;exact hh hx
 ·rintro rfl;simp only[List.tail_cons,List.mem_append,List.mem_singleton] at hy;rcases hy with hy|hy
  ·exact hh (List.mem_cons_of_mem _ hy)
  ·exact hh (by rw[hy];exact List.mem_cons_self)
def T9(cap:Nat)(free:List Nat):Nat:=free.getLastD cap
def GE(ls:List Lk)(free:List Nat)(v:Value):List Lk:=if free=[] then ls++[⟨v,0,0,true⟩] else ls.set (free.getLastD 0) ⟨v,0,0,true⟩
def Rf(ls:List Lk)(h p x:Nat):List Lk:=E9 (E8 (E8 (E9 ls h p) h x) p h) x h
def Gw(ls:List Lk)(h:Nat):List Lk:=E9 (E8 ls (DL ls h) (DK ls h)) (DK ls h) (DL ls h)
theorem Yw(ls:List Lk)(h p x:Nat):(Rf ls h p x).length=ls.length:=by simp[Rf,Cq,BK]
theorem Awz{ls:List Lk}{h p x:Nat}(hh:h<ls.length)(hp:p<ls.length)(hx:x<ls.length):DK (Rf ls h p x)=upd (upd (DK ls) h x) p h:=by
 unfold Rf;rw[JE (by rw[BK,BK,Cq];exact hx),JD (by rw[BK,Cq];exact hp),JD (by rw[Cq];exact hh),JE hh]
theorem Aw0{ls:List Lk}{h p x:Nat}(hh:h<ls.length)(hp:p<ls.length)(hx:x<ls.length):DL (Rf ls h p x)=upd (upd (DL ls) h p) x h:=by
 unfold Rf;rw[JI (by rw[BK,BK,Cq];exact hx),JH (by rw[BK,Cq];exact hp),JH (by rw[Cq];exact hh),JI hh]
theorem Agl{ls:List Lk}{h p x:Nat}(hh:h<ls.length)(hp:p<ls.length)(hx:x<ls.length):Dp (Rf ls h p x)=Dp ls:=by
 unfold Rf;rw[HF (by rw[BK,BK,Cq];exact hx),HE (by rw[BK,Cq];exact hp),HE (by rw[Cq];exact hh),HF hh]
theorem Tc(ls:List Lk)(h:Nat):(Gw ls h).length=ls.length:=by simp[Gw,Cq,BK]
theorem Aow{ls:List Lk}{h:Nat}(hp:DL ls h<ls.length)(hx:DK ls h<ls.length):DK (Gw ls h)=upd (DK ls) (DL ls h) (DK ls h):=by
 unfold Gw;rw[JE (by rw[BK];exact hx),JD hp]
theorem Aox{ls:List Lk}{h:Nat}(hp:DL ls h<ls.length)(hx:DK ls h<ls.length):DL (Gw ls h)=upd (DL ls) (DK ls h) (DL ls h):=by
 unfold Gw;rw[JI (by rw[BK];exact hx),JH hp]
theorem Aa4{ls:List Lk}{h:Nat}(hp:DL ls h<ls.length)(hx:DK ls h<ls.length):Dp (Gw ls h)=Dp ls:=by
 unfold Gw;rw[HF (by rw[BK];exact hx),HE hp]
end Go.Hb
