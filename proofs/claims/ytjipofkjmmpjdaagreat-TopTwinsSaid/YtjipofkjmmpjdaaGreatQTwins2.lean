import Derived.Sort.EncStr
import Derived.Sort.Grow
import Derived.Sort.Walk0
import Derived.Lib.Bytealg
import Derived.Conc.LoneSelect
import Derived.Test.YtjipofkjmmpjdaaGreatProg
import Derived.Test.YtjipofkjmmpjdaaGreatChecked
import Derived.KernelRfl
import Derived.Test.YtjipofkjmmpjdaaGreatQTwins1
set_option linter.unusedVariables false
set_option linter.unusedSimpArgs false
set_option linter.unnecessarySimpa false
set_option linter.unusedSectionVars false
set_option maxRecDepth 100000
open Go.Proofs.Tryz
open List (append_assoc tail_cons cons_append dropLast_concat nodup_append nodup_cons mem_cons mem_append flatten_cons)
open Go.IntKind (wrap)
open Int (tdiv tmod)
open Nat (le_refl add_mul)
open Option (isNone bind_some)
namespace Go.Hb
open Go.Sort Go.Proofs
def A7d(a:Array Value)(w:World)(R:Ending->World->Prop):Prop:=
 (∃c,a=#[.slice none 0 c]/\R (.returned<|.tuple #[]) w) \/
 ∃(b o c:Nat) (d:List (List UInt8)),a=#[.slice (some ⟨b,o,none⟩) d.length c]/\Holds encStr w b o d.toArray/\b<w.heap.size/\d.length<4611686018427387904/\R (.returned<|.tuple #[]) (putRow encStr w b o (d.mergeSort λx y=>decide<|x<=y).toArray)
def Awc(a:Array Value)(w:World)(R:Ending->World->Prop):Prop:=
 ∃b o,a=#[.pointer<|some ⟨b,o,none⟩]/\((w.cell? ⟨b,o+4,none⟩=some (.bool true)/\R (.returned<|.bool true) w) \/
  ∃c cap s r,w.cell? ⟨b,o+4,none⟩=some (.bool false)/\w.cell? ⟨b,o,none⟩=some (.chan<|some c) /\
   ((w.heap[c]? = some (.chan cap #[] false s r false)/\R (.returned<|.bool false) w) \/
   ∃(k n:Int) (key:BA) (buf:List Value) (cs:List Value) (T:TypeId) (lo hi:Nat),w.heap[c]? = some (.chan cap (.agg #[.int .i64 k,.string key,.int .i64 n]::buf).toArray false s r false) /\
    w.heap[b]? = some (.cells cs.toArray T (lo,hi))/\(∀i,i<cs.length->¬(lo<=i/\i<hi))/\o+5<=cs.length /\
    R (.returned<|.bool true) (((((w.setChan c cap buf.toArray false s (r+1) false).setCell ⟨b,o+1,none⟩<|.int .i64 k).setCell ⟨b,o+1+1,none⟩<|.string key).setCell ⟨b,o+1+2,none⟩<|.int .i64 n).setCell ⟨b,o+4,none⟩<|.bool true)))
def Ax5(a:Array Value)(w:World)(R:Ending->World->Prop):Prop:=
 ∃(b o:Nat) (kd n:Int) (key:BA) (c cap s r:Nat) (buf:List Value) (cs:List Value) (T:TypeId) (lo hi:Nat),a=#[.pointer<|some ⟨b,0,none⟩,.pointer<|some ⟨b,o,none⟩,.int .i64 kd,.string key] /\
  w.cell? ⟨b,o,none⟩=some (.chan<|some c)/\w.cell? ⟨b,10,none⟩=some (.int .i64 n)/\w.heap[c]? = some (.chan cap buf.toArray false s r false) /\
  w.heap[b]? = some (.cells cs.toArray T (lo,hi))/\(∀i,i<cs.length->¬(lo<=i/\i<hi)) /\
  ((cap<=buf.length/\R (.returned<|.bool false) w) \/
  (buf.length<cap/\R (.returned<|.bool true) ((w.setChan c cap (buf++[Value.agg #[.int .i64 kd,.string key,.int .i64 n]]).toArray false (s+1) r false).setCell ⟨b,10,none⟩<|.int .i64<|wrap .i64<|n+1)))
def Aj5:CI:=λP f a w R=>P=Tryz.prog/\(
 (f=157/\∃(s:BA) (c:Int),a=#[.string s,.int .u8 c]/\R (.returned<|.int .i64<|Lib.indexByte s.data.toList c.toNat.toUInt8) w) \/
 (f=112/\A7d a w R)\/(f=200/\Awc a w R)\/(f=122/\Ax5 a w R))
theorem GS:CLe Aj5 Aj5:=λP f a w R h=>by
 obtain⟨j,h⟩:=h;rcases h with⟨g,s,c,e,h⟩|⟨g,h⟩|⟨g,h⟩|⟨g,h⟩
 ·exact⟨_,_,h,λm d=>⟨j,.inl ⟨g,s,c,e,d⟩⟩⟩
 ·rcases h with⟨c,e,h⟩|⟨b,o,c,v,e,i,p,l,h⟩
  ·exact⟨_,_,h,λm d=>⟨j,.inr<|.inl ⟨g,.inl ⟨c,e,d⟩⟩⟩⟩
  ·exact⟨_,_,h,λm d=>⟨j,.inr<|.inl ⟨g,.inr ⟨b,o,c,v,e,i,p,l,d⟩⟩⟩⟩
 ·obtain⟨b,o,e,h⟩:=h;rcases h with⟨i,h⟩|⟨c,cap,s,r,i,p,h⟩
  ·exact⟨_,_,h,λm d=>⟨j,.inr<|.inr<|.inl ⟨g,b,o,e,.inl ⟨i,d⟩⟩⟩⟩
  ·rcases h with⟨l,h⟩|⟨k,n,key,buf,cs,T,lo,hi,l,t,u,q,h⟩
   ·exact⟨_,_,h,λm d=>⟨j,.inr<|.inr<|.inl ⟨g,b,o,e,.inr ⟨c,cap,s,r,i,p,.inl ⟨l,d⟩⟩⟩⟩⟩
   ·exact⟨_,_,h,λm d=>⟨j,.inr<|.inr<|.inl ⟨g,b,o,e,.inr ⟨c,cap,s,r,i,p,.inr ⟨k,n,key,buf,cs,T,lo,hi,l,t,u,q,d⟩⟩⟩⟩⟩
 ·obtain⟨b,o,kd,n,key,c,cap,s,r,buf,cs,T,lo,hi,e,i,p,l,t,u,h⟩:=h;rcases h with⟨q,h⟩|⟨q,h⟩
  ·exact⟨_,_,h,λm d=>⟨j,.inr<|.inr<|.inr ⟨g,b,o,kd,n,key,c,cap,s,r,buf,cs,T,lo,hi,e,i,p,l,t,u,.inl ⟨q,d⟩⟩⟩⟩
  ·exact⟨_,_,h,λm d=>⟨j,.inr<|.inr<|.inr ⟨g,b,o,kd,n,key,c,cap,s,r,buf,cs,T,lo,hi,e,i,p,l,t,u,.inr ⟨q,d⟩⟩⟩⟩
def Apq(P:Program)(f:FuncId)(kp:KP)(a:Func)(args:List Value):Prop:=
 (P=Tryz.prog/\f=75/\a=f75/\kp=⟨[(8,[0,1])],[(3,[0,2,3,5,6,8,9])]⟩/\∃x y:Int,args=[.int .i64 x,.int .i64 y]) \/
 (P=Tryz.prog/\f=246/\a=f246/\kp=⟨[(24,[0,1,16,26]),(40,[0,1,6])],[(14,[0,1,2,3,4,5,6,7,8,9,10,11,12,15,16,17,18,21,22,23,24,25,26]),(17,[0,1,2,3,4,5,6,7,8,11,12,13,14,17,18,19,20,21,22])]⟩/\∃(e:OA) (k:BA),args=[.pointer e,.string k])
def V0:VP:=⟨λP f kp a args=>P.follows .mixedOrders=true/\P.funcs[f]? = some a/\a.body.isSome=true/\(CW P kp (AC a)=true\/Apq P f kp a args),Aj5⟩
abbrev Ai:CI:=Ge V0
@[reducible] instance extV:Ext:=extOf Ai
theorem cw{P:Program}{f:FuncId}{a:Func}{kp:KP}{args:List Value}{Q:VW}{t:WP}{w:World}(b:Jm P f a)(c:Aw AU P kp a args Q=t)(h:t w)(hs:CW P kp (AC a)=true:=by kernel_rfl) :
  Ai P f args.toArray w λe w'=>∃v,e = .returned v/\Q v w':=EZ GS ⟨b.mixed,b.func,b.body,.inl hs⟩ (c ▸ h)
theorem cwD{P:Program}{f:FuncId}{a:Func}{kp:KP}{args:List Value}{Q:VW}{t:WP}{w:World}(b:Jm P f a)(c:Aw AU P kp a args Q=t)(h:t w)(hs:Apq P f kp a args) :
  Ai P f args.toArray w λe w'=>∃v,e = .returned v/\Q v w':=EZ GS ⟨b.mixed,b.func,b.body,.inr hs⟩ (c ▸ h)
theorem _root_.Go.Hb.Ai.mono{P:Program}{f:FuncId}{a:Array Value}{w:World}{R b:Ending->World->Prop}(h:Ai P f a w R)(hR:∀e w',R e w'->b e w'):Ai P f a w b:=Ge.mono h hR
theorem Re{p:WP}{l:List WP}{w:World}(h:p w):Gn (p::l) w:=h
end Go.Hb
namespace Go.Proofs.YtjipofkjmmpjdaaGreat
open Go.Hb
noncomputable abbrev PR:=Tryz.prog
abbrev Dj(S:World->Prop)(b o:Nat)(K:Int->WP):WP:=TK S (.int .i64) b o K
abbrev Fg(S:World->Prop)(b o:Nat)(K:Sl->WP):WP:=TK S .slc b o K
abbrev EK(S:World->Prop)(b o:Nat)(K:OA->WP):WP:=TK S .ptr b o K
abbrev wLs(S:World->Prop)(b o:Nat)(K:BA->WP):WP:=TK S .str b o K
abbrev wLu(S:World->Prop)(b o:Nat)(K:Int->WP):WP:=TK S (.int .u64) b o K
noncomputable abbrev Ey(f:FuncId)(a:List Value)(K:Bool->WP):WP:=call1 .bool PR f a K
noncomputable abbrev Bw(f:FuncId)(a:List Value)(K:Int->WP):WP:=call1 (.int .i64) PR f a K
noncomputable abbrev GW(f:FuncId)(a:List Value)(K:Sl->WP):WP:=call1 .slc PR f a K
noncomputable abbrev L1(f:FuncId)(a:List Value)(K:OA->WP):WP:=call1 .ptr PR f a K
noncomputable abbrev Wx(f:FuncId)(a:List Value)(K:BA->WP):WP:=call1 .str PR f a K
noncomputable abbrev wcu(f:FuncId)(a:List Value)(K:Int->WP):WP:=call1 (.int .u64) PR f a K
noncomputable abbrev Bbm(f:FuncId)(a:List Value)(K:Bool->Int->WP):WP:=GC .bool (.int .i64) PR f a K
noncomputable abbrev Bbn(f:FuncId)(a:List Value)(K:Bool->Sl->WP):WP:=GC .bool .slc PR f a K
noncomputable abbrev Gk(f:FuncId)(a:List Value)(K:Int->Bool->WP):WP:=GC (.int .i64) .bool PR f a K
noncomputable abbrev Ahr(f:FuncId)(a:List Value)(K:OA->Int->WP):WP:=GC .ptr (.int .i64) PR f a K
noncomputable abbrev Fv(f:FuncId)(a:List Value)(K:BA->Bool->WP):WP:=GC .str .bool PR f a K
abbrev Ix(b o:Nat)(K:Bool->WP):WP:=ld .bool b o K
abbrev A0(b o:Nat)(K:Int->WP):WP:=ld (.int .i64) b o K
abbrev Bb(b o:Nat)(K:Sl->WP):WP:=ld .slc b o K
abbrev Bo(b o:Nat)(K:OA->WP):WP:=ld .ptr b o K
abbrev Ci(b o:Nat)(K:BA->WP):WP:=ld .str b o K
abbrev DX(b o:Nat)(K:Int->WP):WP:=ld (.int .u64) b o K
noncomputable abbrev wz(f:FuncId)(a:List Value)(K:WP):WP:=HT PR f a K
noncomputable def bE(f:Func)(l:List Nat):Code:=W4 l (AC f)
def rE(f:Func)(Q:VW):EW:=Bg PR f Q
def cE(f:Func)(kp:KP)(a:Jn)(Q:VW)(l:List Nat)(X:EW)(Y:Nat->EW):EW:=AD PR kp a (bE f l) X Y (rE f Q)
def sE(f:Func)(kp:KP)(a:Jn)(Q:VW)(l:List Nat)(X:EW)(Y:Nat->EW):EW:=IV PR kp a (bE f l) X Y (rE f Q)
theorem mixed:PR.follows .mixedOrders=true:=by kernel_rfl
section
variable(jn:Jn)(Q:VW)
def Ba6:BA:=⟨#[50,113]⟩
def Dx:BA:=⟨#[95,45,46,47,58]⟩
def Ti:BA:=⟨#[97]⟩
def A56:BA:=⟨#[97,114,99]⟩
def Ae:BA:=⟨#[]⟩
def Axj:BA:=⟨#[108,105,114,115]⟩
def Ahe:BA:=⟨#[115,51,102,105,102,111]⟩
def Ady:BA:=⟨#[116,105,110,121,108,102,117]⟩
def Tj:BA:=⟨#[120]⟩
def V2:KP:=⟨[(7,[0,3]),(10,[0,3]),(14,[])],[]⟩
def Au0:EW:=sE f9 V2 jn Q [1,1] (rE f9 Q) A8
def Bb8(m1:Nat):EW:=JG PR V2 jn (bE f9 [1,0,1,0,0]) (AA 0 (Au0 jn Q) A8) (rE f9 Q) m1
def Aje(m1:Nat):EW:=cE f9 V2 jn Q [1,0,1,0,0,1] (Bb8 jn Q m1) (AA 0 (Au0 jn Q) A8)
def Bb9(m1:Nat)(b:Sl)(d:Int):WP:=jn 10 (Aje jn Q m1) ((.l b.a b.n b.c)::us 2 ((.i d)::us 26 []))
def Ajf:EW:=cE f9 V2 jn Q [1,1] (rE f9 Q) A8
def A6z:WP:=jn 14 (Ajf jn Q) (us 30 [])
def Ajg(m1:Nat)(b:Sl)(d:Int):WP:=Dl PR V2 jn (bE f9 [1,0,1,0,0]) (AA 0 (Au0 jn Q) A8) (rE f9 Q) m1 ((.l b.a b.n b.c)::us 2 ((.i d)::us 26 []))
def Aca:KP:=⟨[],[]⟩
def Aqs:KP:=⟨[(10,[1])],[]⟩
def Zx:EW:=cE f12 Aqs jn Q [1,1,1] (rE f12 Q) A8
def A8e(c1:OA):WP:=jn 10 (Zx jn Q) (us 1 ((.p c1)::us 31 []))
def WY:KP:=⟨[(12,[0,3,4,5,24]),(14,[0,3,4,5])],[(6,[0,1,2,3,4])]⟩
def A8f:EW:=sE f15 WY jn Q [1,1,1,1] (rE f15 Q) A8
def ZC:EW:=cE f15 WY jn Q [1,1,1,1] (rE f15 Q) A8
def A8g(c0:OA)(c d e f a b:Nat):WP:=jn 14 (ZC jn Q) ((.p c0)::us 2 ((pq c d)::(pq e f)::(pq a b)::us 27 []))
def ZB:EW:=cE f15 WY jn Q [1,1,1,0,1] (A8f jn Q) A8
def EN(c0:OA)(d e f g a c:Nat)(h:Bool):WP:=jn 12 (ZB jn Q) ((.p c0)::us 2 ((pq d e)::(pq f g)::(pq a c)::us 18 ((.b h)::us 8 [])))
def MW:KP:=⟨[(8,[0,1])],[]⟩
def ZL:EW:=cE f19 MW jn Q [1,1] (rE f19 Q) A8
def A8h(c0:OA)(a:Int):WP:=jn 8 (ZL jn Q) ((.p c0)::(.i a)::us 25 [])
def Xj:KP:=⟨[(11,[2,12,13,14]),(20,[2])],[(7,[0,1,2,3,5,6,7,8,10,11,12,13,15,16,17,18,20,21,22,23,25,26,27,28,30])]⟩
def A8i:EW:=sE f26 Xj jn Q [1,1,1] (rE f26 Q) A8
def ZT:EW:=cE f26 Xj jn Q [1,1,1] (rE f26 Q) A8
def A8j(a b:Nat):WP:=jn 20 (ZT jn Q) (us 2 ((pq a b)::us 50 []))
def Xk(m1:Nat)(b d:Nat)(e:Sl)(f g:Int):WP:=Dl PR Xj jn (bE f26 [1,1,0,1,0,0]) (AA 0 (A8i jn Q) A8) (rE f26 Q) m1 (us 2 ((pq b d)::us 9 ((.l e.a e.n e.c)::(.i f)::(.i g)::us 38 [])))
def Rz:KP:=⟨[(8,[1]),(13,[1,4,48,49]),(24,[1,4])],[(11,[0,1,2,3,4,8,9,10,11,12])]⟩
def A8k:EW:=sE f27 Rz jn Q [1,1,1,1] (rE f27 Q) A8
def Aab:EW:=cE f27 Rz jn Q [1,1,1,1] (rE f27 Q) A8
def Ass(a b c d:Nat):WP:=jn 24 (Aab jn Q) (us 1 ((pq a b)::us 2 ((pq c d)::us 91 [])))
def Xp(m2:Nat)(a b c d:Nat)(e f:Int):WP:=Dl PR Rz jn (bE f27 [1,1,1,0,1,0,0]) (AA 0 (A8k jn Q) A8) (rE f27 Q) m2 (us 1 ((pq a b)::us 2 ((pq c d)::us 43 ((.i e)::(.i f)::us 46 []))))
def Aaa:EW:=cE f27 Rz jn Q [1,1] (rE f27 Q) A8
def A8l(a b:Nat):WP:=jn 8 (Aaa jn Q) (us 1 ((pq a b)::us 94 []))
def A8m:KP:=⟨[],[(1,[0,1,2,4,5,6,7,8,9,11,12,13,14,15,16,18,20,22]),(3,[0,1,2,3,4])]⟩
def A8n:KP:=⟨[],[(1,[0,1,2,4,5,6,7,8,9,10,11,12,13,15,16,17,18,20]),(3,[0,1,2,3,4])]⟩
def A8o:KP:=⟨[],[(1,[0,1,2,4,5,6,7,8,9,11,12,13,14,15,17,19])]⟩
def KO:KP:=⟨[(6,[0,3,4,19]),(8,[0,3,4]),(13,[0,4,33,34,35]),(20,[4])],[(1,[0,2,3,4,5,6,7,8,10,11,12]),(3,[0,1,2,3,4,6,7,8]),(7,[0,1,2,3,4,5,9])]⟩
def A8p:EW:=sE f31 KO jn Q [1,1] (rE f31 Q) A8
def A8q:EW:=sE f31 KO jn Q [1,1,1,1] (rE f31 Q) A8
def Aap:EW:=cE f31 KO jn Q [1,1,1,1] (rE f31 Q) A8
def A8s(a b:Nat):WP:=jn 20 (Aap jn Q) (us 4 ((pq a b)::us 46 []))
def Xy(m3:Nat)(c0:OA)(d e:Nat)(b:Sl)(f g:Int):WP:=Dl PR KO jn (bE f31 [1,1,1,0,1,0,0]) (AA 0 (A8q jn Q) A8) (rE f31 Q) m3 ((.p c0)::us 3 ((pq d e)::us 28 ((.l b.a b.n b.c)::(.i f)::(.i g)::us 15 [])))
def Aao:EW:=cE f31 KO jn Q [1,1] (rE f31 Q) A8
def A8r(c0:OA)(a b c d:Nat):WP:=jn 8 (Aao jn Q) ((.p c0)::us 2 ((pq a b)::(pq c d)::us 46 []))
def Aan:EW:=cE f31 KO jn Q [1,0,1] (A8p jn Q) A8
def Ae7(c0:OA)(a c d e:Nat)(f:Bool):WP:=jn 6 (Aan jn Q) ((.p c0)::us 2 ((pq a c)::(pq d e)::us 14 ((.b f)::us 31 [])))
def At5:KP:=⟨[(10,[4,5,6])],[(1,[0,1,2,3,4,5,6,9,10,12,13,14,15,16])]⟩
def Aax:EW:=cE f34 At5 jn Q [1,1,1] (rE f34 Q) A8
def Afb(d e:Nat)(c:Int)(a:Bool):WP:=jn 10 (Aax jn Q) (us 4 ((pq d e)::(.i c)::(.b a)::us 23 []))
def A8t:KP:=⟨[],[(1,[0,1,2,3,4,7])]⟩
def KQ:KP:=⟨[(6,[0,3,4,16]),(8,[0,3,4]),(11,[0,3,4,21,22,23]),(20,[0,3,4])],[(9,[0,1,2,3,4,5,6,7,8,10,11])]⟩
def A8u:EW:=sE f36 KQ jn Q [1,1] (rE f36 Q) A8
def A8v:EW:=sE f36 KQ jn Q [1,1,1] (rE f36 Q) A8
def Aa6:EW:=cE f36 KQ jn Q [1,1,1] (rE f36 Q) A8
def A8x(c0:OA)(a b c d:Nat):WP:=jn 20 (Aa6 jn Q) ((.p c0)::us 2 ((pq a b)::(pq c d)::us 49 []))
def XE(m3:Nat)(c0:OA)(d e f g:Nat)(b:Sl)(h j:Int):WP:=Dl PR KQ jn (bE f36 [1,1,0,1,0,0]) (AA 0 (A8v jn Q) A8) (rE f36 Q) m3 ((.p c0)::us 2 ((pq d e)::(pq f g)::us 16 ((.l b.a b.n b.c)::(.i h)::(.i j)::us 30 [])))
def Aa5:EW:=cE f36 KQ jn Q [1,1] (rE f36 Q) A8
def A8w(c0:OA)(a b c d:Nat):WP:=jn 8 (Aa5 jn Q) ((.p c0)::us 2 ((pq a b)::(pq c d)::us 49 []))
def Aa4:EW:=cE f36 KQ jn Q [1,0,1] (A8u jn Q) A8
def Afd(c0:OA)(a c d e:Nat)(f:Bool):WP:=jn 6 (Aa4 jn Q) ((.p c0)::us 2 ((pq a c)::(pq d e)::us 11 ((.b f)::us 37 [])))
def Aus:KP:=⟨[(12,[0,1,2])],[]⟩
def Aa9:EW:=cE f48 Aus jn Q [1,1] (rE f48 Q) A8
def A8y(a b:Int)(t2:OA):WP:=jn 12 (Aa9 jn Q) ((.i a)::(.i b)::(.p t2)::us 23 [])
def A8z:KP:=⟨[],[(1,[0,1,2,3,4,5,6,7,9,11,13])]⟩
def R3:KP:=⟨[(8,[0,1]),(11,[1,21,22]),(18,[])],[]⟩
def A80:EW:=sE f52 R3 jn Q [1,1,1] (rE f52 Q) A8
def Abb:EW:=cE f52 R3 jn Q [1,1,1] (rE f52 Q) A8
def A82:WP:=jn 18 (Abb jn Q) (us 29 [])
def Afk(m2:Nat)(f:BA)(a b c d e:OA)(g:Int):WP:=Dl PR R3 jn (bE f52 [1,1,0,1,0,0]) (AA 0 (A80 jn Q) A8) (rE f52 Q) m2 (us 1 ((.s f)::us 19 ((.agg #[.p a,.p b,.p c,.p d,.p e])::(.i g)::us 6 [])))
def Aba:EW:=cE f52 R3 jn Q [1,1] (rE f52 Q) A8
def A81(b:OA)(a:BA):WP:=jn 8 (Aba jn Q) ((.p b)::(.s a)::us 27 [])
def XK:KP:=⟨[(20,[0,1,2,3,4,14,57]),(26,[0,1,2,3,4,14])],[(8,[0,1,2,4,6,7,8,9,10,12,13,14,15,17,18])]⟩
def A3j:EW:=sE f53 XK jn Q [1,1,1,1,1,1] (rE f53 Q) A8
def Abd:EW:=cE f53 XK jn Q [1,1,1,1,1,1] (rE f53 Q) A8
def A83(s0:OA)(e f:BA)(g d:Int)(b:Sl):WP:=jn 26 (Abd jn Q) ((.p s0)::(.s e)::(.s f)::(.i g)::(.i d)::us 9 ((.l b.a b.n b.c)::us 90 []))
def Abc:EW:=cE f53 XK jn Q [1,1,1,1,1,0,1] (A3j jn Q) A8
def XJ(s0:OA)(f g:BA)(h e:Int)(d:Sl)(j:Bool):WP:=jn 20 (Abc jn Q) ((.p s0)::(.s f)::(.s g)::(.i h)::(.i e)::us 9 ((.l d.a d.n d.c)::us 42 ((.b j)::us 47 [])))
def R4:KP:=⟨[(8,[0,1]),(13,[0,1,5,20,21,22]),(20,[5])],[]⟩
def A84:EW:=sE f55 R4 jn Q [1,1,1,1] (rE f55 Q) A8
def Abf:EW:=cE f55 R4 jn Q [1,1,1,1] (rE f55 Q) A8
def A86(b:Sl):WP:=jn 20 (Abf jn Q) (us 5 ((.l b.a b.n b.c)::us 28 []))
def XL(m2:Nat)(s0:OA)(e:Int)(b d:Sl)(f g:Int):WP:=Dl PR R4 jn (bE f55 [1,1,1,0,1,0,0]) (AA 0 (A84 jn Q) A8) (rE f55 Q) m2 ((.p s0)::(.i e)::us 3 ((.l b.a b.n b.c)::us 14 ((.l d.a d.n d.c)::(.i f)::(.i g)::us 11 [])))
def Abe:EW:=cE f55 R4 jn Q [1,1] (rE f55 Q) A8
def A85(s0:OA)(a:Int):WP:=jn 8 (Abe jn Q) ((.p s0)::(.i a)::us 32 [])
def Aut:KP:=⟨[(24,[0,8])],[(3,[0,1,2,3,4,6,8,9]),(4,[0,1,2,3,4,5,6,10]),(11,[0,1,2,3,4,5,6,8])]⟩
def Abg:EW:=cE f58 Aut jn Q [1,1,1,1,1] (rE f58 Q) A8
def Afp(c0:OA)(a:Int):WP:=jn 24 (Abg jn Q) ((.p c0)::us 7 ((.i a)::us 72 []))
def XM:KP:=⟨[(11,[2,3,13,14]),(20,[2,3])],[(7,[0,1,2,3,4,5,7])]⟩
def A87:EW:=sE f59 XM jn Q [1,1,1] (rE f59 Q) A8
def Abh:EW:=cE f59 XM jn Q [1,1,1] (rE f59 Q) A8
def A88(a b:Nat)(c:Int):WP:=jn 20 (Abh jn Q) (us 2 ((pq a b)::(.i c)::us 25 []))
def Afs(m1:Nat)(a b:Nat)(h:Int)(c d e f g:OA)(j:Int):WP:=Dl PR XM jn (bE f59 [1,1,0,1,0,0]) (AA 0 (A87 jn Q) A8) (rE f59 Q) m1 (us 2 ((pq a b)::(.i h)::us 9 ((.agg #[.p c,.p d,.p e,.p f,.p g])::(.i j)::us 14 [])))
def Auu:KP:=⟨[(5,[1,9,10,11])],[]⟩
def XN(m1:Nat)(b:Int)(d:Sl)(e f:Int):WP:=Dl PR Auu jn (bE f60 [1,0,0]) (AA 0 (rE f60 Q) A8) (rE f60 Q) m1 (us 1 ((.i b)::us 7 ((.l d.a d.n d.c)::(.i e)::(.i f)::us 7 [])))
def Abi:EW:=cE f63 MW jn Q [1,1] (rE f63 Q) A8
def A89(s0:OA)(a:Int):WP:=jn 8 (Abi jn Q) ((.p s0)::(.i a)::us 24 [])
def Auv:KP:=⟨[(9,[0,16])],[(5,[0,1,2,3,4,5,8,9,10,11,12,13])]⟩
def Afu(m1:Nat)(b:OA)(a:Int):WP:=Dl PR Auv jn (bE f64 [1,1,1,0,0]) (AA 0 (rE f64 Q) A8) (rE f64 Q) m1 ((.p b)::us 15 ((.i a)::us 17 []))
def XO:KP:=⟨[(13,[3,11,12,13]),(22,[3])],[]⟩
def A9a:EW:=sE f71 XO jn Q [1,1,1,1] (rE f71 Q) A8
def Abj:EW:=cE f71 XO jn Q [1,1,1,1] (rE f71 Q) A8
def A9b(b:Sl):WP:=jn 22 (Abj jn Q) (us 3 ((.l b.a b.n b.c)::us 25 []))
def R7(m1:Nat)(d b:Sl)(e f:Int):WP:=Dl PR XO jn (bE f71 [1,1,1,0,1,0,0]) (AA 0 (A9a jn Q) A8) (rE f71 Q) m1 (us 3 ((.l d.a d.n d.c)::us 7 ((.l b.a b.n b.c)::(.i e)::(.i f)::us 15 [])))
end
variable{jn:Jn}{Q:VW}{c0 s0 p0 t0 m0 t2 x0:OA}{o1_0 o1_3 room1 t22 kind0 now3 life4 now1 kind1 i3 c0_0 c0_1 c0_2 c0_3 c0_4 c0_5 c0_6 i1 t13 t14 rate0 room0 hold1 now2 all3:Int}{o1_1 o1_2 key1 val2:BA}{o3b o3o r4b r4o m1 t4b t4o c1b c1o m2 kinds5b kinds5o all2b all2o x4b x4o m3 ghosts2b ghosts2o:Nat}{l0 c0_7 gone14 gone5 l3:Sl}
theorem Amn:Aje jn Q m1 ((.l l0.a l0.n l0.c)::us 2 ((.i i3)::us 26 []))=(CU l0.a l0.n i3 λd e=>Ci d ((e+i3.toNat*4)+1) λf=>Aj (decide<|(f.size:Int)>40) (Q<|.b true)<|CU l0.a l0.n i3 λg h=>Ci g ((h+i3.toNat*4)+2) λj=>Aj (decide<|(j.size:Int)>100) (Q<|.b true)<|Ajg jn Q m1 l0<|wrap .i64<|i3+1):=by kernel_rfl
theorem Kd:Ajf jn Q (us 30 [])=(Q<|.b false):=by kernel_rfl
theorem V3:Ajg jn Q (m1+1) l0 i3=(Aj (decide<|i3<(l0.n:Int)) (Aj (decide<|i3<150) (Bb9 jn Q m1 l0 i3)<|A6z jn Q)<|A6z jn Q):=by kernel_rfl
theorem A9o:Aw jn PR V2 f9 [.l l0.a l0.n l0.c] Q=(Em λm=>Ajg jn Q m l0 0):=by kernel_rfl
theorem Azl:Aw jn PR Aca f10 [.agg #[.i c0_0,.i c0_1,.i c0_2,.i c0_3,.i c0_4,.i c0_5,.i c0_6,.l c0_7.a c0_7.n c0_7.c]] Q=(Az [.i c0_0,.i c0_1,.i c0_2,.i c0_3,.i c0_4,.i c0_5,.i c0_6,.l c0_7.a c0_7.n c0_7.c] 24 λd=>A0 d 1 λe=>Aj (decide<|e<=64) (A0 d 2 λf=>Aj (decide<|f<=64) (A0 d 3 λg=>Aj (decide<|g<=64) (Bb d 7 λh=>Q<|.b<|decide<|(h.n:Int)<=100)<|Q<|.b false)<|Q<|.b false) (
 Q (.b false))):=by kernel_rfl
theorem Ae1{c1:OA}:Zx jn Q (us 1 ((.p c1)::us 31 []))=(λw=>Ai PR 15 #[.p c1,.agg #[.i 2,.s Ti,.s Tj,.i 0]] w λe w'=>∃r:Int,∃t:Bool,∃u:BA,∃g:Sl,e = .returned (.agg #[.i r,.b t,.s u,.l g.a g.n g.c])/\(λw=>Ai PR 15 #[.p c1,.agg #[.i 1,.s Ti,.s Ae,.i 0]] w λe w'=>∃m:Int,∃o:Bool,∃q:BA,∃f:Sl,e = .returned (.agg #[.i m,.b o,.s q,.l f.a f.n f.c])/\(Az [.i 0,.b false,.s Ae,.l none 0 0] 38 λd=>st d 0 (.i m)<|st d 1 (.b o)<|st d 2 (.s q)<|
 st d 3 (.l f.a f.n f.c)<|Ix d 1 λh=>Aj h (Ci d 2 λj=>Aj (sEq j Tj) (A0 d 0 λk=>Q<|.b<|k==0)<|Q<|.b false)<|Q<|.b false) w') w'):=by kernel_rfl
theorem Azv:Aw jn PR Aqs f12 [] Q=(Ahr 27 [.agg #[.i 1,.i 2,.i 2,.i 2,.i 0,.i 1,.i 0,.l none 0 0]] λa c=>Aj (c != 0) (Q<|.b false)<|Aj (isNone a) (Q<|.b false)<|A8e jn Q a):=by kernel_rfl
theorem Az0{e f g h j k m:Int}{d:Sl}:Aw jn PR Aca f13 [.agg #[.i e,.i f,.i g,.i h,.i j,.i k,.i m,.l d.a d.n d.c]] Q=(Az [.i e,.i f,.i g,.i h,.i j,.i k,.i m,.l d.a d.n d.c] 24 λo=>A0 o 0 λt=>A0 o 1 λu=>A0 o 2 λv=>A0 o 3 λw=>A0 o 4 λx=>A0 o 5 λy=>A0 o 6 λz=>Bb o 7 λq=>Ahr 27 [.agg #[.i t,.i u,.i v,.i w,.i x,.i y,.i z,.l q.a q.n q.c]] λr s=>
 Aj (s != 0) (Q<|.tuple #[.p none,.b false]) (Q<|.tuple #[.p r,.b true])):=by kernel_rfl
theorem Ae2:ZC jn Q ((.p c0)::us 2 ((pq o3b o3o)::(pq t4b t4o)::(pq kinds5b kinds5o)::us 27 []))=(A5 λS=>Dj S o3b o3o λX13=>AV ((0:Int)<=X13/\X13<((10:Nat):Int))<|Avr S kinds5b (kinds5o+X13.toNat*1) (A0 o3b o3o λX14=>Ci o3b (o3o+1) λX15=>Ci o3b ((o3o+1)+1) λX16=>A0 o3b (((o3o+1)+1)+1) λX17=>Al true S<|Cv) [
 (15,
 A0 o3b o3o λX18=>Ci o3b (o3o+1) λX19=>Ci o3b ((o3o+1)+1) λX20=>A0 o3b (((o3o+1)+1)+1) λX21=>Al true S<|λw=>Ai PR 15 #[.p c0,.agg #[.i X18,.s X19,.s X20,.i X21]] w λe w'=>∃X22:Int,∃X23:Bool,∃X24:BA,∃X25:Sl,e = .returned (.agg #[.i X22,.b X23,.s X24,.l X25.a X25.n X25.c])/\(st t4b t4o (.i X22)<|st t4b (t4o+1) (.b X23)<|st t4b ((t4o+1)+1) (.s X24)<|st t4b (((t4o+1)+1)+1) (.l X25.a X25.n X25.c)<|A0 t4b t4o λX26=>Ix t4b (t4o+1) λX27=>Ci t4b ((t4o+1)+1) λX28=>Bb t4b (((t4o+1)+1)+1) λX29=>
 Q (.agg #[.i X26,.b X27,.s X28,.l X29.a X29.n X29.c])) w'),
 (28,
 A0 o3b o3o λX30=>Ci o3b (o3o+1) λX31=>Ci o3b ((o3o+1)+1) λX32=>A0 o3b (((o3o+1)+1)+1) λX33=>Al true S<|λw=>Ai PR 28 #[.p c0,.agg #[.i X30,.s X31,.s X32,.i X33]] w λe w'=>∃X34:Int,∃X35:Bool,∃X36:BA,∃X37:Sl,e = .returned (.agg #[.i X34,.b X35,.s X36,.l X37.a X37.n X37.c])/\(st t4b t4o (.i X34)<|st t4b (t4o+1) (.b X35)<|st t4b ((t4o+1)+1) (.s X36)<|st t4b (((t4o+1)+1)+1) (.l X37.a X37.n X37.c)<|A0 t4b t4o λX38=>Ix t4b (t4o+1) λX39=>Ci t4b ((t4o+1)+1) λX40=>Bb t4b (((t4o+1)+1)+1) λX41=>
 Q (.agg #[.i X38,.b X39,.s X40,.l X41.a X41.n X41.c])) w'),
 (29,
 A0 o3b o3o λX42=>Ci o3b (o3o+1) λX43=>Ci o3b ((o3o+1)+1) λX44=>A0 o3b (((o3o+1)+1)+1) λX45=>Al true S<|λw=>Ai PR 29 #[.p c0,.agg #[.i X42,.s X43,.s X44,.i X45]] w λe w'=>∃X46:Int,∃X47:Bool,∃X48:BA,∃X49:Sl,e = .returned (.agg #[.i X46,.b X47,.s X48,.l X49.a X49.n X49.c])/\(st t4b t4o (.i X46)<|st t4b (t4o+1) (.b X47)<|st t4b ((t4o+1)+1) (.s X48)<|st t4b (((t4o+1)+1)+1) (.l X49.a X49.n X49.c)<|A0 t4b t4o λX50=>Ix t4b (t4o+1) λX51=>Ci t4b ((t4o+1)+1) λX52=>Bb t4b (((t4o+1)+1)+1) λX53=>
 Q (.agg #[.i X50,.b X51,.s X52,.l X53.a X53.n X53.c])) w'),
 (30,
 A0 o3b o3o λX54=>Ci o3b (o3o+1) λX55=>Ci o3b ((o3o+1)+1) λX56=>A0 o3b (((o3o+1)+1)+1) λX57=>Al true S<|λw=>Ai PR 30 #[.p c0,.agg #[.i X54,.s X55,.s X56,.i X57]] w λe w'=>∃X58:Int,∃X59:Bool,∃X60:BA,∃X61:Sl,e = .returned (.agg #[.i X58,.b X59,.s X60,.l X61.a X61.n X61.c])/\(st t4b t4o (.i X58)<|st t4b (t4o+1) (.b X59)<|st t4b ((t4o+1)+1) (.s X60)<|st t4b (((t4o+1)+1)+1) (.l X61.a X61.n X61.c)<|A0 t4b t4o λX62=>Ix t4b (t4o+1) λX63=>Ci t4b ((t4o+1)+1) λX64=>Bb t4b (((t4o+1)+1)+1) λX65=>
 Q (.agg #[.i X62,.b X63,.s X64,.l X65.a X65.n X65.c])) w'),
 (31,
 A0 o3b o3o λX66=>Ci o3b (o3o+1) λX67=>Ci o3b ((o3o+1)+1) λX68=>A0 o3b (((o3o+1)+1)+1) λX69=>Al true S<|λw=>Ai PR 31 #[.p c0,.agg #[.i X66,.s X67,.s X68,.i X69]] w λe w'=>∃X70:Int,∃X71:Bool,∃X72:BA,∃X73:Sl,e = .returned (.agg #[.i X70,.b X71,.s X72,.l X73.a X73.n X73.c])/\(st t4b t4o (.i X70)<|st t4b (t4o+1) (.b X71)<|st t4b ((t4o+1)+1) (.s X72)<|st t4b (((t4o+1)+1)+1) (.l X73.a X73.n X73.c)<|A0 t4b t4o λX74=>Ix t4b (t4o+1) λX75=>Ci t4b ((t4o+1)+1) λX76=>Bb t4b (((t4o+1)+1)+1) λX77=>
 Q (.agg #[.i X74,.b X75,.s X76,.l X77.a X77.n X77.c])) w'),
 (32,
 A0 o3b o3o λX78=>Ci o3b (o3o+1) λX79=>Ci o3b ((o3o+1)+1) λX80=>A0 o3b (((o3o+1)+1)+1) λX81=>Al true S<|λw=>Ai PR 32 #[.p c0,.agg #[.i X78,.s X79,.s X80,.i X81]] w λe w'=>∃X82:Int,∃X83:Bool,∃X84:BA,∃X85:Sl,e = .returned (.agg #[.i X82,.b X83,.s X84,.l X85.a X85.n X85.c])/\(st t4b t4o (.i X82)<|st t4b (t4o+1) (.b X83)<|st t4b ((t4o+1)+1) (.s X84)<|st t4b (((t4o+1)+1)+1) (.l X85.a X85.n X85.c)<|A0 t4b t4o λX86=>Ix t4b (t4o+1) λX87=>Ci t4b ((t4o+1)+1) λX88=>Bb t4b (((t4o+1)+1)+1) λX89=>
 Q (.agg #[.i X86,.b X87,.s X88,.l X89.a X89.n X89.c])) w'),
 (33,
 A0 o3b o3o λX90=>Ci o3b (o3o+1) λX91=>Ci o3b ((o3o+1)+1) λX92=>A0 o3b (((o3o+1)+1)+1) λX93=>Al true S<|λw=>Ai PR 33 #[.p c0,.agg #[.i X90,.s X91,.s X92,.i X93]] w λe w'=>∃X94:Int,∃X95:Bool,∃X96:BA,∃X97:Sl,e = .returned (.agg #[.i X94,.b X95,.s X96,.l X97.a X97.n X97.c])/\(st t4b t4o (.i X94)<|st t4b (t4o+1) (.b X95)<|st t4b ((t4o+1)+1) (.s X96)<|st t4b (((t4o+1)+1)+1) (.l X97.a X97.n X97.c)<|A0 t4b t4o λX98=>Ix t4b (t4o+1) λX99=>Ci t4b ((t4o+1)+1) λX100=>Bb t4b (((t4o+1)+1)+1) λX101=>
 Q (.agg #[.i X98,.b X99,.s X100,.l X101.a X101.n X101.c])) w'),
 (34,
 A0 o3b o3o λX102=>Ci o3b (o3o+1) λX103=>Ci o3b ((o3o+1)+1) λX104=>A0 o3b (((o3o+1)+1)+1) λX105=>Al true S<|λw=>Ai PR 34 #[.p c0,.agg #[.i X102,.s X103,.s X104,.i X105]] w λe w'=>∃X106:Int,∃X107:Bool,∃X108:BA,∃X109:Sl,e = .returned (.agg #[.i X106,.b X107,.s X108,.l X109.a X109.n X109.c])/\(st t4b t4o (.i X106)<|st t4b (t4o+1) (.b X107)<|st t4b ((t4o+1)+1) (.s X108)<|st t4b (((t4o+1)+1)+1) (.l X109.a X109.n X109.c)<|A0 t4b t4o λX110=>Ix t4b (t4o+1) λX111=>Ci t4b ((t4o+1)+1) λX112=>
 Bb t4b (((t4o+1)+1)+1) λX113=>Q (.agg #[.i X110,.b X111,.s X112,.l X113.a X113.n X113.c])) w'),
 (35,
 A0 o3b o3o λX114=>Ci o3b (o3o+1) λX115=>Ci o3b ((o3o+1)+1) λX116=>A0 o3b (((o3o+1)+1)+1) λX117=>Al true S<|λw=>Ai PR 35 #[.p c0,.agg #[.i X114,.s X115,.s X116,.i X117]] w λe w'=>∃X118:Int,∃X119:Bool,∃X120:BA,∃X121:Sl,e = .returned (.agg #[.i X118,.b X119,.s X120,.l X121.a X121.n X121.c])/\(st t4b t4o (.i X118)<|st t4b (t4o+1) (.b X119)<|st t4b ((t4o+1)+1) (.s X120)<|st t4b (((t4o+1)+1)+1) (.l X121.a X121.n X121.c)<|A0 t4b t4o λX122=>Ix t4b (t4o+1) λX123=>Ci t4b ((t4o+1)+1) λX124=>
 Bb t4b (((t4o+1)+1)+1) λX125=>Q (.agg #[.i X122,.b X123,.s X124,.l X125.a X125.n X125.c])) w'),
 (36,
 A0 o3b o3o λX126=>Ci o3b (o3o+1) λX127=>Ci o3b ((o3o+1)+1) λX128=>A0 o3b (((o3o+1)+1)+1) λX129=>Al true S<|λw=>Ai PR 36 #[.p c0,.agg #[.i X126,.s X127,.s X128,.i X129]] w λe w'=>∃X130:Int,∃X131:Bool,∃X132:BA,∃X133:Sl,e = .returned (.agg #[.i X130,.b X131,.s X132,.l X133.a X133.n X133.c])/\(st t4b t4o (.i X130)<|st t4b (t4o+1) (.b X131)<|st t4b ((t4o+1)+1) (.s X132)<|st t4b (((t4o+1)+1)+1) (.l X133.a X133.n X133.c)<|A0 t4b t4o λX134=>Ix t4b (t4o+1) λX135=>Ci t4b ((t4o+1)+1) λX136=>
 Bb t4b (((t4o+1)+1)+1) λX137=>Q (.agg #[.i X134,.b X135,.s X136,.l X137.a X137.n X137.c])) w')]):=by kernel_rfl
theorem Rx{e:Bool}:ZB jn Q ((.p c0)::us 2 ((pq o3b o3o)::(pq t4b t4o)::(pq kinds5b kinds5o)::us 18 ((.b e)::us 8 [])))=(Aj e (st t4b t4o (.i 7)<|st t4b (t4o+1) (.b false)<|st t4b ((t4o+1)+1) (.s Ae)<|st t4b (((t4o+1)+1)+1) (.l none 0 0)<|A0 t4b t4o λh=>Ix t4b (t4o+1) λf=>Ci t4b ((t4o+1)+1) λg=>Bb t4b (((t4o+1)+1)+1) λd=>Q<|.agg #[.i h,.b f,.s g,.l d.a d.n d.c])<|A8g jn Q c0 o3b o3o t4b t4o kinds5b kinds5o):=by kernel_rfl
theorem A0a:Aw jn PR WY f15 [.p c0,.agg #[.i o1_0,.s o1_1,.s o1_2,.i o1_3]] Q=(Az [.i o1_0,.s o1_1,.s o1_2,.i o1_3] 41 λf=>Az [.i 0,.b false,.s Ae,.l none 0 0] 38 λe=>Aj (isNone c0) (st e 0 (.i 1)<|st e 1 (.b false)<|st e 2 (.s Ae)<|st e 3 (.l none 0 0)<|A0 e 0 λk=>Ix e 1 λm=>Ci e 2 λo=>Bb e 3 λj=>Q<|.agg #[.i k,.b m,.s o,.l j.a j.n j.c]) (Az [.nilFunc,.nilFunc,.nilFunc,.nilFunc,.nilFunc,.nilFunc,.nilFunc,.nilFunc,.nilFunc,.nilFunc] 64 λd=>
 st d 0 .nilFunc<|st d 1 (.func (.func 28) #[] #[])<|st d 2 (.func (.func 29) #[] #[])<|st d 3 (.func (.func 30) #[] #[])<|st d 4 (.func (.func 31) #[] #[])<|st d 5 (.func (.func 32) #[] #[])<|st d 6 (.func (.func 33) #[] #[])<|st d 7 (.func (.func 34) #[] #[])<|st d 8 (.func (.func 35) #[] #[])<|st d 9 (.func (.func 36) #[] #[])<|A0 f 0 λq=>Aj (decide<|q<0) (EN jn Q c0 f 0 e 0 d 0 true)<|A0 f 0 λh=>Aj (decide<|h>=10) (EN jn Q c0 f 0 e 0 d 0 true)<|A0 f 0 λg=>AV ((0:Int)<=g/\g<((10:Nat):Int))<|ldV d (0+g.toNat*1) (EN jn Q c0 f 0 e 0 d 0 true) [
 (15,
 EN jn Q c0 f 0 e 0 d 0 false),
 (28,
 EN jn Q c0 f 0 e 0 d 0 false),
 (29,
 EN jn Q c0 f 0 e 0 d 0 false),
 (30,
 EN jn Q c0 f 0 e 0 d 0 false),
 (31,
 EN jn Q c0 f 0 e 0 d 0 false),
 (32,
 EN jn Q c0 f 0 e 0 d 0 false),
 (33,
 EN jn Q c0 f 0 e 0 d 0 false),
 (34,
 EN jn Q c0 f 0 e 0 d 0 false),
 (35,
 EN jn Q c0 f 0 e 0 d 0 false),
 (36,
 EN jn Q c0 f 0 e 0 d 0 false)])):=by kernel_rfl
theorem Ae3:ZL jn Q ((.p c0)::(.i i1)::us 25 [])=(Ac c0 λc d=>Bb c d λb=>CU b.a b.n i1 λe f=>Bo e (f+i1.toNat*1) λg=>Q<|.p g):=by kernel_rfl
theorem A0r:Aw jn PR MW f19 [.p c0,.i i1] Q=(Aj (isNone c0) (Q<|.p none)<|Aj (decide<|i1<0) (Q<|.p none)<|Ac c0 λa b=>Bb a b λc=>Aj (decide<|i1>=(c.n:Int)) (Q<|.p none)<|A8h jn Q c0 i1):=by kernel_rfl
theorem Ae4:ZT jn Q (us 2 ((pq all2b all2o)::us 50 []))=(A0 all2b all2o λa=>A0 all2b (all2o+1) λb=>A0 all2b ((all2o+1)+1) λc=>A0 all2b (((all2o+1)+1)+1) λd=>A0 all2b ((((all2o+1)+1)+1)+1) λe=>A0 all2b (((((all2o+1)+1)+1)+1)+1) λf=>st all2b all2o (.i a)<|st all2b (all2o+1) (.i b)<|st all2b ((all2o+1)+1) (.i c)<|st all2b (((all2o+1)+1)+1) (.i d)<|st all2b ((((all2o+1)+1)+1)+1) (.i e)<|st all2b (((((all2o+1)+1)+1)+1)+1) (.i f)<|A0 all2b all2o λg=>
 A0 all2b (all2o+1) λh=>A0 all2b ((all2o+1)+1) λj=>A0 all2b (((all2o+1)+1)+1) λk=>A0 all2b ((((all2o+1)+1)+1)+1) λl=>A0 all2b (((((all2o+1)+1)+1)+1)+1) λm=>Q<|.agg #[.i g,.i h,.i j,.i k,.i l,.i m]):=by kernel_rfl
theorem Ry{c:Sl}:Xk jn Q (m1+1) all2b all2o c t13 t14=(Aj (decide<|t14<t13) (CU c.a c.n t14 λl m=>Bo l (m+t14.toNat*1) λo=>λw=>Ai PR 44 #[.p o] w λe w'=>∃d:Int,∃f:Int,∃g:Int,∃h:Int,∃j:Int,∃k:Int,e = .returned (.agg #[.i d,.i f,.i g,.i h,.i j,.i k])/\(Az [.i 0,.i 0,.i 0,.i 0,.i 0,.i 0] 58 λb=>st b 0 (.i d)<|st b 1 (.i f)<|st b 2 (.i g)<|st b 3 (.i h)<|st b 4 (.i j)<|st b 5 (.i k)<|
 A5 λS=>Dj S all2b all2o λq=>Dj S b 0 λr=>Dj S all2b (all2o+1) λs=>Dj S b 1 λt=>Dj S all2b (all2o+2) λu=>Dj S b 2 λv=>Dj S all2b (all2o+3) λx=>Dj S b 3 λy=>Dj S all2b (all2o+4) λz=>Dj S b 4 λA=>Dj S all2b (all2o+5) λB=>Dj S b 5 λC=>Bw 45 [.i q,.i r] λD=>Al true S<|Bw 45 [.i s,.i t] λE=>
 Al true S<|Bw 45 [.i u,.i v] λF=>Al true S<|Bw 45 [.i x,.i y] λG=>Al true S<|Bw 45 [.i z,.i A] λH=>Al true S<|Bw 45 [.i B,.i C] λI=>st all2b all2o (.i D)<|st all2b (all2o+1) (.i E)<|st all2b ((all2o+1)+1) (.i F)<|st all2b (((all2o+1)+1)+1) (.i G)<|st all2b ((((all2o+1)+1)+1)+1) (.i H)<|st all2b (((((all2o+1)+1)+1)+1)+1) (.i I)<|Xk jn Q m1 all2b all2o c t13<|wrap .i64<|t14+1) w')<|A8j jn Q all2b all2o):=by kernel_rfl
theorem A05:Aw jn PR Xj f26 [.p c0] Q=(Az [.i 0,.i 0,.i 0,.i 0,.i 0,.i 0] 58 λa=>Aj (isNone c0) (A0 a 0 λj=>A0 a 1 λk=>A0 a 2 λl=>A0 a 3 λo=>A0 a 4 λq=>A0 a 5 λr=>st a 0 (.i j)<|st a 1 (.i k)<|st a 2 (.i l)<|st a 3 (.i o)<|st a 4 (.i q)<|st a 5 (.i r)<|A0 a 0 λs=>A0 a 1 λt=>A0 a 2 λc=>A0 a 3 λd=>A0 a 4 λe=>
 A0 a 5 λf=>Q<|.agg #[.i s,.i t,.i c,.i d,.i e,.i f])<|Ac c0 λg h=>Bb g h λb=>Em λm=>Xk jn Q m a 0 b (b.n:Int) 0):=by kernel_rfl
theorem Ae6:Aab jn Q (us 1 ((pq c1b c1o)::us 2 ((pq x4b x4o)::us 91 [])))=(A5 λS=>Dj S c1b (c1o+6) λe=>Dj S c1b (c1o+5) λf=>Bb c1b (c1o+7) λb=>Al true S<|L1 49 [.l b.a b.n b.c] λg=>Al true S<|Ahr 48 [.i e,.i f,.p g] λh d=>Aj (d != 0) (Q<|.tuple #[.p none,.i d])<|Ac (some ⟨x4b,x4o,none⟩) λj k=>st j (k+2) (.p h)<|Q<|.tuple #[pq x4b x4o,.i 0]):=by kernel_rfl
theorem R0{b d:Int}:Xp jn Q (m2+1) c1b c1o x4b x4o b d=(Aj (decide<|d<b) (A0 c1b (c1o+1) λh=>A0 c1b (c1o+2) λj=>A0 c1b (c1o+3) λk=>A0 c1b (c1o+6) λm=>Ahr 47 [.i h,.i j,.i k,.i m] λo g=>Aj (g != 0) (Q<|.tuple #[.p none,.i g]) (Ac (some ⟨x4b,x4o,none⟩) λq r=>Bb q r λe=>Az [.p o] 50 λs=>Bl 50 1 8 [.p none] ⟨e.a,e.n,e.c⟩ 1 (λw=>H3 w (some ⟨s,0,none⟩)<|1*1) λf=>
 Ac (some ⟨x4b,x4o,none⟩) λt u=>st t u (.l f.a f.n f.c)<|Xp jn Q m2 c1b c1o x4b x4o b<|wrap .i64<|d+1))<|Ass jn Q c1b c1o x4b x4o):=by kernel_rfl
theorem Ae5:Aaa jn Q (us 1 ((pq c1b c1o)::us 94 []))=(A0 c1b (c1o+4) λe=>A0 c1b (c1o+1) λf=>A0 c1b c1o λa=>L1 46 [.i e,.i<|wrap .i64<|f*a] λb=>Az [.l none 0 0,.p b,.p none,.i 0] 73 λc=>A0 c1b c1o λd=>Em λm=>Xp jn Q m c1b c1o c 0 d 0):=by kernel_rfl
theorem A1b:Aw jn PR Rz f27 [.agg #[.i c0_0,.i c0_1,.i c0_2,.i c0_3,.i c0_4,.i c0_5,.i c0_6,.l c0_7.a c0_7.n c0_7.c]] Q=(Az [.i c0_0,.i c0_1,.i c0_2,.i c0_3,.i c0_4,.i c0_5,.i c0_6,.l c0_7.a c0_7.n c0_7.c] 24 λb=>A0 b 0 λd=>Aj (decide<|d<1) (Q<|.tuple #[.p none,.i 1])<|A0 b 0 λe=>Aj (decide<|e>8) (Q<|.tuple #[.p none,.i 1])<|A0 b 1 λf=>Aj (decide<|f<1) (Q<|.tuple #[.p none,.i 1]) (
 A0 b 1 λg=>Aj (decide<|g>1024) (Q<|.tuple #[.p none,.i 1])<|A0 b 4 λh=>Aj (decide<|h<0) (Q<|.tuple #[.p none,.i 1])<|A0 b 4 λj=>Aj (decide<|j>16777216) (Q<|.tuple #[.p none,.i 1])<|A8l jn Q b 0)):=by kernel_rfl
theorem A1g:Aw jn PR A8m f28 [.p c0,.agg #[.i o1_0,.s o1_1,.s o1_2,.i o1_3]] Q=(Az [.i o1_0,.s o1_1,.s o1_2,.i o1_3] 41 λq=>Az [.i 0,.b false,.s Ae,.l none 0 0] 38 λd=>A5 λS=>wLs S q 1 λL=>wLs S q 1 λM=>Ac c0 λN O=>Dj S N (O+3) λP=>L1 50 [.p c0,.s L] λR=>Al true S<|λw=>Ai PR 51 #[.p R,.s M,.i P] w λe w'=>∃K:BA,∃m:Bool,∃f:Sl,∃o:Int,e = .returned (.tuple #[.s K,.b m,.l f.a f.n f.c,.i o])/\(
 st d 2 (.s K)<|st d 1 (.b m)<|st d 3 (.l f.a f.n f.c)<|st d 0 (.i o)<|A0 d 0 λr=>Aj (r==0) (A5 λS=>Ac c0 λt u=>EK S t (u+1) λv=>Ci q 1 λx=>Al true S<|Ey 52 [.p v,.s x] λT=>A0 d 0 λy=>Ix d 1 λz=>Ci d 2 λA=>Bb d 3 λg=>st d 0 (.i y)<|st d 1 (.b z)<|st d 2 (.s A)<|st d 3 (.l g.a g.n g.c)<|A0 d 0 λB=>Ix d 1 λC=>Ci d 2 λD=>Bb d 3 λh=>Q<|.agg #[.i B,.b C,.s D,.l h.a h.n h.c]) (
 A0 d 0 λE=>Ix d 1 λF=>Ci d 2 λG=>Bb d 3 λj=>st d 0 (.i E)<|st d 1 (.b F)<|st d 2 (.s G)<|st d 3 (.l j.a j.n j.c)<|A0 d 0 λH=>Ix d 1 λI=>Ci d 2 λJ=>Bb d 3 λk=>Q<|.agg #[.i H,.b I,.s J,.l k.a k.n k.c])) w'):=by kernel_rfl
theorem A1k:Aw jn PR A8n f29 [.p c0,.agg #[.i o1_0,.s o1_1,.s o1_2,.i o1_3]] Q=(Az [.i o1_0,.s o1_1,.s o1_2,.i o1_3] 41 λk=>Az [.i 0,.b false,.s Ae,.l none 0 0] 38 λd=>A5 λS=>wLs S k 1 λI=>wLs S k 1 λJ=>wLs S k 2 λK=>Ac c0 λL M=>Dj S L (M+3) λN=>Dj S k 3 λO=>L1 50 [.p c0,.s I] λm=>Al true S<|GC .slc (.int .i64) PR 53 [.p m,.s J,.s K,.i N,.i O] λ(e:Sl)(o:Int)=>
 st d 3 (.l e.a e.n e.c)<|st d 0 (.i o)<|A0 d 0 λq=>Aj (q==0) (A5 λS=>Ac c0 λr t=>EK S r (t+1) λu=>Ci k 1 λv=>Al true S<|Ey 52 [.p u,.s v] λP=>A0 d 0 λw=>Ix d 1 λx=>Ci d 2 λy=>Bb d 3 λf=>st d 0 (.i w)<|st d 1 (.b x)<|st d 2 (.s y)<|st d 3 (.l f.a f.n f.c)<|A0 d 0 λz=>Ix d 1 λA=>Ci d 2 λB=>Bb d 3 λg=>Q<|.agg #[.i z,.b A,.s B,.l g.a g.n g.c]) (
 A0 d 0 λC=>Ix d 1 λD=>Ci d 2 λE=>Bb d 3 λh=>st d 0 (.i C)<|st d 1 (.b D)<|st d 2 (.s E)<|st d 3 (.l h.a h.n h.c)<|A0 d 0 λF=>Ix d 1 λG=>Ci d 2 λH=>Bb d 3 λj=>Q<|.agg #[.i F,.b G,.s H,.l j.a j.n j.c])):=by kernel_rfl
theorem A1p:Aw jn PR A8o f30 [.p c0,.agg #[.i o1_0,.s o1_1,.s o1_2,.i o1_3]] Q=(Az [.i o1_0,.s o1_1,.s o1_2,.i o1_3] 41 λt=>Az [.i 0,.b false,.s Ae,.l none 0 0] 38 λd=>A5 λS=>wLs S t 1 λu=>wLs S t 1 λv=>Ac c0 λw x=>Dj S w (x+3) λy=>L1 50 [.p c0,.s u] λz=>Al true S<|Bb0 .bool .slc (.int .i64) PR 54 [.p z,.s v,.i y] λ(A:Bool)(e:Sl)(h:Int)=>st d 1 (.b A)<|st d 3 (.l e.a e.n e.c)<|
 st d 0 (.i h)<|A0 d 0 λj=>Ix d 1 λk=>Ci d 2 λm=>Bb d 3 λf=>st d 0 (.i j)<|st d 1 (.b k)<|st d 2 (.s m)<|st d 3 (.l f.a f.n f.c)<|A0 d 0 λo=>Ix d 1 λq=>Ci d 2 λr=>Bb d 3 λg=>Q<|.agg #[.i o,.b q,.s r,.l g.a g.n g.c]):=by kernel_rfl
theorem Afa:Aap jn Q (us 4 ((pq r4b r4o)::us 46 []))=(A0 r4b r4o λf=>Ix r4b (r4o+1) λg=>Ci r4b ((r4o+1)+1) λh=>Bb r4b (((r4o+1)+1)+1) λd=>st r4b r4o (.i f)<|st r4b (r4o+1) (.b g)<|st r4b ((r4o+1)+1) (.s h)<|st r4b (((r4o+1)+1)+1) (.l d.a d.n d.c)<|A0 r4b r4o λj=>Ix r4b (r4o+1) λk=>Ci r4b ((r4o+1)+1) λm=>Bb r4b (((r4o+1)+1)+1) λe=>Q<|.agg #[.i j,.b k,.s m,.l e.a e.n e.c]):=by kernel_rfl
theorem R1{d:Sl}{e b:Int}:Xy jn Q (m3+1) c0 r4b r4o d e b=(Aj (decide<|b<e) (CU d.a d.n b λj k=>Bo j (k+b.toNat*1) λm=>A5 λS=>Fg S r4b (r4o+3) λf=>Ac c0 λo q=>A0 o (q+3) λr=>Al true S<|GW 55 [.p m,.i r] λg=>Al true S<|Bl 9 1 16 [.s Ae] ⟨f.a,f.n,f.c⟩ g.n (λw=>H3 w g.a<|g.n*1) λh=>st r4b (r4o+3) (.l h.a h.n h.c)<|Xy jn Q m3 c0 r4b r4o d e<|wrap .i64<|b+1)<|A8s jn Q r4b r4o):=by kernel_rfl
theorem Ae9:Aao jn Q ((.p c0)::us 2 ((pq o3b o3o)::(pq r4b r4o)::us 46 []))=(A5 λS=>Ac c0 λh j=>Dj S h (j+3) λb=>A0 o3b (o3o+3) λc=>Al true S<|Ac c0 λd e=>st d (e+3) (.i<|wrap .i64<|b+c)<|Ac c0 λf g=>Bb f g λa=>Em λm=>Xy jn Q m c0 r4b r4o a (a.n:Int) 0):=by kernel_rfl
theorem Ae8{d:Bool}:Aan jn Q ((.p c0)::us 2 ((pq o3b o3o)::(pq r4b r4o)::us 14 ((.b d)::us 31 [])))=(Aj d (st r4b r4o (.i 1)<|st r4b (r4o+1) (.b false)<|st r4b ((r4o+1)+1) (.s Ae)<|st r4b (((r4o+1)+1)+1) (.l none 0 0)<|A0 r4b r4o λf=>Ix r4b (r4o+1) λg=>Ci r4b ((r4o+1)+1) λh=>Bb r4b (((r4o+1)+1)+1) λe=>Q<|.agg #[.i f,.b g,.s h,.l e.a e.n e.c])<|A8r jn Q c0 o3b o3o r4b r4o):=by kernel_rfl
theorem A1v:Aw jn PR KO f31 [.p c0,.agg #[.i o1_0,.s o1_1,.s o1_2,.i o1_3]] Q=(Az [.i o1_0,.s o1_1,.s o1_2,.i o1_3] 41 λa=>Az [.i 0,.b false,.s Ae,.l none 0 0] 38 λg=>A5 λS=>A0 a 3 λh=>Al true S<|Aj (decide<|h<0) (Al true S<|Ae7 jn Q c0 a 0 g 0 true)<|Dj S a 3 λc=>Ac c0 λd e=>A0 d (e+3) λf=>Al true S<|Ae7 jn Q c0 a 0 g 0<|decide<|c>(wrap .i64<|1125899906842624-f)):=by kernel_rfl
theorem A13:Aw jn PR Aca f32 [.p c0,.agg #[.i o1_0,.s o1_1,.s o1_2,.i o1_3]] Q=(Az [.i o1_0,.s o1_1,.s o1_2,.i o1_3] 41 λm=>Az [.i 0,.b false,.s Ae,.l none 0 0] 38 λd=>A0 m 3 λo=>L1 19 [.p c0,.i o] λk=>Aj (isNone k) (st d 0 (.i 1)<|st d 1 (.b false)<|st d 2 (.s Ae)<|st d 3 (.l none 0 0)<|A0 d 0 λq=>Ix d 1 λr=>Ci d 2 λt=>Bb d 3 λf=>Q<|.agg #[.i q,.b r,.s t,.l f.a f.n f.c]) (
 Bw 56 [.p k] λu=>st d 0 (.i 0)<|st d 1 (.b<|decide<|u>0)<|st d 2 (.s Ae)<|st d 3 (.l none 0 0)<|A0 d 0 λg=>Ix d 1 λh=>Ci d 2 λj=>Bb d 3 λe=>Q<|.agg #[.i g,.b h,.s j,.l e.a e.n e.c])):=by kernel_rfl
theorem A19:Aw jn PR Aca f33 [.p c0,.agg #[.i o1_0,.s o1_1,.s o1_2,.i o1_3]] Q=(Az [.i o1_0,.s o1_1,.s o1_2,.i o1_3] 41 λu=>Az [.i 0,.b false,.s Ae,.l none 0 0] 38 λd=>A0 u 3 λv=>L1 19 [.p c0,.i v] λt=>Aj (isNone t) (st d 0 (.i 1)<|st d 1 (.b false)<|st d 2 (.s Ae)<|st d 3 (.l none 0 0)<|A0 d 0 λw=>Ix d 1 λx=>Ci d 2 λy=>Bb d 3 λg=>Q<|.agg #[.i w,.b x,.s y,.l g.a g.n g.c]) (
 Fv 57 [.p t] λz h=>st d 2 (.s z)<|st d 1 (.b h)<|A0 d 0 λj=>Ix d 1 λk=>Ci d 2 λm=>Bb d 3 λe=>st d 0 (.i j)<|st d 1 (.b k)<|st d 2 (.s m)<|st d 3 (.l e.a e.n e.c)<|A0 d 0 λo=>Ix d 1 λq=>Ci d 2 λr=>Bb d 3 λf=>Q<|.agg #[.i o,.b q,.s r,.l f.a f.n f.c])):=by kernel_rfl
theorem Afc{e:Int}{d:Bool}:Aax jn Q (us 4 ((pq t4b t4o)::(.i e)::(.b d)::us 23 []))=(Wx 61 [.i e] λg=>st t4b t4o (.i 0)<|st t4b (t4o+1) (.b d)<|st t4b ((t4o+1)+1) (.s g)<|st t4b (((t4o+1)+1)+1) (.l none 0 0)<|A0 t4b t4o λh=>Ix t4b (t4o+1) λj=>Ci t4b ((t4o+1)+1) λk=>Bb t4b (((t4o+1)+1)+1) λf=>Q<|.agg #[.i h,.b j,.s k,.l f.a f.n f.c]):=by kernel_rfl
theorem A2g{a:Int}{c d:BA}{f:Int}:Aw jn PR At5 f34 [.p c0,.agg #[.i a,.s c,.s d,.i f]] Q=(Az [.i a,.s c,.s d,.i f] 41 λA=>Az [.i 0,.b false,.s Ae,.l none 0 0] 38 λq=>A5 λS=>Ac c0 λt u=>EK S t (u+2) λv=>Ac c0 λx y=>Bo x (y+1) λz=>Al true S<|λw=>Ai PR 59 #[.p z] w λe w'=>∃r:Int,∃j:Int,∃k:Int,∃m:Int,∃n:Int,∃o:Int,e = .returned (.tuple #[.agg #[.i r,.i j,.i k,.i m,.i n],.i o])/\(
 Al true S<|Gk 58 [.p v,.agg #[.i r,.i j,.i k,.i m,.i n],.i o] λg h=>Aj h (wz 60 [.p c0,.i g]<|Afb jn Q q 0 g h)<|Afb jn Q q 0 g h) w'):=by kernel_rfl
theorem A2u:Aw jn PR A8t f35 [.p c0,.agg #[.i o1_0,.s o1_1,.s o1_2,.i o1_3]] Q=(Az [.i o1_0,.s o1_1,.s o1_2,.i o1_3] 41 λq=>Az [.i 0,.b false,.s Ae,.l none 0 0] 38 λd=>A5 λS=>Ac c0 λr t=>EK S r (t+2) λu=>A0 q 3 λv=>Al true S<|Bw 62 [.p u,.i v] λg=>Aj (g==0) (A0 q 3 λw=>wz 60 [.p c0,.i w]<|st d 0 (.i g)<|st d 1 (.b false)<|st d 2 (.s Ae)<|
 st d 3 (.l none 0 0)<|A0 d 0 λx=>Ix d 1 λh=>Ci d 2 λj=>Bb d 3 λe=>Q<|.agg #[.i x,.b h,.s j,.l e.a e.n e.c])<|st d 0 (.i g)<|st d 1 (.b false)<|st d 2 (.s Ae)<|st d 3 (.l none 0 0)<|A0 d 0 λk=>Ix d 1 λm=>Ci d 2 λo=>Bb d 3 λf=>Q<|.agg #[.i k,.b m,.s o,.l f.a f.n f.c]):=by kernel_rfl
theorem Afg:Aa6 jn Q ((.p c0)::us 2 ((pq o3b o3o)::(pq r4b r4o)::us 49 []))=(A5 λS=>Ac c0 λf g=>EK S f (g+1) λh=>Dj S o3b (o3o+3) λj=>Ac c0 λk m=>Bb k m λo=>Al true S<|wz 64 [.p h,.i<|wrap .i64<|j*(o.n:Int)]<|A0 r4b r4o λq=>Ix r4b (r4o+1) λr=>Ci r4b ((r4o+1)+1) λt=>Bb r4b (((r4o+1)+1)+1) λd=>st r4b r4o (.i q)<|st r4b (r4o+1) (.b r)<|st r4b ((r4o+1)+1) (.s t)<|st r4b (((r4o+1)+1)+1) (.l d.a d.n d.c)<|
 A0 r4b r4o λu=>Ix r4b (r4o+1) λv=>Ci r4b ((r4o+1)+1) λw=>Bb r4b (((r4o+1)+1)+1) λe=>Q<|.agg #[.i u,.b v,.s w,.l e.a e.n e.c]):=by kernel_rfl
theorem R2{d:Sl}{b:Int}:XE jn Q (m3+1) c0 o3b o3o r4b r4o d t22 b=(Aj (decide<|b<t22) (CU d.a d.n b λh j=>Bo h (j+b.toNat*1) λk=>A0 o3b (o3o+3) λm=>GC .slc (.int .i64) PR 63 [.p k,.i m] λ(e:Sl)(o:Int)=>Bb r4b (r4o+3) λf=>Bl 9 1 16 [.s Ae] ⟨f.a,f.n,f.c⟩ e.n (λw=>H3 w e.a<|e.n*1) λg=>st r4b (r4o+3) (.l g.a g.n g.c)<|XE jn Q m3 c0 o3b o3o r4b r4o d t22<|wrap .i64<|b+1)<|A8x jn Q c0 o3b o3o r4b r4o):=by kernel_rfl
theorem Aff:Aa5 jn Q ((.p c0)::us 2 ((pq o3b o3o)::(pq r4b r4o)::us 49 []))=(Ac c0 λb c=>Bb b c λa=>Em λm=>XE jn Q m c0 o3b o3o r4b r4o a (a.n:Int) 0):=by kernel_rfl
theorem Afe{d:Bool}:Aa4 jn Q ((.p c0)::us 2 ((pq o3b o3o)::(pq r4b r4o)::us 11 ((.b d)::us 37 [])))=(Aj d (st r4b r4o (.i 1)<|st r4b (r4o+1) (.b false)<|st r4b ((r4o+1)+1) (.s Ae)<|st r4b (((r4o+1)+1)+1) (.l none 0 0)<|A0 r4b r4o λf=>Ix r4b (r4o+1) λg=>Ci r4b ((r4o+1)+1) λh=>Bb r4b (((r4o+1)+1)+1) λe=>Q<|.agg #[.i f,.b g,.s h,.l e.a e.n e.c])<|A8w jn Q c0 o3b o3o r4b r4o):=by kernel_rfl
theorem A2x:Aw jn PR KQ f36 [.p c0,.agg #[.i o1_0,.s o1_1,.s o1_2,.i o1_3]] Q=(Az [.i o1_0,.s o1_1,.s o1_2,.i o1_3] 41 λa=>Az [.i 0,.b false,.s Ae,.l none 0 0] 38 λd=>A0 a 3 λe=>Aj (decide<|e<1) (Afd jn Q c0 a 0 d 0 true)<|A0 a 3 λc=>Afd jn Q c0 a 0 d 0<|decide<|c>1024):=by kernel_rfl
theorem A27:Aw jn PR Aca f40 [.p t0] Q=(Aj (isNone t0) (Q<|.i 0)<|Ac t0 λa b=>Bo a b λc=>Bw 70 [.p c] λd=>Q<|.i d):=by kernel_rfl
theorem A28:Aw jn PR Aca f41 [.p t0] Q=(Aj (isNone t0) (Q<|.l none 0 0)<|Ac t0 λd e=>Bo d e λf=>GW 71 [.p f] λb=>Q<|.l b.a b.n b.c):=by kernel_rfl
theorem Ajc:Aw jn PR Aca f42 [.p m0] Q=(Aj (!isNone m0) (Ac m0 λa c=>Mk a (c+3) (Q<|.b false) λ(d:TypeId)(e:Value)=>Q<|.b true)<|Q<|.b false):=by kernel_rfl
theorem A29:Aw jn PR Aca f43 [.p m0] Q=(Aj (isNone m0) (Q<|.i<|-1)<|Ac m0 λa b=>A0 a b λc=>Q<|.i c):=by kernel_rfl
theorem A3a:Aw jn PR Aca f44 [.p s0] Q=(Az [.i 0,.i 0,.i 0,.i 0,.i 0,.i 0] 58 λa=>Aj (isNone s0) (st a 0 (.i 0)<|st a 1 (.i 0)<|st a 2 (.i 0)<|st a 3 (.i 0)<|st a 4 (.i 0)<|st a 5 (.i 0)<|A0 a 0 λr=>A0 a 1 λs=>A0 a 2 λt=>A0 a 3 λu=>A0 a 4 λv=>A0 a 5 λw=>Q<|.agg #[.i r,.i s,.i t,.i u,.i v,.i w]) (Ac s0 λb c=>A0 b (c+3) λd=>
 A0 b ((c+3)+1) λe=>A0 b (((c+3)+1)+1) λf=>A0 b ((((c+3)+1)+1)+1) λg=>A0 b (((((c+3)+1)+1)+1)+1) λh=>A0 b ((((((c+3)+1)+1)+1)+1)+1) λj=>st a 0 (.i d)<|st a 1 (.i e)<|st a 2 (.i f)<|st a 3 (.i g)<|st a 4 (.i h)<|st a 5 (.i j)<|A0 a 0 λk=>A0 a 1 λl=>A0 a 2 λm=>A0 a 3 λn=>A0 a 4 λo=>A0 a 5 λq=>Q<|.agg #[.i k,.i l,.i m,.i n,.i o,.i q])):=by kernel_rfl
theorem A3b{a b1:Int}:Aw jn PR Aca f45 [.i a,.i b1] Q=(Bw 72 [.i a,.i 0,.i 1099511627776] λb=>Bw 72 [.i b1,.i 0,.i 1099511627776] λc=>Q<|.i<|if 1099511627776<(wrap .i64<|b+c) then 1099511627776 else (wrap .i64<|b+c)):=by kernel_rfl
theorem A3c:Aw jn PR Aca f46 [.i rate0,.i room1] Q=(L1 73 [.i rate0] λb=>Az [.p b,.i 0,.p none,.p none,.p none,.p none,.p none] 131 λa=>wz 64 [pq a 0,.i room1]<|Q<|pq a 0):=by kernel_rfl
theorem A3d{b a c:Int}:Aw jn PR Aca f47 [.i room0,.i b,.i a,.i c] Q=(Ey 74 [.i room0] λf=>Aj (!f) (Q<|.tuple #[.p none,.i 1])<|Ahr 75 [.i b,.i a] λg d=>Aj (d != 0) (Q<|.tuple #[.p none,.i d])<|Ahr 76 [.i c,.i room0] λh e=>Aj (e != 0) (Q<|.tuple #[.p none,.i e]) (L1 77 [] λj=>Az [.p j,.p g,.p h,.i 0,.i 0,.i 0,.i 0,.i 0,.i 0,.l none 0 0] 79 λk=>
 Q (.tuple #[pq k 0,.i 0]))):=by kernel_rfl
theorem Afh:Aa9 jn Q ((.i kind0)::(.i hold1)::(.p t2)::us 23 [])=(λw=>Ai PR 79 #[] w λe w'=>∃a:Int,∃b:Int,∃c:Int,∃d:Int,∃f:Int,e = .returned (.agg #[.int .u64 a,.int .u64 b,.int .u64 c,.int .u64 d,.int .u64 f])/\(Az [.i kind0,.i hold1,.p t2,.int .u64 a,.int .u64 b,.int .u64 c,.int .u64 d,.int .u64 f,.i kind0,.i 0] 143 λg=>Q<|.tuple #[pq g 0,.i 0]) w'):=by kernel_rfl
theorem A3e:Aw jn PR Aus f48 [.i kind0,.i hold1,.p t2] Q=(Ey 78 [.i kind0] λa=>Aj (!a) (Q<|.tuple #[.p none,.i 4])<|Aj (decide<|hold1<1) (Q<|.tuple #[.p none,.i 1])<|Aj (decide<|hold1>256) (Q<|.tuple #[.p none,.i 1])<|A8y jn Q kind0 hold1 t2):=by kernel_rfl
theorem A3f{b:Sl}:Aw jn PR Aca f49 [.l b.a b.n b.c] Q=(GW 80 [.l b.a b.n b.c] λd=>Az [.l d.a d.n d.c,.i 0] 147 λe=>Q<|pq e 0):=by kernel_rfl
theorem A3g:Aw jn PR A8z f50 [.p c0,.s key1] Q=(A5 λS=>Ac c0 λe f=>Fg S e f λc=>Ac c0 λg h=>Bb g h λj=>Al true S<|Bw 81 [.s key1,.i (j.n:Int)] λd=>Al true S<|CU c.a c.n d λk l=>Bo k (l+d.toNat*1) λb=>Q<|.p b):=by kernel_rfl
theorem A3h:Aw jn PR Aca f51 [.p s0,.s key1,.i now2] Q=(Bw 82 [.p s0,.s key1,.i now2] λt=>Aj (t != 0) (Q<|.tuple #[.s Ae,.b false,.l none 0 0,.i t])<|GW 83 [.p s0,.s key1,.i now2] λd=>Ac s0 λu v=>wz 84 [.p<|some ⟨u,(v+3),none⟩]<|Ac s0 λw x=>Bo w x λy=>Fv 85 [.p y,.s key1,.i now2] λf e=>Aj e (Ac s0 λg h=>wz 84 [.p<|some ⟨g,((h+3)+1),none⟩]<|
 Ac s0 λj k=>Bo j (k+1) λm=>Ey 86 [.p m,.s key1] λo=>Aj (!o) (Ac s0 λq r=>wz 84 [.p<|some ⟨q,((r+3)+4),none⟩]<|Q<|.tuple #[.s f,.b e,.l d.a d.n d.c,.i 0])<|Q<|.tuple #[.s f,.b e,.l d.a d.n d.c,.i 0])<|Q<|.tuple #[.s f,.b e,.l d.a d.n d.c,.i 0]):=by kernel_rfl
theorem Afj:Abb jn Q (us 29 [])=(Q<|.b true):=by kernel_rfl
theorem F6{a b c d e:OA}:Afk jn Q (m2+1) key1 a b c d e t22=(Aj (decide<|t22<5) (AV ((0:Int)<=t22/\t22<((5:Nat):Int))<|λw=>∃f:OA,([.p a,.p b,.p c,.p d,.p e]:List Value)[t22.toNat]? = some (.p f)/\isU (.p f)=false/\(Ey 88 [.p f,.s key1] λg=>Afk jn Q m2 key1 a b c d e<|wrap .i64<|t22+1) w)<|A82 jn Q):=by kernel_rfl
theorem Afi:Aba jn Q ((.p p0)::(.s key1)::us 27 [])=(Ac p0 λa b=>Bo a (b+2) λe=>Bo a ((b+2)+1) λf=>Bo a (((b+2)+1)+1) λg=>Bo a ((((b+2)+1)+1)+1) λc=>Bo a (((((b+2)+1)+1)+1)+1) λd=>Em λm=>Afk jn Q m key1 e f g c d 0):=by kernel_rfl
theorem A3i:Aw jn PR R3 f52 [.p p0,.s key1] Q=(Aj (isNone p0) (Q<|.b false)<|Ac p0 λa c=>Bo a c λd=>Ey 87 [.p d,.s key1] λe=>Aj (!e) (Q<|.b false)<|A81 jn Q p0 key1):=by kernel_rfl
theorem Afm:Abd jn Q ((.p s0)::(.s key1)::(.s val2)::(.i now3)::(.i life4)::us 9 ((.l gone14.a gone14.n gone14.c)::us 90 []))=(Bw 93 [.p s0] λx=>Ac s0 λg h=>Bo g (h+2) λj=>GW 94 [.p j,.s key1] λb=>Ac s0 λk m=>Bb k (m+9) λd=>Az [.i 2,.s key1] 159 λo=>Bl 159 2 24 [.i 0,.s Ae] ⟨d.a,d.n,d.c⟩ 1 (λw=>H3 w (some ⟨o,0,none⟩)<|1*2) λe=>Ac s0 λq r=>st q (r+9) (.l e.a e.n e.c)<|
 wz 95 [.p s0,.l b.a b.n b.c]<|Ac s0 λt u=>Bo t u λv=>Bbm 89 [.p v,.s key1,.s val2,.i now3,.i life4] λy z=>Bl 9 1 16 [.s Ae] ⟨gone14.a,gone14.n,gone14.c⟩ b.n (λw=>H3 w b.a<|b.n*1) λf=>Q<|.tuple #[.l f.a f.n f.c,.i 0]):=by kernel_rfl
theorem Afl{d:Bool}:Abc jn Q ((.p s0)::(.s key1)::(.s val2)::(.i now3)::(.i life4)::us 9 ((.l gone14.a gone14.n gone14.c)::us 42 ((.b d)::us 47 [])))=(Aj d (Ac s0 λe f=>Bo e f λg=>Bbm 89 [.p g,.s key1,.s val2,.i now3,.i life4] λh j=>wz 92 [.p s0,.i 2,.s key1]<|Q<|.tuple #[.l gone14.a gone14.n gone14.c,.i 0])<|A83 jn Q s0 key1 val2 now3 life4 gone14):=by kernel_rfl
theorem A3k:Aw jn PR XK f53 [.p s0,.s key1,.s val2,.i now3,.i life4] Q=(Aj (isNone s0) (Q<|.tuple #[.l none 0 0,.i 1])<|L1 77 [] λn=>Bbm 89 [.p n,.s key1,.s val2,.i now3,.i life4] λv k=>Aj (k != 0) (Q<|.tuple #[.l none 0 0,.i k]) (GW 83 [.p s0,.s key1,.i now3] λm=>Ac s0 λo q=>wz 84 [.p<|some ⟨o,((q+3)+2),none⟩]<|A5 λS=>Ac s0 λr t=>Bo r t λu=>
 Al true S<|Ey 90 [.p u,.s key1] λa=>Al true S<|Aj a (Al true S<|XJ jn Q s0 key1 val2 now3 life4 m true)<|Ac s0 λb c=>EK S b c λd=>Ac s0 λe f=>EK S e (f+2) λg=>Bw 40 [.p d] λh=>Al true S<|Bw 91 [.p g] λj=>XJ jn Q s0 key1 val2 now3 life4 m<|decide<|h<j)):=by kernel_rfl
theorem A3l:Aw jn PR Aca f54 [.p s0,.s key1,.i now2] Q=(Bw 82 [.p s0,.s key1,.i now2] λf=>Aj (f != 0) (Q<|.tuple #[.b false,.l none 0 0,.i f])<|GW 83 [.p s0,.s key1,.i now2] λd=>Ac s0 λg h=>Bo g h λj=>Ey 96 [.p j,.s key1] λe=>Aj e (wz 92 [.p s0,.i 3,.s key1]<|Q<|.tuple #[.b e,.l d.a d.n d.c,.i 0])<|Q<|.tuple #[.b e,.l d.a d.n d.c,.i 0]):=by kernel_rfl
theorem Afo:Abf jn Q (us 5 ((.l gone5.a gone5.n gone5.c)::us 28 []))=(Q<|.l gone5.a gone5.n gone5.c):=by kernel_rfl
theorem R5{b:Sl}{d:Int}:XL jn Q (m2+1) s0 now1 gone5 b d t22=(Aj (decide<|t22<d) (CU b.a b.n t22 λg h=>Ci g (h+t22.toNat*1) λj=>GW 83 [.p s0,.s j,.i now1] λe=>Bl 9 1 16 [.s Ae] ⟨gone5.a,gone5.n,gone5.c⟩ e.n (λw=>H3 w e.a<|e.n*1) λf=>XL jn Q m2 s0 now1 f b d<|wrap .i64<|t22+1)<|A86 jn Q gone5):=by kernel_rfl
theorem Afn:Abe jn Q ((.p s0)::(.i now1)::us 32 [])=(Ac s0 λb c=>Bo b c λd=>GW 98 [.p d,.i now1] λa=>Em λm=>XL jn Q m s0 now1 ⟨none,0,0⟩ a (a.n:Int) 0):=by kernel_rfl
theorem A3m:Aw jn PR R4 f55 [.p s0,.i now1] Q=(Aj (isNone s0) (Q<|.l none 0 0)<|Ey 97 [.i now1] λa=>Aj (!a) (Q<|.l none 0 0)<|A85 jn Q s0 now1):=by kernel_rfl
theorem A3n:Aw jn PR Aca f56 [.p s0] Q=(Aj (isNone s0) (Q<|.i 0)<|Bw 93 [.p s0] λa=>Q<|.i a):=by kernel_rfl
theorem A3o:Aw jn PR Aca f57 [.p s0] Q=(Aj (isNone s0) (Q<|.tuple #[.s Ae,.b false])<|Bw 93 [.p s0] λi=>Ac s0 λd e=>Bo d (e+2) λf=>Fv 99 [.p f] λc a=>Aj a (Ac s0 λg h=>wz 84 [.p<|some ⟨g,((h+3)+5),none⟩]<|Q<|.tuple #[.s c,.b a])<|Q<|.tuple #[.s c,.b a]):=by kernel_rfl
theorem Afq{a:Int}:Abg jn Q ((.p c0)::us 7 ((.i a)::us 72 []))=(A5 λS=>Ac c0 λc d=>Dj S c (d+9) λe=>Ac c0 λf g=>A0 f (g+1) λh=>Al true S<|Aj (decide<|e<h) (Q<|.tuple #[.i a,.b false])<|Bw 62 [.p c0,.i a] λj=>Q<|.tuple #[.i a,.b true]):=by kernel_rfl
theorem A3p{a c d f g n:Int}:Aw jn PR Aut f58 [.p c0,.agg #[.i a,.i c,.i d,.i f,.i g],.i n] Q=(Az [.i a,.i c,.i d,.i f,.i g] 100 λo=>Aj (isNone c0) (Q<|.tuple #[.i 0,.b false]) (A5 λS=>Ac c0 λq r=>wLu S q (r+3) λX4=>wLu S q ((r+3)+1) λX5=>wLu S q (((r+3)+1)+1) λX6=>wLu S q ((((r+3)+1)+1)+1) λX7=>wLu S q (((((r+3)+1)+1)+1)+1) λX8=>
 A0 o 0 λX9=>A0 o 1 λy=>A0 o 2 λz=>A0 o 3 λA=>A0 o 4 λB=>Al true S<|λw=>Ai PR 100 #[.agg #[.int .u64 X4,.int .u64 X5,.int .u64 X6,.int .u64 X7,.int .u64 X8],.agg #[.i X9,.i y,.i z,.i A,.i B],.i n] w λe w'=>∃s:Int,∃t:Int,∃u:Int,∃v:Int,∃x:Int,e = .returned (.agg #[.int .u64 s,.int .u64 t,.int .u64 u,.int .u64 v,.int .u64 x])/\(Ac c0 λj k=>st j (k+3) (.int .u64 s)<|st j ((k+3)+1) (.int .u64 t)<|st j (((k+3)+1)+1) (.int .u64 u)<|st j ((((k+3)+1)+1)+1) (.int .u64 v)<|
 st j (((((k+3)+1)+1)+1)+1) (.int .u64 x)<|A5 λS=>Ac c0 λl m=>wLu S l (m+3) λC=>wLu S l ((m+3)+1) λD=>wLu S l (((m+3)+1)+1) λE=>wLu S l ((((m+3)+1)+1)+1) λF=>wLu S l (((((m+3)+1)+1)+1)+1) λG=>Ac c0 λH I=>Bo H (I+2) λJ=>Al true S<|call1 (.int .u32) PR 102 [.p J] λ(K:Int)=>Al true S<|Bw 101 [.agg #[.int .u64 C,.int .u64 D,.int .u64 E,.int .u64 F,.int .u64 G],.int .u32 K] λh=>Ac c0 λL M=>A0 L M λN=>Aj (h==N) (
 Ac c0 λO P=>st O (P+8) (.i h)<|Ac c0 λR T=>st R (T+9) (.i 0)<|Q<|.tuple #[.i h,.b false])<|Ac c0 λU V=>A0 U (V+8) λW=>Aj (h==W) (Ac c0 λX Y=>A0 X (Y+9) λZ=>Ac c0 λaa ab=>st aa (ab+9) (.i<|wrap .i64<|Z+1)<|Afp jn Q c0 h)<|Ac c0 λac ad=>st ac (ad+8) (.i h)<|Ac c0 λae af=>st ae (af+9) (.i 1)<|Afp jn Q c0 h) w')):=by kernel_rfl
theorem Afr:Abh jn Q (us 2 ((pq ghosts2b ghosts2o)::(.i all3)::us 25 []))=(A0 ghosts2b ghosts2o λa=>A0 ghosts2b (ghosts2o+1) λb=>A0 ghosts2b ((ghosts2o+1)+1) λc=>A0 ghosts2b (((ghosts2o+1)+1)+1) λd=>A0 ghosts2b ((((ghosts2o+1)+1)+1)+1) λe=>st ghosts2b ghosts2o (.i a)<|st ghosts2b (ghosts2o+1) (.i b)<|st ghosts2b ((ghosts2o+1)+1) (.i c)<|st ghosts2b (((ghosts2o+1)+1)+1) (.i d)<|st ghosts2b ((((ghosts2o+1)+1)+1)+1) (.i e)<|A0 ghosts2b ghosts2o λf=>
 A0 ghosts2b (ghosts2o+1) λg=>A0 ghosts2b ((ghosts2o+1)+1) λh=>A0 ghosts2b (((ghosts2o+1)+1)+1) λj=>A0 ghosts2b ((((ghosts2o+1)+1)+1)+1) λk=>Q<|.tuple #[.agg #[.i f,.i g,.i h,.i j,.i k],.i all3]):=by kernel_rfl
theorem F7{a b c d f:OA}:Afs jn Q (m1+1) ghosts2b ghosts2o all3 a b c d f t14=(Aj (decide<|t14<5) (AV ((0:Int)<=t14/\t14<((5:Nat):Int))<|λw=>∃h:OA,([.p a,.p b,.p c,.p d,.p f]:List Value)[t14.toNat]? = some (.p h)/\isU (.p h)=false/\(λw=>Ai PR 103 #[.p h] w λe w'=>∃j:Int,∃k:Int,∃l:Int,e = .returned (.agg #[.i j,.i k,.i l])/\(Az [.i 0,.i 0,.i 0] 165 λg=>st g 0 (.i j)<|st g 1 (.i k)<|
 st g 2 (.i l)<|A5 λS=>Dj S g 2 λm=>Dj S g 0 λn=>AV ((0:Int)<=t14/\t14<((5:Nat):Int))<|st ghosts2b (ghosts2o+t14.toNat*1) (.i m)<|Al true S<|Afs jn Q m1 ghosts2b ghosts2o n a b c d f<|wrap .i64<|t14+1) w') w)<|A88 jn Q ghosts2b ghosts2o all3):=by kernel_rfl
theorem A3q:Aw jn PR XM f59 [.p p0] Q=(Az [.i 0,.i 0,.i 0,.i 0,.i 0] 100 λa=>Aj (isNone p0) (A0 a 0 λl=>A0 a 1 λn=>A0 a 2 λo=>A0 a 3 λq=>A0 a 4 λr=>st a 0 (.i l)<|st a 1 (.i n)<|st a 2 (.i o)<|st a 3 (.i q)<|st a 4 (.i r)<|A0 a 0 λs=>A0 a 1 λt=>A0 a 2 λu=>A0 a 3 λd=>A0 a 4 λe=>Q<|.tuple #[.agg #[.i s,.i t,.i u,.i d,.i e],.i 0]) (
 Ac p0 λb c=>Bo b (c+2) λf=>Bo b ((c+2)+1) λg=>Bo b (((c+2)+1)+1) λh=>Bo b ((((c+2)+1)+1)+1) λj=>Bo b (((((c+2)+1)+1)+1)+1) λk=>Em λm=>Afs jn Q m a 0 0 f g h j k 0)):=by kernel_rfl
theorem R6{d:Sl}{c b:Int}:XN jn Q (m1+1) kind1 d c b=(Aj (decide<|b<c) (CU d.a d.n b λe f=>Bo e (f+b.toNat*1) λg=>Bw 104 [.p g,.i kind1] λh=>XN jn Q m1 kind1 d c<|wrap .i64<|b+1)<|Q<|.tuple #[]):=by kernel_rfl
theorem A3r:Aw jn PR Auu f60 [.p c0,.i kind1] Q=(Ac c0 λb c=>Bb b c λa=>Em λm=>XN jn Q m kind1 a (a.n:Int) 0):=by kernel_rfl
theorem A3s:Aw jn PR Aca f61 [.i kind0] Q=(Aj (kind0==0) (Q<|.s A56)<|Aj (kind0==1) (Q<|.s Axj)<|Aj (kind0==2) (Q<|.s Ba6)<|Aj (kind0==3) (Q<|.s Ady)<|Aj (kind0==4) (Q<|.s Ahe)<|Q<|.s Ae):=by kernel_rfl
theorem A3t:Aw jn PR Aca f62 [.p c0,.i kind1] Q=(Aj (isNone c0) (Q<|.i 1)<|Ey 78 [.i kind1] λa=>Aj (!a) (Q<|.i 4)<|Ac c0 λb c=>st b c (.i kind1)<|Ac c0 λd e=>st d (e+8) (.i kind1)<|Ac c0 λf g=>st f (g+9) (.i 0)<|Q<|.i 0):=by kernel_rfl
theorem Aft:Abi jn Q ((.p s0)::(.i room1)::us 24 [])=(Bw 93 [.p s0] λg=>Ac s0 λd e=>Bo d (e+2) λf=>GW 105 [.p f,.i room1] λb=>wz 95 [.p s0,.l b.a b.n b.c]<|Q<|.tuple #[.l b.a b.n b.c,.i 0]):=by kernel_rfl
theorem A3u:Aw jn PR MW f63 [.p s0,.i room1] Q=(Aj (isNone s0) (Q<|.tuple #[.l none 0 0,.i 1])<|Ey 74 [.i room1] λa=>Aj (!a) (Q<|.tuple #[.l none 0 0,.i 1])<|A89 jn Q s0 room1):=by kernel_rfl
theorem F8{a:Int}:Afu jn Q (m1+1) p0 a=(Aj (decide<|a<5) (A5 λS=>Ac p0 λe f=>Ac p0 λg b=>A0 e (f+1) λc=>Ahr 107 [.i a,.i c] λd h=>AV ((0:Int)<=a/\a<((5:Nat):Int))<|st g ((b+2)+a.toNat*1) (.p d)<|Afu jn Q m1 p0<|wrap .i64<|a+1)<|Q<|.tuple #[]):=by kernel_rfl
theorem A3v:Aw jn PR Auv f64 [.p p0,.i room1] Q=(Aj (isNone p0) (Q<|.tuple #[])<|Ac p0 λa b=>Bo a b λc=>Bw 106 [.p c,.i room1] λd=>Ac p0 λe f=>st e (f+1) (.i d)<|Em λm=>Afu jn Q m p0 0):=by kernel_rfl
theorem A3w:Aw jn PR Aca f70 [.p x0] Q=(Aj (isNone x0) (Q<|.i 0)<|Ac x0 λa b=>A0 a (b+2) λc=>Q<|.i c):=by kernel_rfl
theorem Afv:Abj jn Q (us 3 ((.l l3.a l3.n l3.c)::us 25 []))=(wz 112 [.l l3.a l3.n l3.c]<|Q<|.l l3.a l3.n l3.c):=by kernel_rfl
theorem R8{d:Sl}{e:Int}:R7 jn Q (m1+1) l3 d e t13=(Aj (decide<|t13<e) (CU d.a d.n t13 λf g=>A0 f (g+t13.toNat*4) λm=>Ci f ((g+t13.toNat*4)+1) λo=>Ci f (((g+t13.toNat*4)+1)+1) λp=>A0 f ((((g+t13.toNat*4)+1)+1)+1) λq=>Az [.i 0,.s Ae,.s Ae,.i 0] 178 λb=>st b 0 (.i m)<|st b 1 (.s o)<|st b 2 (.s p)<|st b 3 (.i q)<|A0 b 0 λh=>Aj (h==2) (Ci b 1 λj=>Az [.s j] 9 λk=>Bl 9 1 16 [.s Ae] ⟨l3.a,l3.n,l3.c⟩ 1 (λw=>H3 w (some ⟨k,0,none⟩)<|1*1) λl=>
 R7 jn Q m1 l d e (wrap .i64<|t13+1))<|R7 jn Q m1 l3 d e<|wrap .i64<|t13+1)<|A9b jn Q l3):=by kernel_rfl
theorem A3x:Aw jn PR XO f71 [.p x0] Q=(Aj (isNone x0) (Q<|.l none 0 0)<|Ac x0 λb c=>Bb b (c+1) λa=>Em λm=>R7 jn Q m ⟨none,0,0⟩ a (a.n:Int) 0):=by kernel_rfl
theorem A3y{c a b:Int}:Aw jn PR Aca f72 [.i c,.i a,.i b] Q=(Q<|.i<|if b<(if a>c then a else c) then b else (if a>c then a else c)):=by kernel_rfl
theorem A3z:Aw jn PR Aca f73 [.i rate0] Q=(Bw 72 [.i rate0,.i 0,.i 16777216] λa=>Az [.i a,.i 0,.i 0] 181 λb=>Q<|pq b 0):=by kernel_rfl
theorem A30:Aw jn PR Aca f74 [.i room0] Q=(Aj (decide<|room0>=1) (Q<|.b<|decide<|room0<=1024)<|Q<|.b false):=by kernel_rfl
end Go.Proofs.YtjipofkjmmpjdaaGreat
namespace Go.Proofs.YtjipofkjmmpjdaaGreat
open Go.Hb
section
variable(jn:Jn)(Q:VW)
def J0:KP:=⟨[(8,[0,1])],[(3,[0,2,3,5,6,8,9])]⟩
def Abk:EW:=cE f75 J0 jn Q [1,1] (rE f75 Q) A8
def A9c(b a:Int):WP:=jn 8 (Abk jn Q) ((.i b)::(.i a)::us 26 [])
def XP:KP:=⟨[(9,[0,1,3]),(16,[0,1])],[]⟩
def A9d:EW:=sE f79 XP jn Q [1,1,1] (rE f79 Q) A8
def Abl:EW:=cE f79 XP jn Q [1,1,1] (rE f79 Q) A8
def A9e(a b c d:Nat):WP:=jn 16 (Abl jn Q) ((pq a b)::(pq c d)::us 9 [])
def XQ(m1:Nat)(a b c d:Nat)(e:Int):WP:=Dl PR XP jn (bE f79 [1,1,0,1,0,0]) (AA 0 (A9d jn Q) A8) (rE f79 Q) m1 ((pq a b)::(pq c d)::us 1 ((.i e)::us 7 []))
def Aux:KP:=⟨[(10,[0,1])],[]⟩
def Abm:EW:=cE f83 Aux jn Q [1,1] (rE f83 Q) A8
def Auw(s0:OA)(a:BA):WP:=jn 10 (Abm jn Q) ((.p s0)::(.s a)::us 36 [])
def A9f:KP:=⟨[],[(4,[0,2,3,4,5,7])]⟩
def RB:KP:=⟨[(12,[0,5,6,7]),(19,[0,5,43,44,45]),(26,[5])],[]⟩
def A9g:EW:=sE f88 RB jn Q [1,1,1,1,1,1,1] (rE f88 Q) A8
def Abo:EW:=cE f88 RB jn Q [1,1,1,1,1,1,1] (rE f88 Q) A8
def A9h(a:Bool):WP:=jn 26 (Abo jn Q) (us 5 ((.b a)::us 51 []))
def Af1(m2:Nat)(s0:OA)(e:Bool)(d:Sl)(f g:Int):WP:=Dl PR RB jn (bE f88 [1,1,1,1,1,1,0,1,0,0]) (AA 0 (A9g jn Q) A8) (rE f88 Q) m2 ((.p s0)::us 4 ((.b e)::us 37 ((.l d.a d.n d.c)::(.i f)::(.i g)::us 11 [])))
def Abn:EW:=cE f88 RB jn Q [1,1,1,1] (rE f88 Q) A8
def Afz(s0:OA)(f:Bool)(d:Sl)(e:Bool):WP:=jn 12 (Abn jn Q) ((.p s0)::us 4 ((.b f)::(.l d.a d.n d.c)::(.b e)::us 49 []))
def Af5:KP:=⟨[(20,[0,1,2,3,4]),(26,[0,1,12])],[(12,[0,1,2,3,4,7,8])]⟩
def Abq:EW:=cE f89 Af5 jn Q [1,1,1,1] (rE f89 Q) A8
def Af3(t0:OA)(a:BA)(b c:Nat):WP:=jn 26 (Abq jn Q) ((.p t0)::(.s a)::us 10 ((pq b c)::us 41 []))
def Abp:EW:=cE f89 Af5 jn Q [1,1] (rE f89 Q) A8
def A9i(t0:OA)(b c:BA)(d a:Int):WP:=jn 20 (Abp jn Q) ((.p t0)::(.s b)::(.s c)::(.i d)::(.i a)::us 49 [])
def XR:KP:=⟨[(9,[0,3,11,12,13]),(16,[0,3])],[(5,[0,1,2,3,4])]⟩
def A9j:EW:=sE f93 XR jn Q [1,1,1] (rE f93 Q) A8
def Abr:EW:=cE f93 XR jn Q [1,1,1] (rE f93 Q) A8
def A9k(s0:OA)(b:Sl):WP:=jn 16 (Abr jn Q) ((.p s0)::us 2 ((.l b.a b.n b.c)::us 33 []))
def XS(m1:Nat)(s0:OA)(d b:Sl)(e f:Int):WP:=Dl PR XR jn (bE f93 [1,1,0,1,0,0]) (AA 0 (A9j jn Q) A8) (rE f93 Q) m1 ((.p s0)::us 2 ((.l d.a d.n d.c)::us 7 ((.l b.a b.n b.c)::(.i e)::(.i f)::us 23 [])))
def MX:KP:=⟨[(15,[0,1,5]),(16,[0,1,5]),(20,[0,1,5])],[(6,[0,2,3,4,5,6,7,8,10,11])]⟩
def Af7:EW:=sE f94 MX jn Q [1,1,1,1,1] (rE f94 Q) A8
def A9l(m1:Nat):EW:=JG PR MX jn (bE f94 [1,1,1,1,0,0,0]) (AA 0 (Af7 jn Q) A8) (rE f94 Q) m1
def Abs(m1:Nat):EW:=cE f94 MX jn Q [1,1,1,1,0,0,0,1] (A9l jn Q m1) (AA 0 (Af7 jn Q) A8)
def Auy(m1:Nat)(e:OA)(d:BA)(b:Sl):WP:=jn 16 (Abs jn Q m1) ((.p e)::(.s d)::us 3 ((.l b.a b.n b.c)::us 45 []))
def Abt:EW:=cE f94 MX jn Q [1,1,1,1,1] (rE f94 Q) A8
def RD(e:OA)(d:BA)(b:Sl):WP:=jn 20 (Abt jn Q) ((.p e)::(.s d)::us 3 ((.l b.a b.n b.c)::us 45 []))
def XT(m1:Nat)(e:OA)(d:BA)(b:Sl):WP:=Dl PR MX jn (bE f94 [1,1,1,1,0,0,0]) (AA 0 (Af7 jn Q) A8) (rE f94 Q) m1 ((.p e)::(.s d)::us 3 ((.l b.a b.n b.c)::us 45 []))
def Auz:KP:=⟨[(5,[0,6,7,8])],[]⟩
def RG(m1:Nat)(s0:OA)(b:Sl)(t7 d:Int):WP:=Dl PR Auz jn (bE f95 [1,0,0]) (AA 0 (rE f95 Q) A8) (rE f95 Q) m1 ((.p s0)::us 5 ((.l b.a b.n b.c)::(.i t7)::(.i d)::us 15 []))
def XU:KP:=⟨[(9,[0,1,5,11,12,13]),(20,[5])],[]⟩
def A9m:EW:=sE f98 XU jn Q [1,1,1] (rE f98 Q) A8
def Abu:EW:=cE f98 XU jn Q [1,1,1] (rE f98 Q) A8
def A9n(b:Sl):WP:=jn 20 (Abu jn Q) (us 5 ((.l b.a b.n b.c)::us 29 []))
def RI(m1:Nat)(t0:OA)(d:Int)(e b:Sl)(f g:Int):WP:=Dl PR XU jn (bE f98 [1,1,0,1,0,0]) (AA 0 (A9m jn Q) A8) (rE f98 Q) m1 ((.p t0)::(.i d)::us 3 ((.l e.a e.n e.c)::us 5 ((.l b.a b.n b.c)::(.i f)::(.i g)::us 21 [])))
def I9:KP:=⟨[(11,[2,3,4,6,14]),(18,[3,6]),(23,[3,6,8,32]),(30,[3,6])],[(6,[0,1,2,3,4,5,7,11])]⟩
def Azc:EW:=sE f100 I9 jn Q [1,1,1] (rE f100 Q) A8
def Ap3:EW:=sE f100 I9 jn Q [1,1,1,1,1] (rE f100 Q) A8
def Ui:EW:=cE f100 I9 jn Q [1,1,1,1,1] (rE f100 Q) A8
def Aze(a b c d:Nat):WP:=jn 30 (Ui jn Q) (us 3 ((pq a b)::us 2 ((pq c d)::us 39 [])))
def PJ(m3:Nat)(a b c d:Nat)(f e:Int):WP:=Dl PR I9 jn (bE f100 [1,1,1,1,0,1,0,0]) (AA 2 (Ap3 jn Q) A8) (rE f100 Q) m3 (us 3 ((pq a b)::us 2 ((pq c d)::us 1 ((.int .u64 f)::us 23 ((.i e)::us 13 [])))))
def Uh:EW:=cE f100 I9 jn Q [1,1,1] (rE f100 Q) A8
def Azd(a b c d:Nat):WP:=jn 18 (Uh jn Q) (us 3 ((pq a b)::us 2 ((pq c d)::us 39 [])))
def PH(m1:Nat)(c:Int)(d e a b f g:Nat)(h:Int):WP:=Dl PR I9 jn (bE f100 [1,1,0,1,0,0]) (AA 0 (Azc jn Q) A8) (rE f100 Q) m1 (us 2 ((.i c)::(pq d e)::(pq a b)::us 1 ((pq f g)::us 7 ((.i h)::us 31 []))))
def PK:KP:=⟨[(9,[1,5,8,9]),(20,[])],[]⟩
def Azf:EW:=sE f101 PK jn Q [1,1,1] (rE f101 Q) A8
def Uj:EW:=cE f101 PK jn Q [1,1,1] (rE f101 Q) A8
def Azg:WP:=jn 20 (Uj jn Q) (us 22 [])
def PL(m1:Nat)(a b c d e f g h:Int):WP:=Dl PR PK jn (bE f101 [1,1,0,1,0,0]) (AA 0 (Azf jn Q) A8) (rE f101 Q) m1 (us 1 ((.int .u32 a)::us 3 ((.int .u64 b)::us 2 ((.agg #[.int .u64 c,.int .u64 d,.int .u64 e,.int .u64 f,.int .u64 g])::(.i h)::us 12 []))))
def Azh:KP:=⟨[],[(4,[0,1,2,3,4,5,6,8,9]),(6,[0,1,2,3,4,5,6,8,9,11])]⟩
def PM:KP:=⟨[(10,[0,1,8]),(16,[0,1])],[]⟩
def Aib:EW:=sE f104 PM jn Q [1,1] (rE f104 Q) A8
def Ul:EW:=cE f104 PM jn Q [1,1] (rE f104 Q) A8
def Azi(s0:OA)(a:Int):WP:=jn 16 (Ul jn Q) ((.p s0)::(.i a)::us 29 [])
def Uk:EW:=cE f104 PM jn Q [1,0,0,1,1,1] (Aib jn Q) (AA 0 (Aib jn Q) A8)
def Aic(s0:OA)(a:Int)(c:Bool):WP:=jn 10 (Uk jn Q) ((.p s0)::(.i a)::us 6 ((.b c)::us 22 []))
def PN:KP:=⟨[(15,[0,5]),(20,[0,5])],[(6,[0,2,3,4,5,6]),(9,[0,1,2,3,4,5,6,7,8,9,10,11,15,16,17,18,19])]⟩
def Azj:EW:=sE f105 PN jn Q [1,1,1,1,1,1] (rE f105 Q) A8
def Um:EW:=cE f105 PN jn Q [1,1,1,1,1,1] (rE f105 Q) A8
def Aid(d:OA)(b:Sl):WP:=jn 20 (Um jn Q) ((.p d)::us 4 ((.l b.a b.n b.c)::us 48 []))
def PO(m1:Nat)(d:OA)(b:Sl):WP:=Dl PR PN jn (bE f105 [1,1,1,1,1,0,0,0]) (AA 0 (Azj jn Q) A8) (rE f105 Q) m1 ((.p d)::us 4 ((.l b.a b.n b.c)::us 48 []))
def Azk:KP:=⟨[],[(3,[0,2,3,4,5,6,7,8,9])]⟩
def PP:KP:=⟨[(9,[1,2,3,5]),(18,[1,2,3])],[(5,[0,1,2,3,4,6]),(8,[0,1,2,5,6,7])]⟩
def Azm:EW:=sE f115 PP jn Q [1,1,1] (rE f115 Q) A8
def Un:EW:=cE f115 PP jn Q [1,1,1] (rE f115 Q) A8
def Aie(b c d e:Nat)(a:Int):WP:=jn 18 (Un jn Q) (us 1 ((pq b c)::(pq d e)::(.i a)::us 22 []))
def LC(m1:Nat)(b c d e:Nat)(a f:Int):WP:=Dl PR PP jn (bE f115 [1,1,0,1,0,0]) (AA 0 (Azm jn Q) A8) (rE f115 Q) m1 (us 1 ((pq b c)::(pq d e)::(.i a)::us 1 ((.i f)::us 20 [])))
def PQ:KP:=⟨[(9,[1,5,14,15]),(16,[5])],[]⟩
def Azn:EW:=sE f117 PQ jn Q [1,1,1] (rE f117 Q) A8
def Uo:EW:=cE f117 PQ jn Q [1,1,1] (rE f117 Q) A8
def Azo(a:Int):WP:=jn 16 (Uo jn Q) (us 5 ((.int .u64 a)::us 22 []))
def PT(m1:Nat)(c:BA)(d a b:Int):WP:=Dl PR PQ jn (bE f117 [1,1,0,1,0,0]) (AA 0 (Azn jn Q) A8) (rE f117 Q) m1 (us 1 ((.s c)::us 3 ((.int .u64 d)::us 8 ((.i a)::(.i b)::us 12 []))))
def LD:KP:=⟨[(8,[0]),(11,[0,14,15]),(22,[])],[]⟩
def Azp:EW:=sE f118 LD jn Q [1,1,1] (rE f118 Q) A8
def Uq:EW:=cE f118 LD jn Q [1,1,1] (rE f118 Q) A8
def Azr:WP:=jn 22 (Uq jn Q) (us 49 [])
def CA(m2:Nat)(s0:BA)(a b:Int):WP:=Dl PR LD jn (bE f118 [1,1,0,1,0,0]) (AA 0 (Azp jn Q) A8) (rE f118 Q) m2 ((.s s0)::us 13 ((.i a)::(.i b)::us 33 []))
def Up:EW:=cE f118 LD jn Q [1,1] (rE f118 Q) A8
def Azq(s0:BA):WP:=jn 8 (Up jn Q) ((.s s0)::us 48 [])
def EF:KP:=⟨[(12,[4])],[]⟩
def Ur:EW:=cE f120 EF jn Q [1,1] (rE f120 Q) A8
def Aif(a b:Nat):WP:=jn 12 (Ur jn Q) (us 4 ((pq a b)::us 22 []))
def Aig:KP:=⟨[(8,[0,2])],[]⟩
def Us:EW:=cE f125 Aig jn Q [1,1] (rE f125 Q) A8
def WR(c0:OA)(a:Bool):WP:=jn 8 (Us jn Q) ((.p c0)::us 1 ((.b a)::us 29 []))
def Azs:KP:=⟨[],[(4,[0,1,2,3,4,5,6,7,9]),(5,[0,1,2,3,5,6,7,8,9]),(7,[0,1,2,3,4,5,6,10,11,12,13,14])]⟩
def Kb:KP:=⟨[],[(5,[0,1,2,3,4,6,7]),(8,[0,1,2,3,4,5,6,7,9,10])]⟩
def Aih:KP:=⟨[(8,[0,1,2])],[]⟩
def Ut:EW:=cE f128 Aih jn Q [1,1] (rE f128 Q) A8
def WS(c:OA)(a:Int)(b:BA):WP:=jn 8 (Ut jn Q) ((.p c)::(.i a)::(.s b)::us 21 [])
def PU:KP:=⟨[(13,[0,3,4]),(20,[3])],[]⟩
def Azt:EW:=sE f129 PU jn Q [1,1,1,1] (rE f129 Q) A8
def Uu:EW:=cE f129 PU jn Q [1,1,1,1] (rE f129 Q) A8
def Azu(b:Sl):WP:=jn 20 (Uu jn Q) (us 3 ((.l b.a b.n b.c)::us 21 []))
def LF(m1:Nat)(d:OA)(b:Sl)(e:OA):WP:=Dl PR PU jn (bE f129 [1,1,1,0,1,0,0]) (AA 0 (Azt jn Q) A8) (rE f129 Q) m1 ((.p d)::us 2 ((.l b.a b.n b.c)::(.p e)::us 20 []))
def Azw:KP:=⟨[],[(10,[0,1,2,3,4]),(12,[0,1,2,3,4])]⟩
def Uv:EW:=cE f132 MW jn Q [1,1] (rE f132 Q) A8
def PV(b:OA)(a:BA):WP:=jn 8 (Uv jn Q) ((.p b)::(.s a)::us 28 [])
def Azx:KP:=⟨[],[(3,[0,2,3,4,5,7,8])]⟩
def PW:KP:=⟨[(7,[1,5,6]),(16,[1])],[]⟩
def Azy:EW:=sE f138 PW jn Q [1,1] (rE f138 Q) A8
def Uw:EW:=cE f138 PW jn Q [1,1] (rE f138 Q) A8
def Azz(a b:Nat):WP:=jn 16 (Uw jn Q) (us 1 ((pq a b)::us 17 []))
def PX(m1:Nat)(f g:Nat)(a b c d e h:Int):WP:=Dl PR PW jn (bE f138 [1,0,1,0,0]) (AA 0 (Azy jn Q) A8) (rE f138 Q) m1 (us 1 ((pq f g)::us 3 ((.agg #[.int .u64 a,.int .u64 b,.int .u64 c,.int .u64 d,.int .u64 e])::(.i h)::us 12 [])))
def PY:KP:=⟨[(9,[3,5,6]),(14,[3])],[]⟩
def Az1:EW:=sE f140 PY jn Q [1,1,1] (rE f140 Q) A8
def Ux:EW:=cE f140 PY jn Q [1,1,1] (rE f140 Q) A8
def Az2(x3:Int):WP:=jn 14 (Ux jn Q) (us 3 ((.int .u64 x3)::us 9 []))
def PZ(m1:Nat)(x3 a b:Int):WP:=Dl PR PY jn (bE f140 [1,1,0,1,0,0]) (AA 0 (Az1 jn Q) A8) (rE f140 Q) m1 (us 3 ((.int .u64 x3)::us 1 ((.i a)::(.i b)::us 6 [])))
def Qa:KP:=⟨[(9,[3,6,7]),(16,[3])],[]⟩
def Az3:EW:=sE f142 Qa jn Q [1,1,1] (rE f142 Q) A8
def Uy:EW:=cE f142 Qa jn Q [1,1,1] (rE f142 Q) A8
def Az4(a:Int):WP:=jn 16 (Uy jn Q) (us 3 ((.int .u64 a)::us 11 []))
def Qb(m1:Nat)(a b c d e f t7:Int):WP:=Dl PR Qa jn (bE f142 [1,1,0,1,0,0]) (AA 0 (Az3 jn Q) A8) (rE f142 Q) m1 (us 3 ((.int .u64 a)::us 2 ((.agg #[.int .u64 b,.int .u64 c,.int .u64 d,.int .u64 e,.int .u64 f])::(.i t7)::us 7 [])))
def Qc:KP:=⟨[(7,[0,3]),(14,[3])],[]⟩
def Az5:EW:=sE f145 Qc jn Q [1,1,1] (rE f145 Q) A8
def Uz:EW:=cE f145 Qc jn Q [1,1,1] (rE f145 Q) A8
def Az6(a:Int):WP:=jn 14 (Uz jn Q) (us 3 ((.i a)::us 13 []))
def Kc(m1:Nat)(a:OA)(b:Int):WP:=Dl PR Qc jn (bE f145 [1,1,0,0,0]) (AA 0 (Az5 jn Q) A8) (rE f145 Q) m1 ((.p a)::us 2 ((.i b)::us 13 []))
def LG:KP:=⟨[(13,[8,21,22,23]),(20,[8])],[]⟩
def Aii:EW:=sE f146 LG jn Q [1,1,1,1] (rE f146 Q) A8
def Az8(m1:Nat)(b:Sl)(d e:Int):WP:=Dl PR LG jn (bE f146 [1,1,1,0,1,0,0]) (AA 0 (Aii jn Q) A8) (rE f146 Q) m1 (us 8 ((.nilIface)::us 12 ((.l b.a b.n b.c)::(.i d)::(.i e)::us 8 [])))
def U0:EW:=cE f146 LG jn Q [1,1,1,1] (rE f146 Q) A8
def Az7(a:TypeId)(b:Value):WP:=jn 20 (U0 jn Q) (us 8 ((.iface a b)::us 23 []))
def Qd(m3:Nat)(d:TypeId)(e:Value)(b:Sl)(f g:Int):WP:=Dl PR LG jn (bE f146 [1,1,1,0,1,0,0]) (AA 0 (Aii jn Q) A8) (rE f146 Q) m3 (us 8 ((.iface d e)::us 12 ((.l b.a b.n b.c)::(.i f)::(.i g)::us 8 [])))
def AE:KP:=⟨[(8,[0,1,6,7]),(11,[0,1,6,7]),(14,[0,1,6,7,8,35]),(18,[0,1,6,7,8,50]),(22,[0,1,6,7,8,61])],[(2,[0,1,2,3,4,6,7,8,9,10,12])]⟩
def Aij(m1:Nat):EW:=JG PR AE jn (bE f158 [1,1,1,0,0]) (AA 0 (rE f158 Q) A8) (rE f158 Q) m1
def LH(m1:Nat):EW:=sE f158 AE jn Q [1,1,1,0,0,1] (Aij jn Q m1) (AA 0 (rE f158 Q) A8)
def Az9(m1:Nat):Nat->EW:=AA 1 (LH jn Q m1) (AA 0 (rE f158 Q) A8)
def WT(m1:Nat):Nat->EW:=AA 2 (LH jn Q m1) (Az9 jn Q m1)
def U3(m1:Nat):EW:=cE f158 AE jn Q [1,1,1,0,0,1] (Aij jn Q m1) (AA 0 (rE f158 Q) A8)
def WW(m1:Nat)(x0:OA)(b:BA)(a c:Int):WP:=jn 8 (U3 jn Q m1) ((.p x0)::(.s b)::us 4 ((.i a)::(.i c)::us 71 []))
def U4(m1:Nat):EW:=cE f158 AE jn Q [1,1,1,0,0,0,0,1,0,1,1,1,1,1] (LH jn Q m1) (WT jn Q m1)
def WX(m1:Nat)(x0:OA)(c:BA)(a g:Int)(d e:Nat)(f:Bool):WP:=jn 22 (U4 jn Q m1) ((.p x0)::(.s c)::us 4 ((.i a)::(.i g)::(pq d e)::us 52 ((.b f)::us 17 [])))
def U2(m1:Nat):EW:=cE f158 AE jn Q [1,1,1,0,0,0,0,1,0,1,1,1] (LH jn Q m1) (WT jn Q m1)
def WV(m1:Nat)(x0:OA)(c:BA)(a g:Int)(d e:Nat)(f:Bool):WP:=jn 18 (U2 jn Q m1) ((.p x0)::(.s c)::us 4 ((.i a)::(.i g)::(pq d e)::us 41 ((.b f)::us 28 [])))
def U1(m1:Nat):EW:=cE f158 AE jn Q [1,1,1,0,0,0,0,1,0,1] (LH jn Q m1) (WT jn Q m1)
def WU(m1:Nat)(x0:OA)(c:BA)(a g:Int)(d e:Nat)(f:Bool):WP:=jn 14 (U1 jn Q m1) ((.p x0)::(.s c)::us 4 ((.i a)::(.i g)::(pq d e)::us 26 ((.b f)::us 43 [])))
def Qe(m1:Nat)(x0:OA)(b:BA)(a c:Int):WP:=Dl PR AE jn (bE f158 [1,1,1,0,0]) (AA 0 (rE f158 Q) A8) (rE f158 Q) m1 ((.p x0)::(.s b)::us 4 ((.i a)::(.i c)::us 71 []))
def A0b:KP:=⟨[],[(8,[0,1,2,3,4,5,6,7,9,10])]⟩
def EG:KP:=⟨[(8,[0,1,2,7])],[(3,[0,1,2,3,4,5,7,8])]⟩
def U6:EW:=cE f166 EG jn Q [1,1] (rE f166 Q) A8
def Aik(x0:OA)(d:Int)(a:BA)(b c:Nat):WP:=jn 8 (U6 jn Q) ((.p x0)::(.i d)::(.s a)::us 4 ((pq b c)::us 32 []))
def DQ:KP:=⟨[(9,[0,28,29,30])],[]⟩
def LI(m1:Nat)(x0:OA)(b:Sl)(d e:Int):WP:=Dl PR DQ jn (bE f167 [1,1,1,0,0]) (AA 0 (rE f167 Q) A8) (rE f167 Q) m1 ((.p x0)::us 27 ((.l b.a b.n b.c)::(.i d)::(.i e)::us 21 []))
def LK:KP:=⟨[(8,[0,3,4,13]),(10,[0,3,13])],[(1,[0,1,2,4,5,6,8,9]),(2,[0,1,2,3,4,5,6,7,8,9,10,11,12,13,14,15,17,18,19])]⟩
def LJ:EW:=sE f168 LK jn Q [1,1,1] (rE f168 Q) A8
def A0c:EW:=sE f168 LK jn Q [1,1,0,0,1] (LJ jn Q) (AA 0 (LJ jn Q) A8)
def U8:EW:=cE f168 LK jn Q [1,1,0,0,1] (LJ jn Q) (AA 0 (LJ jn Q) A8)
def Qg(c:OA)(d a:Bool):WP:=jn 10 (U8 jn Q) ((.p c)::us 2 ((.b d)::us 9 ((.b a)::us 32 [])))
def U7:EW:=cE f168 LK jn Q [1,1,0,0,0,1] (A0c jn Q) (AA 0 (LJ jn Q) A8)
def Qf(c:OA)(d e a:Bool):WP:=jn 8 (U7 jn Q) ((.p c)::us 2 ((.b d)::(.b e)::us 8 ((.b a)::us 32 [])))
def Dk:KP:=⟨[(9,[2,3,6,7]),(14,[2,3])],[(4,[0,1,5])]⟩
def A0d:EW:=sE f184 Dk jn Q [1,1,1] (rE f184 Q) A8
def Alm:EW:=cE f184 Dk jn Q [1,1,1] (rE f184 Q) A8
def A0e(m1:Nat)(a b c d:Nat)(e t7:Int):WP:=Dl PR Dk jn (bE f184 [1,1,0,1,0,0]) (AA 0 (A0d jn Q) A8) (rE f184 Q) m1 (us 2 ((pq a b)::(pq c d)::us 2 ((.i e)::(.i t7)::us 9 [])))
def A0f:EW:=sE f186 Dk jn Q [1,1,1] (rE f186 Q) A8
def Aln:EW:=cE f186 Dk jn Q [1,1,1] (rE f186 Q) A8
def A0g(m1:Nat)(a b c d:Nat)(e t7:Int):WP:=Dl PR Dk jn (bE f186 [1,1,0,1,0,0]) (AA 0 (A0f jn Q) A8) (rE f186 Q) m1 (us 2 ((pq a b)::(pq c d)::us 2 ((.i e)::(.i t7)::us 9 [])))
def A0h:EW:=sE f187 Dk jn Q [1,1,1] (rE f187 Q) A8
def Alo:EW:=cE f187 Dk jn Q [1,1,1] (rE f187 Q) A8
def A0i(m1:Nat)(a b c d:Nat)(e t7:Int):WP:=Dl PR Dk jn (bE f187 [1,1,0,1,0,0]) (AA 0 (A0h jn Q) A8) (rE f187 Q) m1 (us 2 ((pq a b)::(pq c d)::us 2 ((.i e)::(.i t7)::us 9 [])))
def He:KP:=⟨[(7,[0,3]),(10,[3])],[]⟩
def A0j:EW:=sE f188 He jn Q [1,1,1] (rE f188 Q) A8
def U9:EW:=cE f188 He jn Q [1,1,1] (rE f188 Q) A8
def A0k(a:Int):WP:=jn 10 (U9 jn Q) (us 3 ((.i a)::us 13 []))
def Qh(m1:Nat)(a b:Int):WP:=Dl PR He jn (bE f188 [1,1,0,0,0]) (AA 0 (A0j jn Q) A8) (rE f188 Q) m1 ((.i a)::us 2 ((.i b)::us 13 []))
end
variable{jn:Jn}{Q:VW}{key1 key2 val2 s1:BA}{m1 w1b w1o w3b w3o t6b t6o p8b p8o t0b t0o m2 m3 t2b t2o:Nat}{m0 s0 x0 t0 f0 l0 g0 c0:OA}{room0 kind1 kind0 room1 w0_0 w0_1 w0_2 w0_3 w0_4 free6 i7 seed0 n3 now2 now1 t14 reads0 writes1 n1 now3 life4 t12 t13 t7 t8 all2 draw1 best3 t5 h0 h5 t15 t6 a0 x3 sum3 h1 i1:Int}{gone5 l3 t11 l5 all3:Sl}{hit5 gone2 r3:Bool}{e8_t:TypeId}{e8_v:Value}
theorem Afw:Abk jn Q ((.i reads0)::(.i writes1)::us 26 [])=(A5 λS=>Gn [
 (Ms PR 182 (.i reads0) λa=>Ms PR 182 (.i writes1) λc=>Az [.chan<|some a,.i 0,.s Ae,.i 0,.b false,.chan<|some c,.i 0,.s Ae,.i 0,.b false,.i 0,.i 0] 188 λd=>Q<|.tuple #[pq d 0,.i 0]),
 (Ms PR 182 (.i writes1) λe=>Ms PR 182 (.i reads0) λf=>Az [.chan<|some f,.i 0,.s Ae,.i 0,.b false,.chan<|some e,.i 0,.s Ae,.i 0,.b false,.i 0,.i 0] 188 λg=>Q<|.tuple #[pq g 0,.i 0])]):=by kernel_rfl
theorem A31:Aw jn PR J0 f75 [.i reads0,.i writes1] Q=(Aj (decide<|reads0<0) (Q<|.tuple #[.p none,.i 1])<|Aj (decide<|reads0>256) (Q<|.tuple #[.p none,.i 1])<|Aj (decide<|writes1<1) (Q<|.tuple #[.p none,.i 1])<|Aj (decide<|writes1>256) (Q<|.tuple #[.p none,.i 1])<|A9c jn Q reads0 writes1):=by kernel_rfl
theorem A32:Aw jn PR Aca f76 [.i kind0,.i room1] Q=(Rh (.int .i64) PR 113 [.i kind0,.i room1] (λ(a:Int)=>Aj (a != 0) (Q (.tuple #[.p none,.i a])) (Cv)) λ(b:TypeId)(c:Value)(a:Int)=>Aj (a != 0) (Q (.tuple #[.p none,.i a])) (
 Fu PR b c "Room" fun d e =>Bw d [e] fun f=>Az [.i kind0,.i f,.iface b c,.nilIface] 124 fun g=>Q (.tuple #[pq g 0,.i 0]))):=by kernel_rfl
theorem A33:Aw jn PR Aca f77 [] Q=(L1 114 [.int .u64 0] λa=>Az [.p a] 118 λb=>Q<|pq b 0):=by kernel_rfl
theorem A34:Aw jn PR Aca f78 [.i kind0] Q=(Aj (decide<|kind0>=0) (Q<|.b<|decide<|kind0<5)<|Q<|.b false):=by kernel_rfl
theorem Afx:Abl jn Q ((pq t0b t0o)::(pq w1b w1o)::us 9 [])=(DX w1b w1o λl=>DX w1b (w1o+1) λm=>DX w1b ((w1o+1)+1) λn=>DX w1b (((w1o+1)+1)+1) λo=>DX w1b ((((w1o+1)+1)+1)+1) λp=>λw=>Ai PR 115 #[.agg #[.int .u64 l,.int .u64 m,.int .u64 n,.int .u64 o,.int .u64 p]] w λe w'=>∃j:Int,∃k:Int,∃a:Int,∃b:Int,∃c:Int,e = .returned (.agg #[.int .u64 j,.int .u64 k,.int .u64 a,.int .u64 b,.int .u64 c])/\(st t0b t0o (.int .u64 j)<|st t0b (t0o+1) (.int .u64 k)<|st t0b ((t0o+1)+1) (.int .u64 a)<|
 st t0b (((t0o+1)+1)+1) (.int .u64 b)<|st t0b ((((t0o+1)+1)+1)+1) (.int .u64 c)<|DX t0b t0o λd=>DX t0b (t0o+1) λf=>DX t0b ((t0o+1)+1) λg=>DX t0b (((t0o+1)+1)+1) λh=>DX t0b ((((t0o+1)+1)+1)+1) λi=>Q<|.agg #[.int .u64 d,.int .u64 f,.int .u64 g,.int .u64 h,.int .u64 i]) w'):=by kernel_rfl
theorem R9{a:Int}:XQ jn Q (m1+1) t0b t0o w1b w1o a=(Aj (decide<|a<5) (AV ((0:Int)<=a/\a<((5:Nat):Int))<|st w1b (w1o+a.toNat*1) (.int .u64 858993459)<|XQ jn Q m1 t0b t0o w1b w1o<|wrap .i64<|a+1)<|A9e jn Q t0b t0o w1b w1o):=by kernel_rfl
theorem A35:Aw jn PR XP f79 [] Q=(Az [.int .u64 0,.int .u64 0,.int .u64 0,.int .u64 0,.int .u64 0] 140 λa=>Az [.int .u64 0,.int .u64 0,.int .u64 0,.int .u64 0,.int .u64 0] 140 λb=>Em λm=>XQ jn Q m a 0 b 0 0):=by kernel_rfl
theorem A36{s0:Sl}:Aw jn PR Aca f80 [.l s0.a s0.n s0.c] Q=(Aj (isNone s0.a) (Q<|.l none 0 0)<|Az [] 145 λb=>Bl 145 1 4 [.int .u32 0] ⟨(some ⟨b,0,none⟩),0,0⟩ s0.n (λw=>H3 w s0.a<|s0.n*1) λG2=>Q<|.l G2.a G2.n G2.c):=by kernel_rfl
theorem A37{a:BA}:Aw jn PR Aca f81 [.s a,.i n1] Q=(wcu 117 [.int .u64 31,.s a] λb=>Bw 72 [.i n1,.i 1,.i 8] λc=>Bw 116 [.int .u64 b,.i c] λd=>Q<|.i d):=by kernel_rfl
theorem A38:Aw jn PR Aca f82 [.p s0,.s key1,.i now2] Q=(Aj (isNone s0) (Q<|.i 1)<|Ey 118 [.s key1] λa=>Aj (!a) (Q<|.i 2)<|Ey 97 [.i now2] λb=>Aj (!b) (Q<|.i 1)<|Q<|.i 0):=by kernel_rfl
theorem Afy:Abm jn Q ((.p s0)::(.s key1)::us 36 [])=(Az [.s key1] 9 λa=>wz 95 [.p s0,.l (some ⟨a,0,none⟩) 1 1]<|wz 92 [.p s0,.i 3,.s key1]<|Az [.s key1] 9 λb=>Q<|.l (some ⟨b,0,none⟩) 1 1):=by kernel_rfl
theorem A39:Aw jn PR Aux f83 [.p s0,.s key1,.i now2] Q=(Ac s0 λa b=>Bo a b λc=>Fv 85 [.p c,.s key1,.i now2] λj d=>Aj d (Q<|.l none 0 0)<|Ac s0 λe f=>Bo e f λg=>Ey 90 [.p g,.s key1] λh=>Aj (!h) (Q<|.l none 0 0)<|Auw jn Q s0 key1):=by kernel_rfl
theorem A4a{a:OA}:Aw jn PR Aca f84 [.p a] Q=(Ac a λb c=>A0 b c λd=>Bw 119 [.i d,.i 1099511627776] λe=>Ac a λf g=>st f g (.i e)<|Q<|.tuple #[]):=by kernel_rfl
theorem A4b:Aw jn PR Aca f85 [.p t0,.s key1,.i now2] Q=(Aj (isNone t0) (Q<|.tuple #[.s Ae,.b false]) (Ac t0 λj k=>Bo j k λl=>λw=>Ai PR 120 #[.p l,.s key1] w λe w'=>∃f:BA,∃g:Int,∃h:Bool,e = .returned (.tuple #[.agg #[.s f,.i g],.b h])/\(Az [.s Ae,.i 0] 120 λa=>st a 0 (.s f)<|st a 1 (.i g)<|Aj (!h) (Q<|.tuple #[.s Ae,.b false]) (Ci a 0 λm=>A0 a 1 λn=>Ey 121 [.agg #[.s m,.i n],.i now2] λc=>
 Aj c (Q<|.tuple #[.s Ae,.b false]) (Ci a 0 λd=>Q<|.tuple #[.s d,.b true]))) w')):=by kernel_rfl
theorem A4c:Aw jn PR Aca f86 [.p f0,.s key1] Q=(Aj (isNone f0) (Q<|.b false)<|Ac f0 λc d=>Ey 122 [.p f0,pq c d,.i 1,.s key1] λa=>Aj (!a) (Ac f0 λe f=>A0 e (f+11) λg=>Ac f0 λh j=>st h (j+11) (.i<|wrap .i64<|g+1)<|Q<|.b a)<|Q<|.b a):=by kernel_rfl
theorem A4d:Aw jn PR A9f f87 [.p s0,.s key1] Q=(Aj (isNone s0) (Q<|.b false)<|Ac s0 λk l=>A0 k (l+1) λm=>Bw 119 [.i m,.i 1099511627776] λn=>Ac s0 λo q=>st o (q+1) (.i n)<|A5 λS=>Ac s0 λr t=>Dj S r t λu=>wcu 117 [.int .u64 21,.s key1] λa=>Al true S<|Ey 123 [.int .u64 a,.i u] λc=>Aj (!c) (Q<|.b false) (Ac s0 λd e=>A0 d (e+2) λf=>Bw 119 [.i f,.i 1099511627776] λg=>
 Ac s0 λh j=>st h (j+2) (.i g)<|Q<|.b true)):=by kernel_rfl
theorem RA:Abo jn Q (us 5 ((.b hit5)::us 51 []))=(Q<|.b hit5):=by kernel_rfl
theorem KR{c:Sl}{d b:Int}:Af1 jn Q (m2+1) s0 hit5 c d b=(Aj (decide<|b<d) (CU c.a c.n b λe f=>Ci e (f+b.toNat*1) λg=>Ac s0 λh i=>Bo h (i+2) λj=>Fv 126 [.p j,.s g] λk l=>Af1 jn Q m2 s0 hit5 c d<|wrap .i64<|b+1)<|A9h jn Q hit5):=by kernel_rfl
theorem Af0{d:Sl}{e:Bool}:Abn jn Q ((.p s0)::us 4 ((.b hit5)::(.l d.a d.n d.c)::(.b e)::us 49 []))=(Ac s0 λf g=>wz 125 [.p<|some ⟨f,(g+3),none⟩,.b hit5,.b e]<|Ac s0 λh i=>wz 125 [.p<|some ⟨h,(i+6),none⟩,.b hit5,.b e]<|Em λm=>Af1 jn Q m s0 hit5 d (d.n:Int) 0):=by kernel_rfl
theorem A4e:Aw jn PR RB f88 [.p s0,.s key1] Q=(Aj (isNone s0) (Q (.b false)) (Ac s0 λk l=>Mk k (l+1) (Cv) λ(a:TypeId)(c:Value)=>
 Fu PR a c "Access" fun d e =>Bbn d [e,.s key1] fun f j=>Aj (!f) (Ac s0 fun m g=>Bo m (g+2) fun h=>Ey 124 [.p h,.s key1] fun i=>Afz jn Q s0 f j i) (Afz jn Q s0 f j false))):=by kernel_rfl
theorem Af4{a c:Nat}:Abq jn Q ((.p t0)::(.s key1)::us 10 ((pq a c)::us 41 []))=(A5 λS=>Ac t0 λd e=>EK S d e λf=>Ci a c λg=>A0 a (c+1) λh=>Al true S<|Ey 127 [.p f,.s key1,.agg #[.s g,.i h]] λj=>Q<|.tuple #[.b j,.i 0]):=by kernel_rfl
theorem Af2:Abp jn Q ((.p t0)::(.s key1)::(.s val2)::(.i now3)::(.i life4)::us 49 [])=(Az [.s Ae,.i 0] 120 λa=>st a 0 (.s val2)<|st a 1 (.i 0)<|Aj (decide<|life4>0) (st a 1 (.i<|wrap .i64<|now3+life4)<|Af3 jn Q t0 key1 a 0)<|Af3 jn Q t0 key1 a 0):=by kernel_rfl
theorem A4f:Aw jn PR Af5 f89 [.p t0,.s key1,.s val2,.i now3,.i life4] Q=(Aj (isNone t0) (Q<|.tuple #[.b false,.i 1])<|Ey 118 [.s key1] λa=>Aj (!a) (Q<|.tuple #[.b false,.i 2])<|Aj (decide<|(val2.size:Int)>64) (Q<|.tuple #[.b false,.i 3])<|Aj (decide<|now3<0) (Q<|.tuple #[.b false,.i 1])<|Aj (decide<|now3>1125899906842624) (Q<|.tuple #[.b false,.i 1])<|Aj (decide<|life4<0) (Q<|.tuple #[.b false,.i 1])<|Aj (decide<|life4>1099511627776) (Q<|.tuple #[.b false,.i 1]) (
 A9i jn Q t0 key1 val2 now3 life4)):=by kernel_rfl
theorem A4g:Aw jn PR Aca f90 [.p t0,.s key1] Q=(Aj (isNone t0) (Q<|.b false) (Ac t0 λg h=>Bo g h λj=>λw=>Ai PR 120 #[.p j,.s key1] w λe w'=>∃a:BA,∃c:Int,∃d:Bool,e = .returned (.tuple #[.agg #[.s a,.i c],.b d])/\(Az [.s Ae,.i 0] 120 λf=>st f 0 (.s a)<|st f 1 (.i c)<|Q<|.b d) w')):=by kernel_rfl
theorem A4h:Aw jn PR Aca f91 [.p m0] Q=(Aj (isNone m0) (Q<|.i 0)<|Ac m0 λa b=>A0 a (b+1) λc=>Q<|.i c):=by kernel_rfl
theorem A4i:Aw jn PR Aca f92 [.p s0,.i kind1,.s key2] Q=(Ac s0 λa b=>Bo a (b+1) λc=>Ey 128 [.p c,.i kind1,.s key2] λd=>Aj (!d) (Bw 93 [.p s0] λh=>Ac s0 λe f=>Bo e (f+1) λg=>Ey 128 [.p g,.i kind1,.s key2] λj=>Q<|.tuple #[])<|Q<|.tuple #[]):=by kernel_rfl
theorem Af6:Abr jn Q ((.p s0)::us 2 ((.l l3.a l3.n l3.c)::us 33 []))=(Ac s0 λe f=>Bb e (f+9) λb=>Bl 159 2 24 [.i 0,.s Ae] ⟨b.a,b.n,b.c⟩ l3.n (λw=>H3 w l3.a<|l3.n*2) λd=>Ac s0 λg h=>st g (h+9) (.l d.a d.n d.c)<|Q<|.i (l3.n:Int)):=by kernel_rfl
theorem RC:XS jn Q (m1+1) s0 l3 t11 t12 t13=(Aj (decide<|t13<t12) (CU t11.a t11.n t13 λk m=>A0 k (m+t13.toNat*2) λo=>Ci k ((m+t13.toNat*2)+1) λq=>Az [.i 0,.s Ae] 159 λd=>st d 0 (.i o)<|st d 1 (.s q)<|A5 λS=>Ac s0 λe f=>EK S e (f+2) λg=>A0 d 0 λh=>Ci d 1 λj=>Al true S<|GW 130 [.p g,.agg #[.i h,.s j]] λb=>wz 95 [.p s0,.l b.a b.n b.c]<|XS jn Q m1 s0 l3 t11 t12<|wrap .i64<|t13+1) (
 A9k jn Q s0 l3)):=by kernel_rfl
theorem A4j:Aw jn PR XR f93 [.p s0] Q=(Ac s0 λb c=>Bo b (c+1) λd=>GW 129 [.p d] λa=>Em λm=>XS jn Q m s0 a a (a.n:Int) 0):=by kernel_rfl
theorem Af8:Abs jn Q m1 ((.p m0)::(.s key1)::us 3 ((.l gone5.a gone5.n gone5.c)::us 45 []))=(Fv 135 [.p m0] λe f=>Az [.s e] 9 λb=>Bl 9 1 16 [.s Ae] ⟨gone5.a,gone5.n,gone5.c⟩ 1 (λw=>H3 w (some ⟨b,0,none⟩)<|1*1) λd=>XT jn Q m1 m0 key1 d):=by kernel_rfl
theorem RE:Abt jn Q ((.p m0)::(.s key1)::us 3 ((.l gone5.a gone5.n gone5.c)::us 45 []))=(Ac m0 λi j=>Mk i (j+2) (Cv) λ(e:TypeId)(f:Value)=>
 Fu PR e f "Access" fun g h =>Bbn g [h,.s key1] fun k b=>Bl 9 1 16 [.s Ae] ⟨gone5.a,gone5.n,gone5.c⟩ b.n (fun w=>H3 w b.a (b.n*1)) fun d=>Q (.l d.a d.n d.c)):=by kernel_rfl
theorem RF:XT jn Q (m1+1) m0 key1 gone5=(A5 λS=>Ac m0 λa b=>Dj S a (b+1) λc=>Bw 133 [.p m0] λd=>Al true S<|Aj (decide<|d>=c) (Bw 134 [.p m0] λe=>Aj (decide<|e>0) (Auy jn Q m1 m0 key1 gone5)<|RD jn Q m0 key1 gone5)<|RD jn Q m0 key1 gone5):=by kernel_rfl
theorem A4k:Aw jn PR MX f94 [.p m0,.s key1] Q=(Aj (isNone m0) (Q<|.l none 0 0)<|Ey 131 [.p m0,.s key1] λd=>Aj d (GW 132 [.p m0,.s key1] λb=>Q<|.l b.a b.n b.c)<|Em λm=>XT jn Q m m0 key1 ⟨none,0,0⟩):=by kernel_rfl
theorem RH{b:Sl}:RG jn Q (m1+1) s0 b t7 t8=(Aj (decide<|t8<t7) (CU b.a b.n t8 λc d=>Ci c (d+t8.toNat*1) λe=>Ac s0 λf g=>Bo f g λh=>Ey 96 [.p h,.s e] λi=>Aj i (Ac s0 λj k=>wz 84 [.p<|some ⟨j,((k+3)+3),none⟩]<|RG jn Q m1 s0 b t7<|wrap .i64<|t8+1)<|RG jn Q m1 s0 b t7<|wrap .i64<|t8+1)<|Q<|.tuple #[]):=by kernel_rfl
theorem A4l{b:Sl}:Aw jn PR Auz f95 [.p s0,.l b.a b.n b.c] Q=(Em λm=>RG jn Q m s0 b (b.n:Int) 0):=by kernel_rfl
theorem A4m:Aw jn PR Aca f96 [.p t0,.s key1] Q=(Aj (isNone t0) (Q<|.b false) (Ac t0 λg h=>Bo g h λj=>λw=>Ai PR 136 #[.p j,.s key1] w λe w'=>∃a:BA,∃c:Int,∃d:Bool,e = .returned (.tuple #[.agg #[.s a,.i c],.b d])/\(Az [.s Ae,.i 0] 120 λf=>st f 0 (.s a)<|st f 1 (.i c)<|Q<|.b d) w')):=by kernel_rfl
theorem A4n{a:Int}:Aw jn PR Aca f97 [.i a] Q=(Aj (decide<|a>=0) (Q<|.b<|decide<|a<=1125899906842624)<|Q<|.b false):=by kernel_rfl
theorem Af9:Abu jn Q (us 5 ((.l l5.a l5.n l5.c)::us 29 []))=(Q<|.l l5.a l5.n l5.c):=by kernel_rfl
theorem RJ:RI jn Q (m1+1) t0 now1 l5 t11 t12 t13=(Aj (decide<|t13<t12) (CU t11.a t11.n t13 λr t=>Ci r (t+t13.toNat*1) λm=>Ac t0 λu v=>Bo u v λx=>λw=>Ai PR 120 #[.p x,.s m] w λe w'=>∃o:BA,∃q:Int,∃f:Bool,e = .returned (.tuple #[.agg #[.s o,.i q],.b f])/\(Az [.s Ae,.i 0] 120 λd=>st d 0 (.s o)<|st d 1 (.i q)<|Ci d 0 λg=>A0 d 1 λh=>Ey 121 [.agg #[.s g,.i h],.i now1] λj=>
 Aj j (Az [.s m] 9 λk=>Bl 9 1 16 [.s Ae] ⟨l5.a,l5.n,l5.c⟩ 1 (λw=>H3 w (some ⟨k,0,none⟩)<|1*1) λl=>RI jn Q m1 t0 now1 l t11 t12<|wrap .i64<|t13+1) (RI jn Q m1 t0 now1 l5 t11 t12<|wrap .i64<|t13+1)) w')<|A9n jn Q l5):=by kernel_rfl
theorem A4o:Aw jn PR XU f98 [.p t0,.i now1] Q=(GW 41 [.p t0] λa=>Em λm=>RI jn Q m t0 now1 ⟨none,0,0⟩ a (a.n:Int) 0):=by kernel_rfl
theorem Ajd:Aw jn PR Aca f99 [.p m0] Q=(Ey 42 [.p m0] λq=>Aj (!q) (Q (.tuple #[.s Ae,.b false])) (Ac m0 λr t=>Mk r (t+3) (Cv) λ(d:TypeId)(e:Value)=>
 Fu PR d e "Keys" fun f g =>GW f [g] fun c=>Aj ((c.n:Int) == 0) (Ac m0 fun u h=>st u (h+3) .nilIface <|Q (.tuple #[.s Ae,.b false])) (CU c.a c.n 0 fun i j=>Ci i (j+((0:Int)).toNat * 1) fun k=>wz 137 [.p m0,.s k] <|CU c.a c.n 0 fun l m=>Ci l (m+((0:Int)).toNat * 1) fun o=>Q (.tuple #[.s o,.b true])))):=by kernel_rfl
theorem Zk:Ui jn Q (us 3 ((pq w3b w3o)::us 2 ((pq t6b t6o)::us 39 [])))=(DX w3b w3o λg=>DX w3b (w3o+1) λh=>DX w3b ((w3o+1)+1) λi=>DX w3b (((w3o+1)+1)+1) λj=>DX w3b ((((w3o+1)+1)+1)+1) λk=>λw=>Ai PR 115 #[.agg #[.int .u64 g,.int .u64 h,.int .u64 i,.int .u64 j,.int .u64 k]] w λe w'=>∃a:Int,∃b:Int,∃c:Int,∃d:Int,∃f:Int,e = .returned (.agg #[.int .u64 a,.int .u64 b,.int .u64 c,.int .u64 d,.int .u64 f])/\(st t6b t6o (.int .u64 a)<|st t6b (t6o+1) (.int .u64 b)<|
 st t6b ((t6o+1)+1) (.int .u64 c)<|st t6b (((t6o+1)+1)+1) (.int .u64 d)<|st t6b ((((t6o+1)+1)+1)+1) (.int .u64 f)<|DX t6b t6o λl=>DX t6b (t6o+1) λm=>DX t6b ((t6o+1)+1) λn=>DX t6b (((t6o+1)+1)+1) λo=>DX t6b ((((t6o+1)+1)+1)+1) λp=>Q<|.agg #[.int .u64 l,.int .u64 m,.int .u64 n,.int .u64 o,.int .u64 p]) w'):=by kernel_rfl
theorem N9{a:Int}:PJ jn Q (m3+1) w3b w3o t6b t6o t8 a=(Aj (decide<|a<5) (AV ((0:Int)<=a/\a<((5:Nat):Int))<|DX w3b (w3o+a.toNat*1) λc=>wcu 143 [.int .u64 c,.int .u64 4294967296,.int .u64 t8] λb=>AV ((0:Int)<=a/\a<((5:Nat):Int))<|st w3b (w3o+a.toNat*1) (.int .u64<|if b>42949672 then b else 42949672)<|PJ jn Q m3 w3b w3o t6b t6o t8<|wrap .i64<|a+1)<|Aze jn Q w3b w3o t6b t6o):=by kernel_rfl
theorem Zj:Uh jn Q (us 3 ((pq w3b w3o)::us 2 ((pq t6b t6o)::us 39 [])))=(DX w3b w3o λa=>DX w3b (w3o+1) λb=>DX w3b ((w3o+1)+1) λc=>DX w3b (((w3o+1)+1)+1) λd=>DX w3b ((((w3o+1)+1)+1)+1) λe=>wcu 142 [.agg #[.int .u64 a,.int .u64 b,.int .u64 c,.int .u64 d,.int .u64 e]] λf=>Em λm=>PJ jn Q m w3b w3o t6b t6o f 0):=by kernel_rfl
theorem N8{a b:Nat}:PH jn Q (m1+1) all2 w3b w3o a b t6b t6o t14=(Aj (decide<|t14<5) (A5 λS=>AV ((0:Int)<=t14/\t14<((5:Nat):Int))<|wLu S w3b (w3o+t14.toNat*1) λc=>AV ((0:Int)<=t14/\t14<((5:Nat):Int))<|A0 a (b+t14.toNat*1) λd=>Al true S<|Bw 141 [.i d,.i all2] λe=>Al true S<|wcu 140 [.i e] λf=>Al true S<|wcu 139 [.int .u64 c,.int .u64 f] λg=>AV ((0:Int)<=t14/\t14<((5:Nat):Int))<|
 st w3b (w3o+t14.toNat*1) (.int .u64 g)<|PH jn Q m1 all2 w3b w3o a b t6b t6o<|wrap .i64<|t14+1)<|Azd jn Q w3b w3o t6b t6o):=by kernel_rfl
theorem Ap4{a b c d f:Int}:Aw jn PR I9 f100 [.agg #[.int .u64 w0_0,.int .u64 w0_1,.int .u64 w0_2,.int .u64 w0_3,.int .u64 w0_4],.agg #[.i a,.i b,.i c,.i d,.i f],.i all2] Q=(Az [.int .u64 w0_0,.int .u64 w0_1,.int .u64 w0_2,.int .u64 w0_3,.int .u64 w0_4] 140 λh=>Az [.i a,.i b,.i c,.i d,.i f] 100 λu=>Az [.int .u64 0,.int .u64 0,.int .u64 0,.int .u64 0,.int .u64 0] 140 λg=>DX h 0 λv=>DX h 1 λx=>
 DX h 2 λy=>DX h 3 λz=>DX h 4 λA=>Ey 138 [.agg #[.int .u64 v,.int .u64 x,.int .u64 y,.int .u64 z,.int .u64 A]] λB=>Aj (!B) (λw=>Ai PR 79 #[] w λe w'=>∃j:Int,∃k:Int,∃l:Int,∃n:Int,∃o:Int,e = .returned (.agg #[.int .u64 j,.int .u64 k,.int .u64 l,.int .u64 n,.int .u64 o])/\(st g 0 (.int .u64 j)<|st g 1 (.int .u64 k)<|st g 2 (.int .u64 l)<|st g 3 (.int .u64 n)<|st g 4 (.int .u64 o)<|DX g 0 λp=>DX g 1 λq=>DX g 2 λr=>DX g 3 λs=>DX g 4 λt=>
 Q (.agg #[.int .u64 p,.int .u64 q,.int .u64 r,.int .u64 s,.int .u64 t])) w')<|Em λm=>PH jn Q m all2 h 0 u 0 g 0 0):=by kernel_rfl
theorem Zl:Uj jn Q (us 22 [])=(Q<|.i 4):=by kernel_rfl
theorem NA{a b c d e f g:Int}:PL jn Q (m1+1) draw1 a b c d e f g=(Aj (decide<|g<5) (AV ((0:Int)<=g/\g<((5:Nat):Int))<|λw=>∃h:Int,([.int .u64 b,.int .u64 c,.int .u64 d,.int .u64 e,.int .u64 f]:List Value)[g.toNat]? = some (.int .u64 h)/\isU (.int .u64 h)=false/\(Aj (decide<|(wrap .u64<|a+h)>(wrap .u64 draw1)) (Q<|.i g)<|PL jn Q m1 draw1 (wrap .u64<|a+h) b c d e f<|wrap .i64<|g+1) w)<|Azg jn Q):=by kernel_rfl
theorem Ap5:Aw jn PR PK f101 [.agg #[.int .u64 w0_0,.int .u64 w0_1,.int .u64 w0_2,.int .u64 w0_3,.int .u64 w0_4],.int .u32 draw1] Q=(Az [.int .u64 w0_0,.int .u64 w0_1,.int .u64 w0_2,.int .u64 w0_3,.int .u64 w0_4] 140 λa=>DX a 0 λb=>DX a 1 λc=>DX a 2 λd=>DX a 3 λe=>DX a 4 λf=>Em λm=>PL jn Q m draw1 0 b c d e f 0):=by kernel_rfl
theorem Ap6:Aw jn PR Azh f102 [.p t0] Q=(Aj (isNone t0) (Q<|.int .u32 0)<|Ac t0 λo q=>A0 o (q+1) λr=>Ac t0 λs t=>st s (t+1) (.i<|wrap .i64<|r+1)<|A5 λS=>Ac t0 λu v=>Dj S u (v+1) λw=>Ac t0 λx d=>Bb x d λe=>Al true S<|Aj (decide<|w>(e.n:Int)) (Q<|.int .u32 0) (A5 λS=>Ac t0 λf g=>Fg S f g λb=>Ac t0 λh j=>A0 h (j+1) λc=>Al true S<|CU b.a b.n (wrap .i64<|c-1) λk l=>ld (.int .u32) k (l+((wrap .i64<|c-(1:Int))).toNat*1) λ(m:Int)=>
 Q (.int .u32 m))):=by kernel_rfl
theorem Ap7:Aw jn PR Aca f103 [.p s0] Q=(Az [.i 0,.i 0,.i 0] 165 λb=>Aj (isNone s0) (st b 0 (.i 0)<|st b 1 (.i 0)<|st b 2 (.i 0)<|A0 b 0 λn=>A0 b 1 λo=>A0 b 2 λq=>Q<|.agg #[.i n,.i o,.i q]) (Ac s0 λe f=>A0 e (f+3) λr=>A0 e ((f+3)+1) λs=>A0 e (((f+3)+1)+1) λt=>Az [.i 0,.i 0,.i 0] 165 λa=>st a 0 (.i r)<|st a 1 (.i s)<|st a 2 (.i t)<|Ac s0 λc d=>
 st c (d+3) (.i 0)<|st c ((d+3)+1) (.i 0)<|st c (((d+3)+1)+1) (.i 0)<|A0 a 0 λg=>A0 a 1 λh=>A0 a 2 λj=>st b 0 (.i g)<|st b 1 (.i h)<|st b 2 (.i j)<|A0 b 0 λk=>A0 b 1 λl=>A0 b 2 λm=>Q<|.agg #[.i k,.i l,.i m])):=by kernel_rfl
theorem Zn:Ul jn Q ((.p s0)::(.i kind1)::us 29 [])=(Bw 93 [.p s0] λe=>Ac s0 λa b=>Bo a (b+2) λc=>Bw 144 [.p c,.i kind1] λd=>Q<|.i d):=by kernel_rfl
theorem Zm{a:Bool}:Uk jn Q ((.p s0)::(.i kind1)::us 6 ((.b a)::us 22 []))=(Aj a (Q<|.i 4)<|Ac s0 λc d=>Bo c (d+2) λe=>Bw 43 [.p e] λf=>Aj (kind1==f) (Q<|.i 8)<|Azi jn Q s0 kind1):=by kernel_rfl
theorem Ap8:Aw jn PR PM f104 [.p s0,.i kind1] Q=(Aj (isNone s0) (Q<|.i 1)<|Aj (decide<|kind1<0) (Aic jn Q s0 kind1 true)<|Aic jn Q s0 kind1<|decide<|kind1>=5):=by kernel_rfl
theorem Zo:Um jn Q ((.p m0)::us 4 ((.l gone5.a gone5.n gone5.c)::us 48 []))=(A5 λS=>Ac m0 λB13 O14=>Dj S B13 O14 λX15=>Ac m0 λB16 O17=>Dj S B16 (O17+1) λX18=>Ac m0 λB19 O20=>Mk B19 (O20+2) (Al true S<|Cv) λ(t_21:TypeId)(v_22:Value)=>Al true S<|
 Fu PR t_21 v_22 "Keys" fun f_23 r_24 =>GW f_23 [r_24] fun X25=>Al true S <|Rh (.int .i64) PR 146 [.i X15,.i X18,.l X25.a X25.n X25.c] (fun (X26:Int)=>Ac m0 fun B29 O30=>st B29 (O30+2) .nilIface <|Q (.l gone5.a gone5.n gone5.c)) fun (t_27:TypeId) (v_28:Value) (X26:Int)=>Ac m0 fun B31 O32=>st B31 (O32+2) (.iface t_27 v_28) <|Q (.l gone5.a gone5.n gone5.c)):=by kernel_rfl
theorem NB:PO jn Q (m1+1) m0 gone5=(A5 λS=>Ac m0 λe f=>Dj S e (f+1) λg=>Bw 133 [.p m0] λh=>Al true S<|Aj (decide<|h>g) (Fv 135 [.p m0] λi j=>Az [.s i] 9 λb=>Bl 9 1 16 [.s Ae] ⟨gone5.a,gone5.n,gone5.c⟩ 1 (λw=>H3 w (some ⟨b,0,none⟩)<|1*1) λd=>PO jn Q m1 m0 d)<|Aid jn Q m0 gone5):=by kernel_rfl
theorem Ap9:Aw jn PR PN f105 [.p m0,.i room1] Q=(Aj (isNone m0) (Q<|.l none 0 0)<|Bw 72 [.i room1,.i 1,.i 1024] λa=>Ac m0 λb c=>st b (c+1) (.i a)<|Bw 145 [.p m0] λd=>Em λm=>PO jn Q m m0 ⟨none,0,0⟩):=by kernel_rfl
theorem Aqa{c1:Int}:Aw jn PR Azk f106 [.p s0,.i c1] Q=(Aj (isNone s0) (Q<|.i 0)<|A5 λS=>Ac s0 λc d=>Dj S c d λa=>Bw 72 [.i c1,.i 0,.i 1024] λb=>Al true S<|AV ((16777216:Int)≠0)<|Q<|.i<|if (wrap .i64<|tdiv (wrap .i64<|b*a) 16777216)>1 then (wrap .i64<|tdiv (wrap .i64<|b*a) 16777216) else 1):=by kernel_rfl
theorem Aqb:Aw jn PR Aca f107 [.i kind0,.i room1] Q=(Rh (.int .i64) PR 113 [.i kind0,.i room1] (λ(a:Int)=>Aj (a != 0) (Q<|.tuple #[.p none,.i a])<|L1 147 [.i room1] λd=>Az [.i kind0,.nilIface,.p d,.i 0,.i 0,.i 0,.i 0,.i 0,.i 0] 203 λe=>Q<|.tuple #[pq e 0,.i 0]) λ(b:TypeId)(c:Value)(a:Int)=>Aj (a != 0) (Q<|.tuple #[.p none,.i a]) (L1 147 [.i room1] λf=>Az [.i kind0,.iface b c,.p f,.i 0,.i 0,.i 0,.i 0,.i 0,.i 0] 203 λg=>
 Q (.tuple #[pq g 0,.i 0]))):=by kernel_rfl
theorem Aqc:Aw jn PR Aca f113 [.i kind0,.i room1] Q=(Aj (kind0==0) (L1 151 [.i room1] λa=>Q<|.tuple #[.iface 223<|.p a,.i 0])<|Aj (kind0==1) (L1 152 [.i room1] λb=>Q<|.tuple #[.iface 225<|.p b,.i 0])<|Aj (kind0==2) (L1 153 [.i room1] λc=>Q<|.tuple #[.iface 227<|.p c,.i 0])<|Aj (kind0==3) (L1 154 [.i room1] λd=>Q<|.tuple #[.iface 229<|.p d,.i 0])<|Aj (kind0==4) (L1 155 [.i room1] λe=>
 Q (.tuple #[.iface 231<|.p e,.i 0]))<|Q<|.tuple #[.nilIface,.i 4]):=by kernel_rfl
theorem Aqd:Aw jn PR Aca f114 [.int .u64 seed0] Q=(Ij 178 48 [.i 0,.s Ae,.s Ae,.i 0] 8 8 λb=>Az [.int .u64 seed0,.l b.a b.n b.c,.i 0,.i 0] 176 λd=>Q<|pq d 0):=by kernel_rfl
theorem Zp:Un jn Q (us 1 ((pq w1b w1o)::(pq t2b t2o)::(.i best3)::us 22 []))=(A5 λS=>AV ((0:Int)<=best3/\best3<((5:Nat):Int))<|wLu S w1b (w1o+best3.toNat*1) λn=>DX w1b w1o λo=>DX w1b (w1o+1) λp=>DX w1b ((w1o+1)+1) λq=>DX w1b (((w1o+1)+1)+1) λr=>DX w1b ((((w1o+1)+1)+1)+1) λa=>Al true S<|wcu 142 [.agg #[.int .u64 o,.int .u64 p,.int .u64 q,.int .u64 r,.int .u64 a]] λb=>Al true S<|AV ((0:Int)<=best3/\best3<((5:Nat):Int))<|
 st w1b (w1o+best3.toNat*1) (.int .u64<|wrap .u64<|n+(wrap .u64<|4294967296-b))<|DX w1b w1o λc=>DX w1b (w1o+1) λd=>DX w1b ((w1o+1)+1) λe=>DX w1b (((w1o+1)+1)+1) λf=>DX w1b ((((w1o+1)+1)+1)+1) λg=>st t2b t2o (.int .u64 c)<|st t2b (t2o+1) (.int .u64 d)<|st t2b ((t2o+1)+1) (.int .u64 e)<|st t2b (((t2o+1)+1)+1) (.int .u64 f)<|st t2b ((((t2o+1)+1)+1)+1) (.int .u64 g)<|DX t2b t2o λh=>DX t2b (t2o+1) λj=>DX t2b ((t2o+1)+1) λk=>DX t2b (((t2o+1)+1)+1) λl=>DX t2b ((((t2o+1)+1)+1)+1) λm=>
 Q (.agg #[.int .u64 h,.int .u64 j,.int .u64 k,.int .u64 l,.int .u64 m])):=by kernel_rfl
theorem NC:LC jn Q (m1+1) w1b w1o t2b t2o best3 t5=(Aj (decide<|t5<5) (A5 λS=>AV ((0:Int)<=t5/\t5<((5:Nat):Int))<|wLu S w1b (w1o+t5.toNat*1) λa=>AV ((0:Int)<=best3/\best3<((5:Nat):Int))<|DX w1b (w1o+best3.toNat*1) λb=>Al true S<|Aj (decide<|a>b) (LC jn Q m1 w1b w1o t2b t2o t5<|wrap .i64<|t5+1)<|LC jn Q m1 w1b w1o t2b t2o best3<|wrap .i64<|t5+1)<|Aie jn Q w1b w1o t2b t2o best3):=by kernel_rfl
theorem Aqe:Aw jn PR PP f115 [.agg #[.int .u64 w0_0,.int .u64 w0_1,.int .u64 w0_2,.int .u64 w0_3,.int .u64 w0_4]] Q=(Az [.int .u64 w0_0,.int .u64 w0_1,.int .u64 w0_2,.int .u64 w0_3,.int .u64 w0_4] 140 λa=>Az [.int .u64 0,.int .u64 0,.int .u64 0,.int .u64 0,.int .u64 0] 140 λb=>Em λm=>LC jn Q m a 0 b 0 0 0):=by kernel_rfl
theorem Aqf:Aw jn PR Aca f116 [.int .u64 h0,.i n1] Q=(Aj (decide<|n1<1) (Q<|.i 0)<|AV ((wrap .u64 n1)≠0)<|Q<|.i<|wrap .i64<|tmod h0<|wrap .u64 n1):=by kernel_rfl
theorem Zq:Uo jn Q (us 5 ((.int .u64 h5)::us 22 []))=(Q<|.int .u64 h5):=by kernel_rfl
theorem ND:PT jn Q (m1+1) s1 h5 t14 t15=(Aj (decide<|t15<t14) (AV ((0:Int)<=t15/\t15<(s1.size:Int))<|wcu 156 [.int .u64<|wrap .u64<|(bits .xor .u64 h5<|wrap .u64<|Bc s1 t15.toNat)+11400714819323198485] λa=>PT jn Q m1 s1 a t14<|wrap .i64<|t15+1)<|Azo jn Q h5):=by kernel_rfl
theorem Aqg:Aw jn PR PQ f117 [.int .u64 seed0,.s s1] Q=(wcu 156 [.int .u64<|bits .xor .u64 seed0<|wrap .u64 (s1.size:Int)] λa=>Em λm=>PT jn Q m s1 a (s1.size:Int) 0):=by kernel_rfl
theorem Zs:Uq jn Q (us 49 [])=(Q<|.b true):=by kernel_rfl
theorem NF{s0:BA}:CA jn Q (m2+1) s0 t14 t15=(Aj (decide<|t15<t14) (AV ((0:Int)<=t15/\t15<(s0.size:Int))<|Aj (decide<|(Bc s0 t15.toNat)<97) (Aj (decide<|(Bc s0 t15.toNat)<65) (Aj (decide<|(Bc s0 t15.toNat)<48) (Bw 157 [.s Dx,.int .u8<|Bc s0 t15.toNat] λa=>Aj (decide<|a<0) (Q<|.b false)<|CA jn Q m2 s0 t14<|wrap .i64<|t15+1)<|Aj (decide<|(Bc s0 t15.toNat)>57) (Bw 157 [.s Dx,.int .u8<|Bc s0 t15.toNat] λc=>Aj (decide<|c<0) (Q<|.b false)<|CA jn Q m2 s0 t14<|wrap .i64<|t15+1) (
 CA jn Q m2 s0 t14 (wrap .i64<|t15+1)))<|Aj (decide<|(Bc s0 t15.toNat)>90) (Aj (decide<|(Bc s0 t15.toNat)<48) (Bw 157 [.s Dx,.int .u8<|Bc s0 t15.toNat] λd=>Aj (decide<|d<0) (Q<|.b false)<|CA jn Q m2 s0 t14<|wrap .i64<|t15+1)<|Aj (decide<|(Bc s0 t15.toNat)>57) (Bw 157 [.s Dx,.int .u8<|Bc s0 t15.toNat] λe=>Aj (decide<|e<0) (Q<|.b false)<|CA jn Q m2 s0 t14<|wrap .i64<|t15+1)<|CA jn Q m2 s0 t14<|wrap .i64<|t15+1)<|CA jn Q m2 s0 t14<|wrap .i64<|t15+1)<|Aj (decide<|(Bc s0 t15.toNat)>122) (
 Aj (decide<|(Bc s0 t15.toNat)<65) (Aj (decide<|(Bc s0 t15.toNat)<48) (Bw 157 [.s Dx,.int .u8<|Bc s0 t15.toNat] λf=>Aj (decide<|f<0) (Q<|.b false)<|CA jn Q m2 s0 t14<|wrap .i64<|t15+1)<|Aj (decide<|(Bc s0 t15.toNat)>57) (Bw 157 [.s Dx,.int .u8<|Bc s0 t15.toNat] λg=>Aj (decide<|g<0) (Q<|.b false)<|CA jn Q m2 s0 t14<|wrap .i64<|t15+1)<|CA jn Q m2 s0 t14<|wrap .i64<|t15+1) (Aj (decide<|(Bc s0 t15.toNat)>90) (Aj (decide<|(Bc s0 t15.toNat)<48) (Bw 157 [.s Dx,.int .u8<|Bc s0 t15.toNat] λh=>
 Aj (decide<|h<0) (Q<|.b false) (CA jn Q m2 s0 t14<|wrap .i64<|t15+1))<|Aj (decide<|(Bc s0 t15.toNat)>57) (Bw 157 [.s Dx,.int .u8<|Bc s0 t15.toNat] λi=>Aj (decide<|i<0) (Q<|.b false)<|CA jn Q m2 s0 t14<|wrap .i64<|t15+1)<|CA jn Q m2 s0 t14<|wrap .i64<|t15+1)<|CA jn Q m2 s0 t14<|wrap .i64<|t15+1))<|CA jn Q m2 s0 t14<|wrap .i64<|t15+1)<|Azr jn Q):=by kernel_rfl
theorem Zr{s0:BA}:Up jn Q ((.s s0)::us 48 [])=(Em λm=>CA jn Q m s0 (s0.size:Int) 0):=by kernel_rfl
theorem Aqh{s0:BA}:Aw jn PR LD f118 [.s s0] Q=(Aj (decide<|(s0.size:Int)<1) (Q<|.b false)<|Aj (decide<|(s0.size:Int)>24) (Q<|.b false)<|Azq jn Q s0):=by kernel_rfl
theorem Aqi{b a:Int}:Aw jn PR Aca f119 [.i b,.i a] Q=(Aj (decide<|b>=a) (Q<|.i b)<|Q<|.i<|wrap .i64<|b+1):=by kernel_rfl
theorem Zt{a c:Nat}:Ur jn Q (us 4 ((pq a c)::us 22 []))=(Az [.s Ae,.i 0] 120 λd=>Ci d 0 λe=>A0 d 1 λf=>st a c (.s e)<|st a (c+1) (.i f)<|Ci a c λg=>A0 a (c+1) λh=>Q<|.tuple #[.agg #[.s g,.i h],.b false]):=by kernel_rfl
theorem Aqj:Aw jn PR EF f120 [.p x0,.s key1] Q=(Az [.s Ae,.i 0] 120 λc=>Aj (!isNone x0) (Gk 158 [.p x0,.s key1] λd l=>Aj l (Ac x0 λm o=>Bb m (o+1) λh=>CU h.a h.n d λj k=>Ci j ((k+d.toNat*4)+2) λq=>A0 j (((k+d.toNat*4)+2)+1) λe=>st c 0 (.s q)<|st c 1 (.i e)<|Ci c 0 λf=>A0 c 1 λg=>Q<|.tuple #[.agg #[.s f,.i g],.b true])<|Aif jn Q c 0)<|Aif jn Q c 0):=by kernel_rfl
theorem Aqk{a:BA}{c:Int}:Aw jn PR Aca f121 [.agg #[.s a,.i c],.i now1] Q=(Az [.s a,.i c] 120 λd=>A0 d 1 λe=>Aj (e != 0) (A0 d 1 λf=>Q<|.b<|decide<|f<=now1)<|Q<|.b false):=by kernel_rfl
theorem Aql{a:Int}:Aw jn PR Aca f123 [.int .u64 h0,.i a] Q=(AV ((16777216:Int)≠0)<|Q<|.b<|decide<|(wrap .i64<|tmod h0 16777216)<a):=by kernel_rfl
theorem Aqm:Aw jn PR Aca f124 [.p g0,.s key1] Q=(Aj (isNone g0) (Q<|.b false)<|Ac g0 λc d=>Bo c (d+2) λe=>Gk 159 [.p e,.s key1] λf a=>Aj a (Ac g0 λg h=>Bo g (h+1) λj=>Fv 160 [.p j,.i f] λl k=>Q<|.b a)<|Q<|.b a):=by kernel_rfl
theorem Zu:Us jn Q ((.p c0)::us 1 ((.b gone2)::us 29 []))=(Aj gone2 (Ac c0 λa c=>A0 a (c+2) λd=>Bw 119 [.i d,.i 1099511627776] λe=>Ac c0 λf g=>st f (g+2) (.i e)<|Q<|.tuple #[])<|Q<|.tuple #[]):=by kernel_rfl
theorem Aqn{a:Bool}:Aw jn PR Aig f125 [.p c0,.b a,.b gone2] Q=(Ac c0 λf g=>A0 f g λh=>Bw 119 [.i h,.i 1099511627776] λj=>Ac c0 λk l=>st k l (.i j)<|Aj a (Ac c0 λm n=>A0 m (n+1) λo=>Bw 119 [.i o,.i 1099511627776] λc=>Ac c0 λd e=>st d (e+1) (.i c)<|WR jn Q c0 gone2)<|WR jn Q c0 gone2):=by kernel_rfl
theorem Aqo:Aw jn PR Azs f126 [.p g0,.s key1] Q=(Aj (isNone g0) (Q<|.tuple #[.s Ae,.b false]) (Ey 124 [.p g0,.s key1] λC=>A5 λS=>Ac g0 λu v=>EK S u (v+2) λw=>Ac g0 λx y=>Bo x (y+1) λz=>Al true S<|Bw 162 [.p z,.s key1] λA=>Al true S<|Ey 161 [.p w,.s key1,.i A] λD=>A5 λS=>Ac g0 λc d=>EK S c (d+1) λe=>Ac g0 λf g=>Dj S f g λh=>Bw 163 [.p e] λj=>
 Al true S<|Aj (decide<|j<=h) (Q<|.tuple #[.s Ae,.b false])<|A5 λS=>Ac g0 λk l=>EK S k (l+1) λm=>Ac g0 λn o=>Bo n (o+1) λq=>Al true S<|Bw 165 [.p q] λr=>Al true S<|Fv 164 [.p m,.i r] λa t=>Ey 124 [.p g0,.s a] λB=>Q<|.tuple #[.s a,.b t])):=by kernel_rfl
theorem Aqp{c:BA}{d:Int}:Aw jn PR Kb f127 [.p x0,.s key1,.agg #[.s c,.i d]] Q=(Az [.s c,.i d] 120 λf=>Aj (isNone x0) (Q<|.b false)<|Gk 158 [.p x0,.s key1] λg v=>Aj v (A5 λS=>Ac x0 λw x=>Fg S w (x+1) λt=>Ci f 0 λy=>A0 f 1 λz=>Al true S<|CU t.a t.n g λu e=>st u ((e+g.toNat*4)+2) (.s y)<|st u (((e+g.toNat*4)+2)+1) (.i z)<|Q<|.b false) (Ci f 0 λh=>A0 f 1 λj=>
 wz 166 [.p x0,.i g,.s key1,.agg #[.s h,.i j]]<|A5 λS=>Ac x0 λk l=>Dj S k (l+3) λm=>Ac x0 λo q=>Bb o (q+1) λr=>Al true S<|Aj (decide<|(wrap .i64<|2*m)>(r.n:Int)) (wz 167 [.p x0]<|Q<|.b true)<|Q<|.b true)):=by kernel_rfl
theorem Zv:Ut jn Q ((.p f0)::(.i kind1)::(.s key2)::us 21 [])=(Ac f0 λa c=>Ey 122 [.p f0,.p<|some ⟨a,(c+5),none⟩,.i kind1,.s key2] λd=>Q<|.b d):=by kernel_rfl
theorem Aqq:Aw jn PR Aih f128 [.p f0,.i kind1,.s key2] Q=(Aj (isNone f0) (Q<|.b false)<|Aj (kind1 != 2) (Aj (kind1 != 3) (Q<|.b false)<|WS jn Q f0 kind1 key2)<|WS jn Q f0 kind1 key2):=by kernel_rfl
theorem Zw:Uu jn Q (us 3 ((.l all3.a all3.n all3.c)::us 21 []))=(Q<|.l all3.a all3.n all3.c):=by kernel_rfl
theorem NG{d:OA}:LF jn Q (m1+1) f0 all3 d=(Aj (!isNone d) (Ac d λf g=>A0 f (g+1) λh=>Ci f ((g+1)+1) λj=>Az [.i h,.s j] 159 λk=>Bl 159 2 24 [.i 0,.s Ae] ⟨all3.a,all3.n,all3.c⟩ 1 (λw=>H3 w (some ⟨k,0,none⟩)<|1*2) λl=>Ac d λm o=>st m (o+4) (.b false)<|L1 168 [.p f0] λe=>LF jn Q m1 f0 l e)<|Azu jn Q all3):=by kernel_rfl
theorem Aqr:Aw jn PR PU f129 [.p f0] Q=(Aj (isNone f0) (Q<|.l none 0 0)<|L1 168 [.p f0] λa=>Em λm=>LF jn Q m f0 ⟨none,0,0⟩ a):=by kernel_rfl
theorem Aqt{e1_0:Int}{e1_1:BA}:Aw jn PR Azw f130 [.p m0,.agg #[.i e1_0,.s e1_1]] Q=(Az [.i e1_0,.s e1_1] 159 λB1=>Aj (isNone m0) (Q (.l none 0 0)) (A0 B1 0 λX2=>Aj (X2==1) (Ci B1 1 λX3=>Ey 131 [.p m0,.s X3] λX4=>Aj X4 (Ci B1 1 λX5=>GW 132 [.p m0,.s X5] λX6=>Q (.l X6.a X6.n X6.c)) (Q (.l none 0 0))) (Aj (X2==2) (Ci B1 1 λX7=>GW 94 [.p m0,.s X7] λX8=>Q (.l X8.a X8.n X8.c)) (Aj (X2==3) (A5 λS=>Ac m0 λB9 O10=>
 Agl S B9 (O10+2) (Ci B1 1 λX13=>Al true S<|Cv) λ(t_11:TypeId)(v_12:Value)=>Ci B1 1 λX14=>Al true S<|
 Fu PR t_11 v_12 "Remove" fun f_15 r_16 =>Ey f_15 [r_16,.s X14] fun X17=>Ey 42 [.p m0] fun X18=>Aj X18 (A5 fun S=>Ac m0 fun B19 O20=>Agl S B19 (O20+3) (Ci B1 1 fun X23=>Al true S <|Cv) fun (t_21:TypeId) (v_22:Value)=>Ci B1 1 fun X24=>Al true S <|
 Fu PR t_21 v_22 "Remove" fun f_25 r_26 =>Ey f_25 [r_26,.s X24] fun X27=>Q (.l none 0 0)) (Q (.l none 0 0))) (Q (.l none 0 0)))))):=by kernel_rfl
theorem Aqu:Aw jn PR Aca f131 [.p m0,.s key1] Q=(Aj (!isNone m0) (Ac m0 λl m=>Mk l (m+2) (Cv) λ(f:TypeId)(g:Value)=>
 Fu PR f g "Has" fun h i =>Ey h [i,.s key1] fun n=>Aj n (Q (.b true)) (Ey 42 [.p m0] fun o=>Aj o (Ac m0 fun q j=>Mk q (j+3) (Cv) fun (a:TypeId) (c:Value)=>
 Fu PR a c "Has" fun d e =>Ey d [e,.s key1] fun k=>Q (.b k)) (Q (.b false)))) (Q (.b false))):=by kernel_rfl
theorem NH:Uv jn Q ((.p m0)::(.s key1)::us 28 [])=(Ac m0 λi h=>Mk i (h+2) (Cv) λ(d:TypeId)(e:Value)=>
 Fu PR d e "Access" fun f g =>Bbn f [g,.s key1] fun j b=>Q (.l b.a b.n b.c)):=by kernel_rfl
theorem Aqv:Aw jn PR MW f132 [.p m0,.s key1] Q=(Ey 42 [.p m0] λe=>Aj e (Ac m0 λf g=>Mk f (g+3) (Cv) λ(a:TypeId)(b:Value)=>
 Fu PR a b "Has" fun c d =>Ey c [d,.s key1] fun h=>Aj h (wz 137 [.p m0,.s key1] <|PV jn Q m0 key1) (PV jn Q m0 key1)) (PV jn Q m0 key1)):=by kernel_rfl
theorem Zy:Aw jn PR Azx f133 [.p m0] Q=(Aj (isNone m0) (Q (.i 0)) (A5 λS=>Ac m0 λB1 O2=>Agl S B1 (O2+2) (Bw 134 [.p m0] λX5=>Al true S<|Cv) λ(t_3:TypeId)(v_4:Value)=>Bw 134 [.p m0] λX6=>Al true S<|
 Fu PR t_3 v_4 "Len" fun f_7 r_8 =>Bw f_7 [r_8] fun X9=>Q (.i (wrap .i64 (X6+X9))))):=by kernel_rfl
theorem Zz:Aw jn PR Aca f134 [.p m0] Q=(Ey 42 [.p m0] λe=>Aj (!e) (Q (.i 0)) (Ac m0 λf g=>Mk f (g+3) (Cv) λ(a:TypeId)(b:Value)=>
 Fu PR a b "Len" fun c d =>Bw c [d] fun h=>Q (.i h))):=by kernel_rfl
theorem Z0:Aw jn PR Aca f135 [.p m0] Q=(Aj (isNone m0) (Q (.tuple #[.s Ae,.b false])) (Bw 134 [.p m0] λn=>Aj (decide (n>0)) (Ac m0 λo q=>Mk o (q+3) (Cv) λ(f:TypeId)(g:Value)=>
 Fu PR f g "Evict" fun h i =>Fv h [i] fun r t=>Q (.tuple #[.s r,.b t])) (Ac m0 fun j k=>Mk j (k+2) (Cv) fun (a:TypeId) (c:Value)=>
 Fu PR a c "Evict" fun d e =>Fv d [e] fun l m=>Q (.tuple #[.s l,.b m])))):=by kernel_rfl
theorem Aqw:Aw jn PR Aca f136 [.p x0,.s key1] Q=(Az [.s Ae,.i 0] 120 λf=>λw=>Ai PR 120 #[.p x0,.s key1] w λe w'=>∃C:BA,∃D:Int,∃k:Bool,e = .returned (.tuple #[.agg #[.s C,.i D],.b k])/\(Az [.s Ae,.i 0] 120 λg=>st g 0 (.s C)<|st g 1 (.i D)<|Aj k (Gk 158 [.p x0,.s key1] λh G=>Ac x0 λE F=>Bb E (F+1) λj=>CU j.a j.n h λc d=>st c (d+h.toNat*4) (.i 1)<|st c ((d+h.toNat*4)+1) (.s Ae)<|
 st c (((d+h.toNat*4)+1)+1) (.s Ae)<|st c ((((d+h.toNat*4)+1)+1)+1) (.i 0)<|Ac x0 λl m=>A0 l (m+2) λo=>Ac x0 λq r=>st q (r+2) (.i<|wrap .i64<|o-1)<|Ci g 0 λt=>A0 g 1 λu=>st f 0 (.s t)<|st f 1 (.i u)<|Ci f 0 λv=>A0 f 1 λx=>Q<|.tuple #[.agg #[.s v,.i x],.b k])<|Ci g 0 λy=>A0 g 1 λz=>st f 0 (.s y)<|st f 1 (.i z)<|Ci f 0 λA=>A0 f 1 λB=>Q<|.tuple #[.agg #[.s A,.i B],.b k]) w'):=by kernel_rfl
theorem Aqx:Aw jn PR Aca f137 [.p m0,.s key1] Q=(Ac m0 λi j=>Mk i (j+3) (Cv) λ(e:TypeId)(f:Value)=>
 Fu PR e f "Remove" fun g h =>Ey g [h,.s key1] fun n=>Ac m0 fun k l=>Mk k (l+2) (Cv) fun (a:TypeId) (b:Value)=>
 Fu PR a b "Load" fun c d =>Ey c [d,.s key1] fun m=>Q (.tuple #[])):=by kernel_rfl
theorem Z1:Uw jn Q (us 1 ((pq w1b w1o)::us 17 []))=(DX w1b w1o λf=>DX w1b (w1o+1) λg=>DX w1b ((w1o+1)+1) λa=>DX w1b (((w1o+1)+1)+1) λc=>DX w1b ((((w1o+1)+1)+1)+1) λd=>wcu 142 [.agg #[.int .u64 f,.int .u64 g,.int .u64 a,.int .u64 c,.int .u64 d]] λe=>Q<|.b<|e==4294967296):=by kernel_rfl
theorem NI{a c d e f:Int}:PX jn Q (m1+1) w1b w1o a c d e f t6=(Aj (decide<|t6<5) (AV ((0:Int)<=t6/\t6<((5:Nat):Int))<|λw=>∃g:Int,([.int .u64 a,.int .u64 c,.int .u64 d,.int .u64 e,.int .u64 f]:List Value)[t6.toNat]? = some (.int .u64 g)/\isU (.int .u64 g)=false/\(Aj (decide<|g<42949672) (Q<|.b false)<|Aj (decide<|g>4294967296) (Q<|.b false)<|PX jn Q m1 w1b w1o a c d e f<|wrap .i64<|t6+1) w)<|Azz jn Q w1b w1o):=by kernel_rfl
theorem Aqy:Aw jn PR PW f138 [.agg #[.int .u64 w0_0,.int .u64 w0_1,.int .u64 w0_2,.int .u64 w0_3,.int .u64 w0_4]] Q=(Az [.int .u64 w0_0,.int .u64 w0_1,.int .u64 w0_2,.int .u64 w0_3,.int .u64 w0_4] 140 λa=>DX a 0 λb=>DX a 1 λc=>DX a 2 λd=>DX a 3 λe=>DX a 4 λf=>Em λm=>PX jn Q m a 0 b c d e f 0):=by kernel_rfl
theorem Aqz{b1:Int}:Aw jn PR Aca f139 [.int .u64 a0,.int .u64 b1] Q=(wcu 143 [.int .u64 a0,.int .u64 b1,.int .u64 4294967296] λa=>Q<|.int .u64 a):=by kernel_rfl
theorem Z2:Ux jn Q (us 3 ((.int .u64 x3)::us 9 []))=(Q<|.int .u64 x3):=by kernel_rfl
theorem NJ:PZ jn Q (m1+1) x3 t5 t6=(Aj (decide<|t6<t5) (AV ((10:Int)≠0)<|PZ jn Q m1 (wrap .u64<|tdiv (wrap .u64<|x3*9) 10) t5<|wrap .i64<|t6+1)<|Az2 jn Q x3):=by kernel_rfl
theorem Aq0{a:Int}:Aw jn PR PY f140 [.i a] Q=(Bw 72 [.i a,.i 0,.i 15] λb=>Em λm=>PZ jn Q m 4294967296 b 0):=by kernel_rfl
theorem Aq1{a b:Int}:Aw jn PR Aca f141 [.i a,.i b] Q=(Bw 72 [.i a,.i 0,.i 1099511627776] λd=>Bw 72 [.i b,.i 0,.i 1099511627776] λc=>Aj (c==0) (Q<|.i 0)<|AV (c≠0)<|Q<|.i<|if 15<(wrap .i64<|tdiv (wrap .i64<|16*d) c) then 15 else (wrap .i64<|tdiv (wrap .i64<|16*d) c)):=by kernel_rfl
theorem Z3:Uy jn Q (us 3 ((.int .u64 sum3)::us 11 []))=(Q<|.int .u64 sum3):=by kernel_rfl
theorem NK{a b c d e:Int}:Qb jn Q (m1+1) sum3 a b c d e t7=(Aj (decide<|t7<5) (AV ((0:Int)<=t7/\t7<((5:Nat):Int))<|λw=>∃f:Int,([.int .u64 a,.int .u64 b,.int .u64 c,.int .u64 d,.int .u64 e]:List Value)[t7.toNat]? = some (.int .u64 f)/\isU (.int .u64 f)=false/\(Qb jn Q m1 (wrap .u64<|sum3+f) a b c d e<|wrap .i64<|t7+1) w)<|Az4 jn Q sum3):=by kernel_rfl
theorem Aq2:Aw jn PR Qa f142 [.agg #[.int .u64 w0_0,.int .u64 w0_1,.int .u64 w0_2,.int .u64 w0_3,.int .u64 w0_4]] Q=(Az [.int .u64 w0_0,.int .u64 w0_1,.int .u64 w0_2,.int .u64 w0_3,.int .u64 w0_4] 140 λa=>DX a 0 λb=>DX a 1 λc=>DX a 2 λd=>DX a 3 λe=>DX a 4 λf=>Em λm=>Qb jn Q m 0 b c d e f 0):=by kernel_rfl
theorem Aq3{b a:Int}:Aw jn PR Aca f143 [.int .u64 a0,.int .u64 b,.int .u64 a] Q=(GC (.int .u64) (.int .u64) PR 169 [.int .u64 a0,.int .u64 b] λ(c:Int)(d:Int)=>Aj (decide<|c>=a) (Q<|.int .u64 18446744073709551615)<|GC (.int .u64) (.int .u64) PR 170 [.int .u64 c,.int .u64 d,.int .u64 a] λ(e:Int)(f:Int)=>Q<|.int .u64 e):=by kernel_rfl
theorem Aq4:Aw jn PR Aca f144 [.p m0,.i kind1] Q=(Aj (isNone m0) (Q<|.i 1)<|Ac m0 λJ K=>A0 J (K+1) λL=>Rh (.int .i64) PR 113 [.i kind1,.i L] (λ(a:Int)=>Aj (a != 0) (Q<|.i a) (Bw 145 [.p m0] λP=>Ac m0 λM N=>Mk M (N+2) (Ac m0 λh j=>st h j (.i kind1)<|Ac m0 λk l=>st k (l+2) .nilIface<|Ac m0 λm n=>st m (n+3) .nilIface<|Q<|.i 0) λ(b:TypeId)(c:Value)=>Ac m0 λo q=>st o q (.i kind1)<|Ac m0 λr s=>
 st r (s+2) .nilIface<|Ac m0 λt u=>st t (u+3) (.iface b c)<|Q<|.i 0)) λ(d:TypeId)(e:Value)(a:Int)=>Aj (a != 0) (Q<|.i a)<|Bw 145 [.p m0] λO=>Ac m0 λv w=>Mk v (w+2) (Ac m0 λx y=>st x y (.i kind1)<|Ac m0 λz A=>st z (A+2) (.iface d e)<|Ac m0 λB C=>st B (C+3) .nilIface<|Q<|.i 0) λ(f:TypeId)(g:Value)=>Ac m0 λD E=>st D E (.i kind1)<|Ac m0 λF G=>st F (G+2) (.iface d e)<|Ac m0 λH I=>st H (I+3) (.iface f g)<|Q<|.i 0):=by kernel_rfl
theorem Z4:Uz jn Q (us 3 ((.i n3)::us 13 []))=(Q<|.i n3):=by kernel_rfl
theorem Jy:Kc jn Q (m1+1) m0 n3=(Ey 42 [.p m0] λa=>Aj a (Fv 99 [.p m0] λc b=>Aj b (Kc jn Q m1 m0<|wrap .i64<|n3+1)<|Kc jn Q m1 m0 n3)<|Az6 jn Q n3):=by kernel_rfl
theorem Aq5:Aw jn PR Qc f145 [.p m0] Q=(Em λm=>Kc jn Q m m0 0):=by kernel_rfl
theorem Z5:U0 jn Q (us 8 ((.iface e8_t e8_v)::us 23 []))=(Q<|.tuple #[.iface e8_t e8_v,.i 0]):=by kernel_rfl
theorem NL{c:Sl}{d b:Int}:Qd jn Q (m3+1) e8_t e8_v c d b=(Aj (decide (b<d)) (CU c.a c.n b λg h=>Ci g (h+b.toNat*1) λi=>
 Fu PR e8_t e8_v "Load" fun e f =>Ey e [f,.s i] fun j=>Qd jn Q m3 e8_t e8_v c d (wrap .i64 (b+1))) (Az7 jn Q e8_t e8_v)):=by kernel_rfl
theorem Aq6{b:Sl}:Aw jn PR LG f146 [.i kind0,.i room1,.l b.a b.n b.c] Q=(Rh (.int .i64) PR 113 [.i kind0,.i room1] (λ(d:Int)=>Aj (d != 0) (Q<|.tuple #[.nilIface,.i d])<|Em λm=>Az8 jn Q m b (b.n:Int) 0) λ(e:TypeId)(f:Value)(d:Int)=>Aj (d != 0) (Q<|.tuple #[.nilIface,.i d])<|Em λm=>Qd jn Q m e f b (b.n:Int) 0):=by kernel_rfl
theorem Aq7:Aw jn PR Aca f147 [.i room0] Q=(Bw 72 [.i room0,.i 1,.i 1024] λa=>L1 171 [] λb=>L1 172 [.int .u64 0] λc=>Az [.i a,.p b,.p c] 238 λd=>Q<|pq d 0):=by kernel_rfl
theorem Aq8:Aw jn PR Aca f151 [.i room0] Q=(λw=>Ai PR 184 #[.i 4] w λe w'=>∃b:Sl,∃d:OA,e = .returned (.agg #[.l b.a b.n b.c,.p d])/\(Az [.l b.a b.n b.c,.p d,.i<|if (if 1024<room0 then 1024 else room0)>1 then (if 1024<room0 then 1024 else room0) else 1,.i 0] 266 λf=>Q<|pq f 0) w'):=by kernel_rfl
theorem Aq9:Aw jn PR Aca f152 [.i room0] Q=(AV ((10:Int)≠0)<|L1 171 [] λa=>L1 171 [] λb=>L1 185 [.int .u64 0] λc=>Az [.i<|if (if 1024<room0 then 1024 else room0)>1 then (if 1024<room0 then 1024 else room0) else 1,.i<|wrap .i64<|(if (if 1024<room0 then 1024 else room0)>1 then (if 1024<room0 then 1024 else room0) else 1)-(if (wrap .i64<|tdiv (if (if 1024<room0 then 1024 else room0)>1 then (if 1024<room0 then 1024 else room0) else 1) 10)>1 then (wrap .i64<|tdiv (if (if 1024<room0 then 1024 else room0)>1 then (if 1024<room0 then 1024 else room0) else 1) 10) else 1),.p a,.p b,.p c,.i 0,.i 0] 272 λd=>
 Q (pq d 0)):=by kernel_rfl
theorem Ara:Aw jn PR Aca f153 [.i room0] Q=(λw=>Ai PR 186 #[.i 3] w λe w'=>∃b:Sl,∃d:OA,e = .returned (.agg #[.l b.a b.n b.c,.p d])/\(AV ((4:Int)≠0)<|AV ((2:Int)≠0)<|Az [.l b.a b.n b.c,.p d,.i<|if (if 1024<room0 then 1024 else room0)>1 then (if 1024<room0 then 1024 else room0) else 1,.i<|if (wrap .i64<|tdiv (if (if 1024<room0 then 1024 else room0)>1 then (if 1024<room0 then 1024 else room0) else 1) 4)>1 then (wrap .i64<|tdiv (if (if 1024<room0 then 1024 else room0)>1 then (if 1024<room0 then 1024 else room0) else 1) 4) else 1,.i<|if (wrap .i64<|tdiv (if (if 1024<room0 then 1024 else room0)>1 then (if 1024<room0 then 1024 else room0) else 1) 2)>1 then (wrap .i64<|tdiv (if (if 1024<room0 then 1024 else room0)>1 then (if 1024<room0 then 1024 else room0) else 1) 2) else 1] 278 λf=>
 Q (pq f 0)) w'):=by kernel_rfl
theorem Arb:Aw jn PR Aca f154 [.i room0] Q=(AV ((8:Int)≠0)<|λw=>Ai PR 187 #[.i 3] w λe w'=>∃b:Sl,∃d:OA,e = .returned (.agg #[.l b.a b.n b.c,.p d])/\(AV ((5:Int)≠0)<|L1 188 [.i<|if (if 1024<room0 then 1024 else room0)>1 then (if 1024<room0 then 1024 else room0) else 1] λf=>L1 189 [.i<|if (if 1024<room0 then 1024 else room0)>1 then (if 1024<room0 then 1024 else room0) else 1] λg=>Az [.l b.a b.n b.c,.p d,.i<|if (if 1024<room0 then 1024 else room0)>1 then (if 1024<room0 then 1024 else room0) else 1,.i<|if (wrap .i64<|tdiv (if (if 1024<room0 then 1024 else room0)>1 then (if 1024<room0 then 1024 else room0) else 1) 8)>1 then (wrap .i64<|tdiv (if (if 1024<room0 then 1024 else room0)>1 then (if 1024<room0 then 1024 else room0) else 1) 8) else 1,.i<|wrap .i64<|(if (if 1024<room0 then 1024 else room0)>1 then (if 1024<room0 then 1024 else room0) else 1)-(if (wrap .i64<|tdiv (if (if 1024<room0 then 1024 else room0)>1 then (if 1024<room0 then 1024 else room0) else 1) 8)>1 then (wrap .i64<|tdiv (if (if 1024<room0 then 1024 else room0)>1 then (if 1024<room0 then 1024 else room0) else 1) 8) else 1),.i<|wrap .i64<|tdiv (wrap .i64<|(wrap .i64<|(if (if 1024<room0 then 1024 else room0)>1 then (if 1024<room0 then 1024 else room0) else 1)-(if (wrap .i64<|tdiv (if (if 1024<room0 then 1024 else room0)>1 then (if 1024<room0 then 1024 else room0) else 1) 8)>1 then (wrap .i64<|tdiv (if (if 1024<room0 then 1024 else room0)>1 then (if 1024<room0 then 1024 else room0) else 1) 8) else 1))*4) 5,.p f,.p g] 288 λh=>
 Q (pq h 0)) w'):=by kernel_rfl
theorem Arc:Aw jn PR Aca f155 [.i room0] Q=(AV ((10:Int)≠0)<|λw=>Ai PR 190 #[.i 3] w λe w'=>∃b:Sl,∃d:OA,e = .returned (.agg #[.l b.a b.n b.c,.p d])/\(L1 172 [.int .u64 0] λf=>Az [.l b.a b.n b.c,.p d,.i<|if (if 1024<room0 then 1024 else room0)>1 then (if 1024<room0 then 1024 else room0) else 1,.i<|if (wrap .i64<|tdiv (if (if 1024<room0 then 1024 else room0)>1 then (if 1024<room0 then 1024 else room0) else 1) 10)>1 then (wrap .i64<|tdiv (if (if 1024<room0 then 1024 else room0)>1 then (if 1024<room0 then 1024 else room0) else 1) 10) else 1,.i<|if (wrap .i64<|(if (if 1024<room0 then 1024 else room0)>1 then (if 1024<room0 then 1024 else room0) else 1)-(if (wrap .i64<|tdiv (if (if 1024<room0 then 1024 else room0)>1 then (if 1024<room0 then 1024 else room0) else 1) 10)>1 then (wrap .i64<|tdiv (if (if 1024<room0 then 1024 else room0)>1 then (if 1024<room0 then 1024 else room0) else 1) 10) else 1))>1 then (wrap .i64<|(if (if 1024<room0 then 1024 else room0)>1 then (if 1024<room0 then 1024 else room0) else 1)-(if (wrap .i64<|tdiv (if (if 1024<room0 then 1024 else room0)>1 then (if 1024<room0 then 1024 else room0) else 1) 10)>1 then (wrap .i64<|tdiv (if (if 1024<room0 then 1024 else room0)>1 then (if 1024<room0 then 1024 else room0) else 1) 10) else 1)) else 1,.p f] 294 λg=>
 Q (pq g 0)) w'):=by kernel_rfl
theorem Ard{x0:Int}:Aw jn PR Aca f156 [.int .u64 x0] Q=(AV ((0:Int)<=(30:Int))<|AV ((0:Int)<=(27:Int))<|AV ((0:Int)<=(31:Int))<|Q<|.int .u64<|bits .xor .u64 (wrap .u64<|(bits .xor .u64 (wrap .u64<|(bits .xor .u64 x0<|CV .u64 x0 30)*13787848793156543929)<|CV .u64 (wrap .u64<|(bits .xor .u64 x0<|CV .u64 x0 30)*13787848793156543929) 27)*10723151780598845931)<|CV .u64 (wrap .u64<|(bits .xor .u64 (wrap .u64<|(bits .xor .u64 x0<|CV .u64 x0 30)*13787848793156543929)<|CV .u64 (wrap .u64<|(bits .xor .u64 x0<|CV .u64 x0 30)*13787848793156543929) 27)*10723151780598845931) 31):=by kernel_rfl
theorem Z8:U3 jn Q m1 ((.p x0)::(.s key1)::us 4 ((.i free6)::(.i i7)::us 71 []))=(Ac x0 λb c=>Bb b (c+1) λa=>AV ((a.n:Int)≠0)<|Qe jn Q m1 x0 key1 free6<|tmod (wrap .i64<|i7+1) (a.n:Int)):=by kernel_rfl
theorem Z9{a:Bool}:U4 jn Q m1 ((.p x0)::(.s key1)::us 4 ((.i free6)::(.i i7)::(pq p8b p8o)::us 52 ((.b a)::us 17 [])))=(Aj a (Q<|.tuple #[.i i7,.b false])<|Ac (some ⟨p8b,p8o,none⟩) λc d=>A0 c d λe=>Aj (e==0) (Q<|.tuple #[.i free6,.b false])<|WW jn Q m1 x0 key1 free6 i7):=by kernel_rfl
theorem Z7{a:Bool}:U2 jn Q m1 ((.p x0)::(.s key1)::us 4 ((.i free6)::(.i i7)::(pq p8b p8o)::us 41 ((.b a)::us 28 [])))=(Aj a (WW jn Q m1 x0 key1 i7 i7)<|Ac (some ⟨p8b,p8o,none⟩) λc d=>A0 c d λe=>Aj (e==0) (WX jn Q m1 x0 key1 free6 i7 p8b p8o<|decide<|free6<0)<|WX jn Q m1 x0 key1 free6 i7 p8b p8o false):=by kernel_rfl
theorem Z6{a:Bool}:U1 jn Q m1 ((.p x0)::(.s key1)::us 4 ((.i free6)::(.i i7)::(pq p8b p8o)::us 26 ((.b a)::us 43 [])))=(Aj a (Q<|.tuple #[.i i7,.b true])<|Ac (some ⟨p8b,p8o,none⟩) λc d=>A0 c d λe=>Aj (e==1) (WV jn Q m1 x0 key1 free6 i7 p8b p8o<|decide<|free6<0)<|WV jn Q m1 x0 key1 free6 i7 p8b p8o false):=by kernel_rfl
theorem ZA:Qe jn Q (m1+1) x0 key1 free6 i7=(Ac x0 λl e=>Bb l (e+1) λd=>CU d.a d.n i7 λb c=>Ac (some ⟨b,(c+i7.toNat*4),none⟩) λf g=>A0 f g λh=>Aj (h==2) (Ac (some ⟨b,(c+i7.toNat*4),none⟩) λi j=>Ci i (j+1) λk=>WU jn Q m1 x0 key1 free6 i7 b (c+i7.toNat*4)<|sEq k key1)<|WU jn Q m1 x0 key1 free6 i7 b (c+i7.toNat*4) false):=by kernel_rfl
theorem Are:Aw jn PR AE f158 [.p x0,.s key1] Q=(A5 λS=>Ac x0 λa b=>wLu S a b λc=>Ac x0 λd e=>Fg S d (e+1) λf=>wcu 117 [.int .u64 c,.s key1] λg=>Al true S<|Bw 116 [.int .u64 g,.i (f.n:Int)] λh=>Em λm=>Qe jn Q m x0 key1 (-1) h):=by kernel_rfl
theorem Arf:Aw jn PR Aca f159 [.p x0,.s key1] Q=(Gk 192 [.p x0,.s key1] λm d=>Aj d (Gk 193 [.p x0,.s key1] λc t=>Ac x0 λq r=>Bb q (r+1) λo=>CU o.a o.n c λe f=>st e (f+c.toNat*3) (.i 1)<|st e ((f+c.toNat*3)+1) (.s Ae)<|st e (((f+c.toNat*3)+1)+1) (.i 0)<|Ac x0 λg h=>A0 g (h+2) λj=>Ac x0 λk l=>st k (l+2) (.i<|wrap .i64<|j-1)<|Q<|.tuple #[.i m,.b d]) (
 Q (.tuple #[.i m,.b d]))):=by kernel_rfl
theorem Arh:Aw jn PR Aca f160 [.p l0,.i h1] Q=(Fv 164 [.p l0,.i h1] λv h=>Aj h (wz 194 [.p l0,.i h1]<|Ac l0 λy z=>Bb y z λx=>CU x.a x.n h1 λf g=>st f (g+h1.toNat*4) (.s Ae)<|st f ((g+h1.toNat*4)+1) (.i 0)<|st f (((g+h1.toNat*4)+1)+1) (.i 0)<|st f ((((g+h1.toNat*4)+1)+1)+1) (.b false)<|Ac l0 λA B=>Bb A (B+1) λd=>Az [.i h1] 3 λj=>Bl 3 1 8 [.i 0] ⟨d.a,d.n,d.c⟩ 1 (λw=>H3 w (some ⟨j,0,none⟩)<|1*1) λe=>
 Ac l0 λk m=>st k (m+1) (.l e.a e.n e.c)<|Ac l0 λo q=>A0 o (q+2) λr=>Ac l0 λt u=>st t (u+2) (.i<|wrap .i64<|r-1)<|Q<|.tuple #[.s v,.b h])<|Q<|.tuple #[.s v,.b h]):=by kernel_rfl
theorem Ari{c:Int}:Aw jn PR A0b f161 [.p x0,.s key1,.i c] Q=(Aj (isNone x0) (Q<|.b false)<|Gk 193 [.p x0,.s key1] λd k=>Aj k (Ac x0 λl m=>Bb l (m+1) λj=>CU j.a j.n d λo q=>st o ((q+d.toNat*3)+2) (.i c)<|Q<|.b false)<|wz 195 [.p x0,.i d,.s key1,.i c]<|A5 λS=>Ac x0 λr t=>Dj S r (t+3) λe=>Ac x0 λf g=>Bb f (g+1) λh=>Al true S<|Aj (decide<|(wrap .i64<|2*e)>(h.n:Int)) (
 wz 196 [.p x0]<|Q<|.b true)<|Q<|.b true):=by kernel_rfl
theorem Arj{b:BA}:Aw jn PR Aca f162 [.p l0,.s b] Q=(Aj (isNone l0) (Q<|.i 0)<|Bw 197 [.p l0,.s b] λc=>Ac l0 λe f=>Bb e f λd=>CU d.a d.n 0 λg h=>A0 g ((h+((0:Int)).toNat*4)+1) λj=>wz 198 [.p l0,.i c,.i j,.i 0]<|Q<|.i c):=by kernel_rfl
theorem Ark:Aw jn PR Aca f163 [.p l0] Q=(Aj (isNone l0) (Q<|.i 0)<|Ac l0 λa b=>A0 a (b+2) λc=>Q<|.i c):=by kernel_rfl
theorem Arl:Aw jn PR Aca f164 [.p l0,.i h1] Q=(Ey 199 [.p l0,.i h1] λd=>Aj (!d) (Q<|.tuple #[.s Ae,.b false])<|Ac l0 λe f=>Bb e f λc=>CU c.a c.n h1 λg h=>Ci g (h+h1.toNat*4) λj=>Q<|.tuple #[.s j,.b true]):=by kernel_rfl
theorem Arm:Aw jn PR Aca f165 [.p l0] Q=(Aj (isNone l0) (Q<|.i 0)<|Ac l0 λc d=>Bb c d λb=>CU b.a b.n 0 λe f=>A0 e ((f+((0:Int)).toNat*4)+2) λg=>Q<|.i g):=by kernel_rfl
theorem NM{d e:Nat}:U6 jn Q ((.p x0)::(.i i1)::(.s key2)::us 4 ((pq d e)::us 32 []))=(A5 λS=>Ac x0 λg h=>Fg S g (h+1) λf=>Ci d e λj=>A0 d (e+1) λk=>Al true S<|CU f.a f.n i1 λb c=>st b (c+i1.toNat*4) (.i 2)<|st b ((c+i1.toNat*4)+1) (.s key2)<|st b (((c+i1.toNat*4)+1)+1) (.s j)<|st b ((((c+i1.toNat*4)+1)+1)+1) (.i k)<|Ac x0 λl m=>A0 l (m+2) λo=>Ac x0 λq r=>st q (r+2) (.i<|wrap .i64<|o+1)<|
 Q (.tuple #[])):=by kernel_rfl
theorem Arn{b:BA}{c:Int}:Aw jn PR EG f166 [.p x0,.i i1,.s key2,.agg #[.s b,.i c]] Q=(Az [.s b,.i c] 120 λg=>Ac x0 λj k=>Bb j (k+1) λh=>CU h.a h.n i1 λl m=>A0 l (m+i1.toNat*4) λo=>Aj (o==0) (Ac x0 λq r=>A0 q (r+3) λd=>Ac x0 λe f=>st e (f+3) (.i<|wrap .i64<|d+1)<|Aik jn Q x0 i1 key2 g 0)<|Aik jn Q x0 i1 key2 g 0):=by kernel_rfl
theorem NN{d:Sl}{e b:Int}:LI jn Q (m1+1) x0 d e b=(Aj (decide<|b<e) (CU d.a d.n b λf g=>A0 f (g+b.toNat*4) λh=>Ci f ((g+b.toNat*4)+1) λj=>Ci f (((g+b.toNat*4)+1)+1) λk=>A0 f ((((g+b.toNat*4)+1)+1)+1) λl=>Az [.i 0,.s Ae,.s Ae,.i 0] 178 λc=>st c 0 (.i h)<|st c 1 (.s j)<|st c 2 (.s k)<|st c 3 (.i l)<|A0 c 0 λm=>Aj (m==2) (Ci c 1 λo=>Gk 158 [.p x0,.s o] λq v=>
 Ci c 1 λr=>Ci c 2 λt=>A0 c 3 λu=>wz 166 [.p x0,.i q,.s r,.agg #[.s t,.i u]]<|LI jn Q m1 x0 d e<|wrap .i64<|b+1)<|LI jn Q m1 x0 d e<|wrap .i64<|b+1)<|Q<|.tuple #[]):=by kernel_rfl
theorem Aro:Aw jn PR DQ f167 [.p x0] Q=(Ac x0 λk o=>Bb k (o+1) λj=>Ac x0 λq r=>A0 q (r+2) λb=>Ij 178 48 [.i 0,.s Ae,.s Ae,.i 0] (if (wrap .i64<|4*(wrap .i64<|b+1))>8 then (wrap .i64<|4*(wrap .i64<|b+1)) else 8) (if (wrap .i64<|4*(wrap .i64<|b+1))>8 then (wrap .i64<|4*(wrap .i64<|b+1)) else 8) λd=>Ac x0 λt u=>st t (u+1) (.l d.a d.n d.c)<|Ac x0 λe f=>st e (f+2) (.i 0)<|Ac x0 λg h=>st g (h+3) (.i 0)<|Em λm=>LI jn Q m x0 j (j.n:Int) 0):=by kernel_rfl
theorem ZE{a:Bool}:U8 jn Q ((.p f0)::us 2 ((.b r3)::us 9 ((.b a)::us 32 [])))=(Aj a (Ac f0 λc d=>Q<|.p<|some ⟨c,(d+5),none⟩)<|Aj r3 (Ac f0 λe f=>Q<|pq e f)<|Q<|.p none):=by kernel_rfl
theorem ZD{c a:Bool}:U7 jn Q ((.p f0)::us 2 ((.b r3)::(.b c)::us 8 ((.b a)::us 32 [])))=(Aj a (Qg jn Q f0 r3 a)<|Aj c (Qg jn Q f0 r3<|!r3)<|Qg jn Q f0 r3 false):=by kernel_rfl
theorem Arp:Aw jn PR LK f168 [.p f0] Q=(A5 λS=>Ac f0 λf g=>Ac f0 λh i=>Ey 200 [pq f g] λa=>Ey 200 [.p<|some ⟨h,(i+5),none⟩] λb=>A5 λS=>Aj a (Aj b (Ac f0 λj k=>Dj S j (((k+5)+1)+2) λl=>Ac f0 λc d=>A0 c ((d+1)+2) λe=>Al true S<|Qf jn Q f0 a b<|decide<|l<e)<|Al true S<|Qf jn Q f0 a b false)<|Al true S<|Qf jn Q f0 a b false):=by kernel_rfl
theorem Arq{x0 a:Int}:Aw jn PR Aca f169 [.int .u64 x0,.int .u64 a] Q=(AV ((0:Int)<=(32:Int))<|AV ((0:Int)<=(32:Int))<|AV ((0:Int)<=(32:Int))<|AV ((0:Int)<=(32:Int))<|AV ((0:Int)<=(32:Int))<|Q<|.tuple #[.int .u64<|wrap .u64<|(wrap .u64<|(wrap .u64<|(CV .u64 x0 32)*(CV .u64 a 32))+(CV .u64 (wrap .u64<|(wrap .u64<|(CV .u64 x0 32)*(bits .and .u64 a 4294967295))+(CV .u64 (wrap .u64<|(bits .and .u64 x0 4294967295)*(bits .and .u64 a 4294967295)) 32)) 32))+(CV .u64 (wrap .u64<|(bits .and .u64 (wrap .u64<|(wrap .u64<|(CV .u64 x0 32)*(bits .and .u64 a 4294967295))+(CV .u64 (wrap .u64<|(bits .and .u64 x0 4294967295)*(bits .and .u64 a 4294967295)) 32)) 4294967295)+(wrap .u64<|(bits .and .u64 x0 4294967295)*(CV .u64 a 32))) 32),.int .u64<|wrap .u64<|x0*a]):=by kernel_rfl
theorem Arr:Aw jn PR Aca f171 [] Q=(Ij 302 40 [.s Ae,.i 0,.i 0,.b false] 1 1 λd=>Az [.l d.a d.n d.c,.l none 0 0,.i 0] 305 λe=>Q<|pq e 0):=by kernel_rfl
theorem Ars:Aw jn PR Aca f172 [.int .u64 seed0] Q=(Ij 297 32 [.i 0,.s Ae,.i 0] 8 8 λb=>Az [.int .u64 seed0,.l b.a b.n b.c,.i 0,.i 0] 300 λd=>Q<|pq d 0):=by kernel_rfl
theorem Art:Aw jn PR Aca f185 [.int .u64 seed0] Q=(Ij 387 48 [.i 0,.s Ae,.i 0,.i 0,.i 0] 8 8 λb=>Az [.int .u64 seed0,.l b.a b.n b.c,.i 0,.i 0] 320 λd=>Q<|pq d 0):=by kernel_rfl
theorem NO:U9 jn Q (us 3 ((.i n3)::us 13 []))=(AV ((2:Int)≠0)<|Ij 5 1 [.int .u8 0] (wrap .i64<|tdiv (wrap .i64<|4*n3) 2) (wrap .i64<|tdiv (wrap .i64<|4*n3) 2) λG2=>Az [.i n3,.l G2.a G2.n G2.c,.i 0] 329 λb=>Q<|pq b 0):=by kernel_rfl
theorem NP:Qh jn Q (m1+1) room0 n3=(Bw 72 [.i room0,.i 1,.i 1024] λa=>Aj (decide<|n3<a) (Qh jn Q m1 room0<|wrap .i64<|n3*2)<|A0k jn Q n3):=by kernel_rfl
theorem Aru:Aw jn PR He f188 [.i room0] Q=(Em λm=>Qh jn Q m room0 8):=by kernel_rfl
end Go.Proofs.YtjipofkjmmpjdaaGreat
namespace Go.Proofs.YtjipofkjmmpjdaaGreat
open Go.Hb
section
variable(jn:Jn)(Q:VW)
def A0l:EW:=sE f189 He jn Q [1,1,1] (rE f189 Q) A8
def UA:EW:=cE f189 He jn Q [1,1,1] (rE f189 Q) A8
def Ail(a:Int):WP:=jn 10 (UA jn Q) (us 3 ((.i a)::us 13 []))
def Qi(m1:Nat)(a b:Int):WP:=Dl PR He jn (bE f189 [1,1,0,0,0]) (AA 0 (A0l jn Q) A8) (rE f189 Q) m1 ((.i a)::us 2 ((.i b)::us 13 []))
def A0m:EW:=sE f190 Dk jn Q [1,1,1] (rE f190 Q) A8
def Alp:EW:=cE f190 Dk jn Q [1,1,1] (rE f190 Q) A8
def A0n(m1:Nat)(a b c d:Nat)(e t7:Int):WP:=Dl PR Dk jn (bE f190 [1,1,0,1,0,0]) (AA 0 (A0m jn Q) A8) (rE f190 Q) m1 (us 2 ((pq a b)::(pq c d)::us 2 ((.i e)::(.i t7)::us 9 [])))
def Aim(m1:Nat):EW:=JG PR AE jn (bE f193 [1,1,1,0,0]) (AA 0 (rE f193 Q) A8) (rE f193 Q) m1
def LL(m1:Nat):EW:=sE f193 AE jn Q [1,1,1,0,0,1] (Aim jn Q m1) (AA 0 (rE f193 Q) A8)
def A0o(m1:Nat):Nat->EW:=AA 1 (LL jn Q m1) (AA 0 (rE f193 Q) A8)
def WZ(m1:Nat):Nat->EW:=AA 2 (LL jn Q m1) (A0o jn Q m1)
def UD(m1:Nat):EW:=cE f193 AE jn Q [1,1,1,0,0,1] (Aim jn Q m1) (AA 0 (rE f193 Q) A8)
def Xc(m1:Nat)(x0:OA)(b:BA)(a c:Int):WP:=jn 8 (UD jn Q m1) ((.p x0)::(.s b)::us 4 ((.i a)::(.i c)::us 71 []))
def UE(m1:Nat):EW:=cE f193 AE jn Q [1,1,1,0,0,0,0,1,0,1,1,1,1,1] (LL jn Q m1) (WZ jn Q m1)
def Xd(m1:Nat)(x0:OA)(c:BA)(a g:Int)(d e:Nat)(f:Bool):WP:=jn 22 (UE jn Q m1) ((.p x0)::(.s c)::us 4 ((.i a)::(.i g)::(pq d e)::us 52 ((.b f)::us 17 [])))
def UC(m1:Nat):EW:=cE f193 AE jn Q [1,1,1,0,0,0,0,1,0,1,1,1] (LL jn Q m1) (WZ jn Q m1)
def Xb(m1:Nat)(x0:OA)(c:BA)(a g:Int)(d e:Nat)(f:Bool):WP:=jn 18 (UC jn Q m1) ((.p x0)::(.s c)::us 4 ((.i a)::(.i g)::(pq d e)::us 41 ((.b f)::us 28 [])))
def UB(m1:Nat):EW:=cE f193 AE jn Q [1,1,1,0,0,0,0,1,0,1] (LL jn Q m1) (WZ jn Q m1)
def Xa(m1:Nat)(x0:OA)(c:BA)(a g:Int)(d e:Nat)(f:Bool):WP:=jn 14 (UB jn Q m1) ((.p x0)::(.s c)::us 4 ((.i a)::(.i g)::(pq d e)::us 26 ((.b f)::us 43 [])))
def Qj(m1:Nat)(x0:OA)(b:BA)(a c:Int):WP:=Dl PR AE jn (bE f193 [1,1,1,0,0]) (AA 0 (rE f193 Q) A8) (rE f193 Q) m1 ((.p x0)::(.s b)::us 4 ((.i a)::(.i c)::us 71 []))
def A0p:KP:=⟨[],[(0,[0,1,2,3,4,5,6,7,8,9,10,12,13,14,16,17]),(1,[0,1,2,3,4,5,6,7,9,10,11,12,13,15,16])]⟩
def Aio:KP:=⟨[(6,[0,1,2,3])],[]⟩
def UF:EW:=cE f195 Aio jn Q [1] (rE f195 Q) A8
def Ain(x0:OA)(b:Int)(a:BA)(c:Int):WP:=jn 6 (UF jn Q) ((.p x0)::(.i b)::(.s a)::(.i c)::us 36 [])
def LN(m1:Nat)(x0:OA)(b:Sl)(d e:Int):WP:=Dl PR DQ jn (bE f196 [1,1,1,0,0]) (AA 0 (rE f196 Q) A8) (rE f196 Q) m1 ((.p x0)::us 27 ((.l b.a b.n b.c)::(.i d)::(.i e)::us 21 []))
def Aiq:KP:=⟨[(16,[0,1,5])],[]⟩
def UG:EW:=cE f197 Aiq jn Q [1,1,1] (rE f197 Q) A8
def Aip(a:OA)(b:BA)(c:Int):WP:=jn 16 (UG jn Q) ((.p a)::(.s b)::us 3 ((.i c)::us 57 []))
def A0q:KP:=⟨[],[(0,[0,1,2,3,4,5,6,7,9,10,11,12,13,15,16]),(1,[0,1,2,3,4,5,6,7,9,10,11,12,13,15,16])]⟩
def Qk:KP:=⟨[(9,[0,3,4]),(14,[3])],[]⟩
def A0s:EW:=sE f244 Qk jn Q [1,1,1] (rE f244 Q) A8
def UH:EW:=cE f244 Qk jn Q [1,1,1] (rE f244 Q) A8
def A0t(b:Sl):WP:=jn 14 (UH jn Q) (us 3 ((.l b.a b.n b.c)::us 20 []))
def Ql(m1:Nat)(d:OA)(b:Sl)(e:Int):WP:=Dl PR Qk jn (bE f244 [1,1,0,1,0,0]) (AA 0 (A0s jn Q) A8) (rE f244 Q) m1 ((.p d)::us 2 ((.l b.a b.n b.c)::(.i e)::us 19 []))
def DR:KP:=⟨[(24,[0,1,16,26]),(40,[0,1,6])],[(14,[0,1,2,3,4,5,6,7,8,9,10,11,12,15,16,17,18,21,22,23,24,25,26]),(17,[0,1,2,3,4,5,6,7,8,11,12,13,14,17,18,19,20,21,22])]⟩
def Air:EW:=sE f246 DR jn Q [1,1,1,1,1] (rE f246 Q) A8
def UJ:EW:=cE f246 DR jn Q [1,1,1,1,1] (rE f246 Q) A8
def FN(e:OA)(d:BA)(b:Sl):WP:=jn 40 (UJ jn Q) ((.p e)::(.s d)::us 4 ((.l b.a b.n b.c)::us 93 []))
def UI:EW:=cE f246 DR jn Q [1,1,1,1,0,1,0,1] (Air jn Q) (AA 0 (Air jn Q) A8)
def Xe(e:OA)(a:BA)(c:Int)(d:Bool):WP:=jn 24 (UI jn Q) ((.p e)::(.s a)::us 14 ((.i c)::us 9 ((.b d)::us 73 [])))
def Hg:KP:=⟨[(8,[0,1]),(11,[0]),(14,[0]),(15,[0]),(18,[])],[(1,[0,1,2,3,4,6,7,8,10,11,12,13,14,15]),(4,[0,1,2,3,6,7,8,9,10]),(5,[0,1,2,3,4,5,6]),(6,[0,1,2,3,6,7,8,9,10,11]),(7,[0,1,2,3,4,5,6])]⟩
def A0u:EW:=sE f252 Hg jn Q [1,1,1,1] (rE f252 Q) A8
def Asb:EW:=sE f252 Hg jn Q [1,1,1,1,1] (rE f252 Q) A8
def UM:EW:=cE f252 Hg jn Q [1,1,1,1,1] (rE f252 Q) A8
def A0x:WP:=jn 18 (UM jn Q) (us 70 [])
def Qn(a:Nat)(b:OA):WP:=Dl PR Hg jn (bE f252 [1,1,1,1,0,0,0]) (AA 2 (Asb jn Q) A8) (rE f252 Q) a ((.p b)::us 69 [])
def UL:EW:=cE f252 Hg jn Q [1,1,1,1] (rE f252 Q) A8
def A0w(a:OA):WP:=jn 14 (UL jn Q) ((.p a)::us 69 [])
def Qm(m2:Nat)(a:OA):WP:=Dl PR Hg jn (bE f252 [1,1,1,0,0,0]) (AA 0 (A0u jn Q) A8) (rE f252 Q) m2 ((.p a)::us 69 [])
def UK:EW:=cE f252 Hg jn Q [1,1] (rE f252 Q) A8
def A0v(b:OA)(a:BA):WP:=jn 8 (UK jn Q) ((.p b)::(.s a)::us 68 [])
def Qo:KP:=⟨[],[(2,[0,1,2,3,4,6,7,9,11])]⟩
def Bx:KP:=⟨[(9,[2,5,8,9,10]),(16,[5])],[]⟩
def A0y:EW:=sE f258 Bx jn Q [1,1,1] (rE f258 Q) A8
def Alq:EW:=cE f258 Bx jn Q [1,1,1] (rE f258 Q) A8
def A0z(m1:Nat)(b d:Nat)(g:Int)(e:Sl)(h f:Int):WP:=Dl PR Bx jn (bE f258 [1,1,0,1,0,0]) (AA 0 (A0y jn Q) A8) (rE f258 Q) m1 (us 2 ((pq b d)::us 2 ((.i g)::us 2 ((.l e.a e.n e.c)::(.i h)::(.i f)::us 13 []))))
def A00:KP:=⟨[],[(1,[0,1,2,3,6,7,8,9,10])]⟩
def Xg:KP:=⟨[(6,[0,4])],[(1,[0,1,2,3,6,7,8,9,10,11,12,13,14,15,18,19,20,21,22,23,24]),(2,[0,1,2,3,4,5,6]),(3,[0,1,2,3,6,7,8,9,10,11]),(7,[0,1,2,3,6,7,8,9,10,11]),(9,[0,1,2,3,6,7,8,9,10,11,12]),(10,[0,1,2,3,4,5,6])]⟩
def Ais:EW:=sE f260 Xg jn Q [1,1] (rE f260 Q) A8
def UN:EW:=cE f260 Xg jn Q [1,0,0,1] (Ais jn Q) (AA 0 (Ais jn Q) A8)
def Xf(a:OA)(c:Bool):WP:=jn 6 (UN jn Q) ((.p a)::us 3 ((.b c)::us 96 []))
def Ait:KP:=⟨[(10,[0,5,6])],[]⟩
def UO:EW:=cE f261 Ait jn Q [1,1,1] (rE f261 Q) A8
def Xh(c:OA)(a b:Int):WP:=jn 10 (UO jn Q) ((.p c)::us 4 ((.i a)::(.i b)::us 17 []))
def A01:EW:=sE f262 Bx jn Q [1,1,1] (rE f262 Q) A8
def Alr:EW:=cE f262 Bx jn Q [1,1,1] (rE f262 Q) A8
def A02(m1:Nat)(b d:Nat)(e f:Sl)(h g:Int):WP:=Dl PR Bx jn (bE f262 [1,1,0,1,0,0]) (AA 0 (A01 jn Q) A8) (rE f262 Q) m1 (us 2 ((pq b d)::us 2 ((.l e.a e.n e.c)::us 2 ((.l f.a f.n f.c)::(.i h)::(.i g)::us 13 []))))
def Qp:KP:=⟨[],[(3,[0,1,2,3,4,5,6])]⟩
def Qq:KP:=⟨[],[(1,[0,1,2,3,4,5,7,8,12,13,14,15,16])]⟩
def Als:EW:=cE f265 EF jn Q [1,1] (rE f265 Q) A8
def Aiu(m1:Nat):EW:=JG PR AE jn (bE f268 [1,1,1,0,0]) (AA 0 (rE f268 Q) A8) (rE f268 Q) m1
def LO(m1:Nat):EW:=sE f268 AE jn Q [1,1,1,0,0,1] (Aiu jn Q m1) (AA 0 (rE f268 Q) A8)
def A03(m1:Nat):Nat->EW:=AA 1 (LO jn Q m1) (AA 0 (rE f268 Q) A8)
def Xi(m1:Nat):Nat->EW:=AA 2 (LO jn Q m1) (A03 jn Q m1)
def Alw(m1:Nat):EW:=cE f268 AE jn Q [1,1,1,0,0,1] (Aiu jn Q m1) (AA 0 (rE f268 Q) A8)
def Alx(m1:Nat):EW:=cE f268 AE jn Q [1,1,1,0,0,0,0,1,0,1,1,1,1,1] (LO jn Q m1) (Xi jn Q m1)
def Alv(m1:Nat):EW:=cE f268 AE jn Q [1,1,1,0,0,0,0,1,0,1,1,1] (LO jn Q m1) (Xi jn Q m1)
def Alu(m1:Nat):EW:=cE f268 AE jn Q [1,1,1,0,0,0,0,1,0,1] (LO jn Q m1) (Xi jn Q m1)
def A04(m1:Nat)(x0:OA)(b:BA)(a c:Int):WP:=Dl PR AE jn (bE f268 [1,1,1,0,0]) (AA 0 (rE f268 Q) A8) (rE f268 Q) m1 ((.p x0)::(.s b)::us 4 ((.i a)::(.i c)::us 71 []))
def Aly:EW:=cE f269 EG jn Q [1,1] (rE f269 Q) A8
def A06(m1:Nat)(x0:OA)(b:Sl)(d e:Int):WP:=Dl PR DQ jn (bE f270 [1,1,1,0,0]) (AA 0 (rE f270 Q) A8) (rE f270 Q) m1 ((.p x0)::us 27 ((.l b.a b.n b.c)::(.i d)::(.i e)::us 21 []))
def IA:KP:=⟨[(14,[0,1,6,22]),(28,[0,1,6]),(38,[0,1,6,8]),(40,[0,1,6,8,88])],[(14,[0,2,3,4,5,6]),(18,[0,1,2,3,4,5,6,8,9,10,12,13])]⟩
def Aiv:EW:=sE f271 IA jn Q [1,1,1,1] (rE f271 Q) A8
def Asi:EW:=sE f271 IA jn Q [1,1,1,1,1,1,1] (rE f271 Q) A8
def UT:EW:=cE f271 IA jn Q [1,1,1,1,1,1,0,1] (Asi jn Q) A8
def Xm(i:OA)(e:BA)(f g:Nat)(d:Sl)(h:Bool):WP:=jn 40 (UT jn Q) ((.p i)::(.s e)::us 4 ((pq f g)::us 1 ((.l d.a d.n d.c)::us 79 ((.b h)::us 13 []))))
def US:EW:=cE f271 IA jn Q [1,1,1,1,1,1] (rE f271 Q) A8
def Xl(g:OA)(d:BA)(e f:Nat)(b:Sl):WP:=jn 38 (US jn Q) ((.p g)::(.s d)::us 4 ((pq e f)::us 1 ((.l b.a b.n b.c)::us 93 [])))
def UQ:EW:=cE f271 IA jn Q [1,1,1,1] (rE f271 Q) A8
def A07(d:OA)(a:BA)(b c:Nat):WP:=jn 28 (UQ jn Q) ((.p d)::(.s a)::us 4 ((pq b c)::us 95 []))
def UP:EW:=cE f271 IA jn Q [1,1,1,0,0,1] (Aiv jn Q) (AA 0 (Aiv jn Q) A8)
def Qs(f:OA)(a:BA)(c d:Nat)(e:Bool):WP:=jn 14 (UP jn Q) ((.p f)::(.s a)::us 4 ((pq c d)::us 15 ((.b e)::us 79 [])))
def Xo:KP:=⟨[(12,[0]),(24,[0,4,6])],[(5,[0,1,2,3,4,5,6,10,11,12,13,14])]⟩
def UV:EW:=cE f272 Xo jn Q [1,1,1,1,1,1,1,1] (rE f272 Q) A8
def Aiw(d:OA)(a:BA)(b c:Nat):WP:=jn 24 (UV jn Q) ((.p d)::us 3 ((.s a)::us 1 ((pq b c)::us 50 [])))
def UU:EW:=cE f272 Xo jn Q [1,1,1] (rE f272 Q) A8
def Xn(a:OA):WP:=jn 12 (UU jn Q) ((.p a)::us 56 [])
def A08:KP:=⟨[],[(3,[0,1,2,3,5,6,7,8,9,10])]⟩
def Aix:KP:=⟨[(8,[0,1])],[(1,[0,1,2,3,4,6,7,8,10,11,12,13,14,15]),(4,[0,1,2,3,4,5,6,8])]⟩
def UW:EW:=cE f277 Aix jn Q [1,1] (rE f277 Q) A8
def A09(b:OA)(a:BA):WP:=jn 8 (UW jn Q) ((.p b)::(.s a)::us 49 [])
def A1a:KP:=⟨[],[(4,[0,1,2,3,4])]⟩
def Aiy:KP:=⟨[],[(1,[0,1,2,3,4])]⟩
def UX:EW:=cE f282 EF jn Q [1,1] (rE f282 Q) A8
def Aiz(a b:Nat):WP:=jn 12 (UX jn Q) (us 4 ((pq a b)::us 22 []))
def A1c:KP:=⟨[],[(5,[0,1,2,3,4,5,6,8])]⟩
def Ai0:KP:=⟨[(3,[0])],[(1,[0,1,2,3,4,5,6,10,11,12,13,14])]⟩
def Qt(m1:Nat)(a:OA):WP:=Dl PR Ai0 jn (bE f284 [0,0]) (AA 0 (rE f284 Q) A8) (rE f284 Q) m1 ((.p a)::us 40 [])
def Ai1:KP:=⟨[(3,[0])],[(0,[0,1,2,3,4,5,6,8])]⟩
def Qu(m1:Nat)(a:OA):WP:=Dl PR Ai1 jn (bE f286 [0,0]) (AA 0 (rE f286 Q) A8) (rE f286 Q) m1 ((.p a)::us 21 [])
def Xq:KP:=⟨[],[(0,[0,1,2,3,4,5,6])]⟩
def A1d:KP:=⟨[],[(6,[0,1,2,3,4])]⟩
def Qv:KP:=⟨[(9,[0,1,5,14,15,16]),(20,[5])],[]⟩
def A1e:EW:=sE f289 Qv jn Q [1,1,1] (rE f289 Q) A8
def UY:EW:=cE f289 Qv jn Q [1,1,1] (rE f289 Q) A8
def A1f(b:Sl):WP:=jn 20 (UY jn Q) (us 5 ((.l b.a b.n b.c)::us 33 []))
def LP(m1:Nat)(h:OA)(d:Int)(e b:Sl)(f g:Int):WP:=Dl PR Qv jn (bE f289 [1,1,0,1,0,0]) (AA 0 (A1e jn Q) A8) (rE f289 Q) m1 ((.p h)::(.i d)::us 3 ((.l e.a e.n e.c)::us 8 ((.l b.a b.n b.c)::(.i f)::(.i g)::us 22 [])))
def Qw:KP:=⟨[(7,[0,1,5,6]),(18,[5])],[(7,[0,2])]⟩
def A1h:EW:=sE f290 Qw jn Q [1,1] (rE f290 Q) A8
def UZ:EW:=cE f290 Qw jn Q [1,1] (rE f290 Q) A8
def A1i(a b:Nat):WP:=jn 18 (UZ jn Q) (us 5 ((pq a b)::us 43 []))
def Qx(m1:Nat)(d:OA)(a:Int)(b c:Nat)(e:Int):WP:=Dl PR Qw jn (bE f290 [1,0,1,0,0]) (AA 0 (A1h jn Q) A8) (rE f290 Q) m1 ((.p d)::(.i a)::us 3 ((pq b c)::(.i e)::us 42 []))
def Ai2(m1:Nat):EW:=JG PR AE jn (bE f292 [1,1,1,0,0]) (AA 0 (rE f292 Q) A8) (rE f292 Q) m1
def LQ(m1:Nat):EW:=sE f292 AE jn Q [1,1,1,0,0,1] (Ai2 jn Q m1) (AA 0 (rE f292 Q) A8)
def A1j(m1:Nat):Nat->EW:=AA 1 (LQ jn Q m1) (AA 0 (rE f292 Q) A8)
def Xs(m1:Nat):Nat->EW:=AA 2 (LQ jn Q m1) (A1j jn Q m1)
def Vc(m1:Nat):EW:=cE f292 AE jn Q [1,1,1,0,0,1] (Ai2 jn Q m1) (AA 0 (rE f292 Q) A8)
def Xv(m1:Nat)(x0:OA)(b:BA)(a c:Int):WP:=jn 8 (Vc jn Q m1) ((.p x0)::(.s b)::us 4 ((.i a)::(.i c)::us 71 []))
def Vd(m1:Nat):EW:=cE f292 AE jn Q [1,1,1,0,0,0,0,1,0,1,1,1,1,1] (LQ jn Q m1) (Xs jn Q m1)
def Xw(m1:Nat)(x0:OA)(c:BA)(a g:Int)(d e:Nat)(f:Bool):WP:=jn 22 (Vd jn Q m1) ((.p x0)::(.s c)::us 4 ((.i a)::(.i g)::(pq d e)::us 52 ((.b f)::us 17 [])))
def Vb(m1:Nat):EW:=cE f292 AE jn Q [1,1,1,0,0,0,0,1,0,1,1,1] (LQ jn Q m1) (Xs jn Q m1)
def Xu(m1:Nat)(x0:OA)(c:BA)(a g:Int)(d e:Nat)(f:Bool):WP:=jn 18 (Vb jn Q m1) ((.p x0)::(.s c)::us 4 ((.i a)::(.i g)::(pq d e)::us 41 ((.b f)::us 28 [])))
def Va(m1:Nat):EW:=cE f292 AE jn Q [1,1,1,0,0,0,0,1,0,1] (LQ jn Q m1) (Xs jn Q m1)
def Xt(m1:Nat)(x0:OA)(c:BA)(a g:Int)(d e:Nat)(f:Bool):WP:=jn 14 (Va jn Q m1) ((.p x0)::(.s c)::us 4 ((.i a)::(.i g)::(pq d e)::us 26 ((.b f)::us 43 [])))
def Qy(m1:Nat)(x0:OA)(b:BA)(a c:Int):WP:=Dl PR AE jn (bE f292 [1,1,1,0,0]) (AA 0 (rE f292 Q) A8) (rE f292 Q) m1 ((.p x0)::(.s b)::us 4 ((.i a)::(.i c)::us 71 []))
def Ve:EW:=cE f298 EG jn Q [1,1] (rE f298 Q) A8
def Ai3(x0:OA)(d:Int)(a:BA)(b c:Nat):WP:=jn 8 (Ve jn Q) ((.p x0)::(.i d)::(.s a)::us 4 ((pq b c)::us 32 []))
def LR(m1:Nat)(x0:OA)(b:Sl)(d e:Int):WP:=Dl PR DQ jn (bE f299 [1,1,1,0,0]) (AA 0 (rE f299 Q) A8) (rE f299 Q) m1 ((.p x0)::us 27 ((.l b.a b.n b.c)::(.i d)::(.i e)::us 21 []))
def IB:KP:=⟨[(10,[0,28]),(16,[0]),(21,[0,5]),(24,[5])],[(3,[0,1,2,3,6,7,8,9,10,11,12,13,14,15,18,19]),(9,[0,1,2,3,6,7,8,9,10]),(10,[0,1,2,3,4,5,6])]⟩
def A1l:EW:=sE f301 IB jn Q [1,1,1] (rE f301 Q) A8
def Atd:EW:=sE f301 IB jn Q [1,1,1,1,1,1] (rE f301 Q) A8
def Vh:EW:=cE f301 IB jn Q [1,1,1,1,1,1] (rE f301 Q) A8
def A1n(a:BA):WP:=jn 24 (Vh jn Q) (us 5 ((.s a)::us 68 []))
def Qz(m3:Nat)(b:OA)(a:BA):WP:=Dl PR IB jn (bE f301 [1,1,1,1,1,0,0,0]) (AA 0 (Atd jn Q) A8) (rE f301 Q) m3 ((.p b)::us 4 ((.s a)::us 68 []))
def Vg:EW:=cE f301 IB jn Q [1,1,1] (rE f301 Q) A8
def A1m(a:OA):WP:=jn 16 (Vg jn Q) ((.p a)::us 73 [])
def Vf:EW:=cE f301 IB jn Q [1,1,0,1] (A1l jn Q) A8
def Xx(c:OA)(a:Bool):WP:=jn 10 (Vf jn Q) ((.p c)::us 27 ((.b a)::us 45 []))
def Ai4:KP:=⟨[(8,[0,1])],[(1,[0,1,2,3,4,6,7,8,10,11,12,13,14,15])]⟩
def Vi:EW:=cE f306 Ai4 jn Q [1,1] (rE f306 Q) A8
def A1o(b:OA)(a:BA):WP:=jn 8 (Vi jn Q) ((.p b)::(.s a)::us 25 [])
def A1q:KP:=⟨[],[(1,[0,2,3,4,5,6])]⟩
def A1r:EW:=sE f314 Bx jn Q [1,1,1] (rE f314 Q) A8
def Alz:EW:=cE f314 Bx jn Q [1,1,1] (rE f314 Q) A8
def A1s(m1:Nat)(b d:Nat)(g:Int)(e:Sl)(h f:Int):WP:=Dl PR Bx jn (bE f314 [1,1,0,1,0,0]) (AA 0 (A1r jn Q) A8) (rE f314 Q) m1 (us 2 ((pq b d)::us 2 ((.i g)::us 2 ((.l e.a e.n e.c)::(.i h)::(.i f)::us 13 []))))
def A1t:EW:=sE f316 Bx jn Q [1,1,1] (rE f316 Q) A8
def Al0:EW:=cE f316 Bx jn Q [1,1,1] (rE f316 Q) A8
def A1u(m1:Nat)(b d:Nat)(e f:Sl)(h g:Int):WP:=Dl PR Bx jn (bE f316 [1,1,0,1,0,0]) (AA 0 (A1t jn Q) A8) (rE f316 Q) m1 (us 2 ((pq b d)::us 2 ((.l e.a e.n e.c)::us 2 ((.l f.a f.n f.c)::(.i h)::(.i g)::us 13 []))))
def Al1:EW:=cE f317 EF jn Q [1,1] (rE f317 Q) A8
def Ai5(m1:Nat):EW:=JG PR AE jn (bE f320 [1,1,1,0,0]) (AA 0 (rE f320 Q) A8) (rE f320 Q) m1
def LS(m1:Nat):EW:=sE f320 AE jn Q [1,1,1,0,0,1] (Ai5 jn Q m1) (AA 0 (rE f320 Q) A8)
def A1w(m1:Nat):Nat->EW:=AA 1 (LS jn Q m1) (AA 0 (rE f320 Q) A8)
def Xz(m1:Nat):Nat->EW:=AA 2 (LS jn Q m1) (A1w jn Q m1)
def Al4(m1:Nat):EW:=cE f320 AE jn Q [1,1,1,0,0,1] (Ai5 jn Q m1) (AA 0 (rE f320 Q) A8)
def Al5(m1:Nat):EW:=cE f320 AE jn Q [1,1,1,0,0,0,0,1,0,1,1,1,1,1] (LS jn Q m1) (Xz jn Q m1)
def Al3(m1:Nat):EW:=cE f320 AE jn Q [1,1,1,0,0,0,0,1,0,1,1,1] (LS jn Q m1) (Xz jn Q m1)
def Al2(m1:Nat):EW:=cE f320 AE jn Q [1,1,1,0,0,0,0,1,0,1] (LS jn Q m1) (Xz jn Q m1)
def A1x(m1:Nat)(x0:OA)(b:BA)(a c:Int):WP:=Dl PR AE jn (bE f320 [1,1,1,0,0]) (AA 0 (rE f320 Q) A8) (rE f320 Q) m1 ((.p x0)::(.s b)::us 4 ((.i a)::(.i c)::us 71 []))
def Al6:EW:=cE f321 EG jn Q [1,1] (rE f321 Q) A8
def A1y(m1:Nat)(x0:OA)(b:Sl)(d e:Int):WP:=Dl PR DQ jn (bE f322 [1,1,1,0,0]) (AA 0 (rE f322 Q) A8) (rE f322 Q) m1 ((.p x0)::us 27 ((.l b.a b.n b.c)::(.i d)::(.i e)::us 21 []))
def FO:KP:=⟨[(24,[0,1,28]),(27,[0]),(30,[]),(32,[0,1]),(37,[0,7]),(40,[7])],[(12,[0,1,2,3,6,7,8,9,10]),(13,[0,1,2,3,4,5,6]),(17,[0,1,2,3,6,7,8,9,10])]⟩
def IC:EW:=sE f323 FO jn Q [1,1,1,1] (rE f323 Q) A8
def Atm:EW:=sE f323 FO jn Q [1,1,1,0,1,1,0,1,1,1,0,1,1] (IC jn Q) (AA 0 (IC jn Q) A8)
def Atn:Nat->EW:=AA 1 (Atm jn Q) (AA 0 (IC jn Q) A8)
def Ato:EW:=sE f323 FO jn Q [1,1,1,1,1,1,1] (rE f323 Q) A8
def Vk:EW:=cE f323 FO jn Q [1,1,1,0,1,1,0,1,1,1,0,1,1] (IC jn Q) (AA 0 (IC jn Q) A8)
def A1z:WP:=jn 30 (Vk jn Q) (us 80 [])
def Q0(m2:Nat)(a:OA):WP:=Dl PR FO jn (bE f323 [1,1,1,0,1,1,0,1,1,1,0,1,0,0,0]) (Atn jn Q) (rE f323 Q) m2 ((.p a)::us 79 [])
def Vm:EW:=cE f323 FO jn Q [1,1,1,1,1,1,1] (rE f323 Q) A8
def A11(b:Sl):WP:=jn 40 (Vm jn Q) (us 7 ((.l b.a b.n b.c)::us 72 []))
def Q1(d:Nat)(e:OA)(b:Sl):WP:=Dl PR FO jn (bE f323 [1,1,1,1,1,1,0,0,0]) (AA 3 (Ato jn Q) A8) (rE f323 Q) d ((.p e)::us 6 ((.l b.a b.n b.c)::us 72 []))
def Vl:EW:=cE f323 FO jn Q [1,1,1,1] (rE f323 Q) A8
def A10(b:OA)(a:BA):WP:=jn 32 (Vl jn Q) ((.p b)::(.s a)::us 78 [])
def Vj:EW:=cE f323 FO jn Q [1,1,1,0,1,1,0,1,1,1] (IC jn Q) (AA 0 (IC jn Q) A8)
def X0(d:OA)(a:BA)(c:Bool):WP:=jn 24 (Vj jn Q) ((.p d)::(.s a)::us 26 ((.b c)::us 51 []))
def Ai6:KP:=⟨[(8,[0,1])],[(1,[0,1,2,3,4,6,7,8,10,11,12,13,14,15]),(3,[0,1,2,3,6,7,8,9,10])]⟩
def Vn:EW:=cE f329 Ai6 jn Q [1,1] (rE f329 Q) A8
def A12(b:OA)(a:BA):WP:=jn 8 (Vn jn Q) ((.p b)::(.s a)::us 42 [])
def A14:EW:=sE f336 Bx jn Q [1,1,1] (rE f336 Q) A8
def Al7:EW:=cE f336 Bx jn Q [1,1,1] (rE f336 Q) A8
def A15(m1:Nat)(b d:Nat)(g:Int)(e:Sl)(h f:Int):WP:=Dl PR Bx jn (bE f336 [1,1,0,1,0,0]) (AA 0 (A14 jn Q) A8) (rE f336 Q) m1 (us 2 ((pq b d)::us 2 ((.i g)::us 2 ((.l e.a e.n e.c)::(.i h)::(.i f)::us 13 []))))
def Q3:KP:=⟨[(16,[0,3,4,35]),(20,[0,3,4])],[(3,[0,1,2,3,6,7,8,9,10,11]),(6,[0,1,2,3,4,6,7,8,9,10,11,14,15,16])]⟩
def Ai7:EW:=sE f338 Q3 jn Q [1,1,1,1] (rE f338 Q) A8
def Vp:EW:=cE f338 Q3 jn Q [1,1,1,1] (rE f338 Q) A8
def A16(c:OA)(a:BA)(b:Int):WP:=jn 20 (Vp jn Q) ((.p c)::us 2 ((.s a)::(.i b)::us 75 []))
def Vo:EW:=cE f338 Q3 jn Q [1,1,1,0,0,1,1,1] (Ai7 jn Q) (AA 0 (Ai7 jn Q) A8)
def Q2(e:OA)(a:BA)(c:Int)(d:Bool):WP:=jn 16 (Vo jn Q) ((.p e)::us 2 ((.s a)::(.i c)::us 30 ((.b d)::us 44 [])))
def Q4:KP:=⟨[(7,[0,6,7,8]),(16,[])],[]⟩
def A17:EW:=sE f339 Q4 jn Q [1,1] (rE f339 Q) A8
def Vq:EW:=cE f339 Q4 jn Q [1,1] (rE f339 Q) A8
def A18:WP:=jn 16 (Vq jn Q) (us 22 [])
def XA(m1:Nat)(d:OA)(b:Sl)(t7 e:Int):WP:=Dl PR Q4 jn (bE f339 [1,0,1,0,0]) (AA 0 (A17 jn Q) A8) (rE f339 Q) m1 ((.p d)::us 5 ((.l b.a b.n b.c)::(.i t7)::(.i e)::us 13 []))
def A2a:EW:=sE f341 Bx jn Q [1,1,1] (rE f341 Q) A8
def Al8:EW:=cE f341 Bx jn Q [1,1,1] (rE f341 Q) A8
def A2b(m1:Nat)(b d:Nat)(e f:Sl)(h g:Int):WP:=Dl PR Bx jn (bE f341 [1,1,0,1,0,0]) (AA 0 (A2a jn Q) A8) (rE f341 Q) m1 (us 2 ((pq b d)::us 2 ((.l e.a e.n e.c)::us 2 ((.l f.a f.n f.c)::(.i h)::(.i g)::us 13 []))))
def Q5:KP:=⟨[(13,[0,1,5,14]),(22,[5])],[]⟩
def A2c:EW:=sE f342 Q5 jn Q [1,1,1,1] (rE f342 Q) A8
def Vr:EW:=cE f342 Q5 jn Q [1,1,1,1] (rE f342 Q) A8
def A2d(a:Bool):WP:=jn 22 (Vr jn Q) (us 5 ((.b a)::us 30 []))
def Q6(m1:Nat)(e:OA)(a:BA)(c:Bool)(d:Int):WP:=Dl PR Q5 jn (bE f342 [1,1,1,0,1,0,0]) (AA 0 (A2c jn Q) A8) (rE f342 Q) m1 ((.p e)::(.s a)::us 3 ((.b c)::us 8 ((.i d)::us 21 [])))
def Q7:KP:=⟨[(11,[0,4,17,18]),(22,[0])],[(11,[0,1,2,3,4,5,6,8,9])]⟩
def A2e:EW:=sE f344 Q7 jn Q [1,1,1,1] (rE f344 Q) A8
def Vs:EW:=cE f344 Q7 jn Q [1,1,1,1] (rE f344 Q) A8
def A2f(s0:OA):WP:=jn 22 (Vs jn Q) ((.p s0)::us 51 [])
def LU(m1:Nat)(s0:OA)(e a b c d f:Int):WP:=Dl PR Q7 jn (bE f344 [1,1,1,0,1,0,0]) (AA 0 (A2e jn Q) A8) (rE f344 Q) m1 ((.p s0)::us 3 ((.i e)::us 12 ((.agg #[.i a,.i b,.i c,.i d])::(.i f)::us 33 [])))
def Al9:EW:=cE f346 EF jn Q [1,1] (rE f346 Q) A8
end
variable{jn:Jn}{Q:VW}{e0 x0 l0 s0 n1 d0:OA}{key1 key2 v1 key5 key3:BA}{m1 p8b p8o n6b n6o m2 t5b t5o:Nat}{free6 i7 is1 h1 i1 n1_0 n1_1 n1_2 n3 room0 v3 t29 t30 t16 row4:Int}{t35 t61 t50 was5:Bool}{t28 all3 gone8 l5 gone7:Sl}
theorem ZF:UA jn Q (us 3 ((.i n3)::us 13 []))=(AV ((64:Int)≠0)<|Ij 138 8 [.int .u64 0] (if (wrap .i64<|tdiv (wrap .i64<|8*n3) 64)>1 then (wrap .i64<|tdiv (wrap .i64<|8*n3) 64) else 1) (if (wrap .i64<|tdiv (wrap .i64<|8*n3) 64)>1 then (wrap .i64<|tdiv (wrap .i64<|8*n3) 64) else 1) λG2=>Az [.l G2.a G2.n G2.c] 332 λb=>Q<|pq b 0):=by kernel_rfl
theorem NQ:Qi jn Q (m1+1) room0 n3=(Bw 72 [.i room0,.i 1,.i 1024] λa=>Aj (decide<|n3<a) (Qi jn Q m1 room0<|wrap .i64<|n3*2)<|Ail jn Q n3):=by kernel_rfl
theorem Arv:Aw jn PR He f189 [.i room0] Q=(Em λm=>Qi jn Q m room0 1):=by kernel_rfl
theorem Arw:Aw jn PR Aca f192 [.p x0,.s key1] Q=(Aj (!isNone x0) (Gk 193 [.p x0,.s key1] λc e=>Aj e (Ac x0 λf g=>Bb f (g+1) λd=>CU d.a d.n c λh j=>A0 h ((j+c.toNat*3)+2) λk=>Q<|.tuple #[.i k,.b true])<|Q<|.tuple #[.i 0,.b false])<|Q<|.tuple #[.i 0,.b false]):=by kernel_rfl
theorem ZI:UD jn Q m1 ((.p x0)::(.s key1)::us 4 ((.i free6)::(.i i7)::us 71 []))=(Ac x0 λb c=>Bb b (c+1) λa=>AV ((a.n:Int)≠0)<|Qj jn Q m1 x0 key1 free6<|tmod (wrap .i64<|i7+1) (a.n:Int)):=by kernel_rfl
theorem ZJ:UE jn Q m1 ((.p x0)::(.s key1)::us 4 ((.i free6)::(.i i7)::(pq p8b p8o)::us 52 ((.b t61)::us 17 [])))=(Aj t61 (Q<|.tuple #[.i i7,.b false])<|Ac (some ⟨p8b,p8o,none⟩) λa c=>A0 a c λd=>Aj (d==0) (Q<|.tuple #[.i free6,.b false])<|Xc jn Q m1 x0 key1 free6 i7):=by kernel_rfl
theorem ZH:UC jn Q m1 ((.p x0)::(.s key1)::us 4 ((.i free6)::(.i i7)::(pq p8b p8o)::us 41 ((.b t50)::us 28 [])))=(Aj t50 (Xc jn Q m1 x0 key1 i7 i7)<|Ac (some ⟨p8b,p8o,none⟩) λa c=>A0 a c λd=>Aj (d==0) (Xd jn Q m1 x0 key1 free6 i7 p8b p8o<|decide<|free6<0)<|Xd jn Q m1 x0 key1 free6 i7 p8b p8o false):=by kernel_rfl
theorem ZG:UB jn Q m1 ((.p x0)::(.s key1)::us 4 ((.i free6)::(.i i7)::(pq p8b p8o)::us 26 ((.b t35)::us 43 [])))=(Aj t35 (Q<|.tuple #[.i i7,.b true])<|Ac (some ⟨p8b,p8o,none⟩) λa c=>A0 a c λd=>Aj (d==1) (Xb jn Q m1 x0 key1 free6 i7 p8b p8o<|decide<|free6<0)<|Xb jn Q m1 x0 key1 free6 i7 p8b p8o false):=by kernel_rfl
theorem ZK:Qj jn Q (m1+1) x0 key1 free6 i7=(Ac x0 λl e=>Bb l (e+1) λd=>CU d.a d.n i7 λb c=>Ac (some ⟨b,(c+i7.toNat*3),none⟩) λf g=>A0 f g λh=>Aj (h==2) (Ac (some ⟨b,(c+i7.toNat*3),none⟩) λi j=>Ci i (j+1) λk=>Xa jn Q m1 x0 key1 free6 i7 b (c+i7.toNat*3)<|sEq k key1)<|Xa jn Q m1 x0 key1 free6 i7 b (c+i7.toNat*3) false):=by kernel_rfl
theorem Arx:Aw jn PR AE f193 [.p x0,.s key1] Q=(A5 λS=>Ac x0 λa b=>wLu S a b λc=>Ac x0 λd e=>Fg S d (e+1) λf=>wcu 117 [.int .u64 c,.s key1] λg=>Al true S<|Bw 116 [.int .u64 g,.i (f.n:Int)] λh=>Em λm=>Qj jn Q m x0 key1 (-1) h):=by kernel_rfl
theorem Ary:Aw jn PR A0p f194 [.p l0,.i h1] Q=(A5 λS=>Ac l0 λu v=>Fg S u v λs=>CU s.a s.n h1 λw x=>Dj S w ((x+h1.toNat*4)+1) λe=>Ac l0 λy z=>Bb y z λt=>Al true S<|CU t.a t.n h1 λf g=>A0 f ((g+h1.toNat*4)+2) λb=>Al true S<|A5 λS=>Ac l0 λh j=>Fg S h j λc=>Ac l0 λk l=>Bb k l λd=>Al true S<|CU c.a c.n e λm o=>st m ((o+e.toNat*4)+2) (.i b)<|CU d.a d.n b λq r=>st q ((r+b.toNat*4)+1) (.i e)<|
 Q (.tuple #[])):=by kernel_rfl
theorem NR:UF jn Q ((.p x0)::(.i i1)::(.s key2)::(.i v3)::us 36 [])=(Ac x0 λe f=>Bb e (f+1) λd=>CU d.a d.n i1 λb c=>st b (c+i1.toNat*3) (.i 2)<|st b ((c+i1.toNat*3)+1) (.s key2)<|st b (((c+i1.toNat*3)+1)+1) (.i v3)<|Ac x0 λg h=>A0 g (h+2) λj=>Ac x0 λk l=>st k (l+2) (.i<|wrap .i64<|j+1)<|Q<|.tuple #[]):=by kernel_rfl
theorem Arz:Aw jn PR Aio f195 [.p x0,.i i1,.s key2,.i v3] Q=(Ac x0 λe f=>Bb e (f+1) λd=>CU d.a d.n i1 λg h=>A0 g (h+i1.toNat*3) λj=>Aj (j==0) (Ac x0 λk l=>A0 k (l+3) λm=>Ac x0 λb c=>st b (c+3) (.i<|wrap .i64<|m+1)<|Ain jn Q x0 i1 key2 v3)<|Ain jn Q x0 i1 key2 v3):=by kernel_rfl
theorem NS:LN jn Q (m1+1) x0 t28 t29 t30=(Aj (decide<|t30<t29) (CU t28.a t28.n t30 λc d=>A0 c (d+t30.toNat*3) λe=>Ci c ((d+t30.toNat*3)+1) λf=>A0 c (((d+t30.toNat*3)+1)+1) λg=>Az [.i 0,.s Ae,.i 0] 297 λb=>st b 0 (.i e)<|st b 1 (.s f)<|st b 2 (.i g)<|A0 b 0 λh=>Aj (h==2) (Ci b 1 λj=>Gk 193 [.p x0,.s j] λk o=>Ci b 1 λl=>A0 b 2 λm=>
 wz 195 [.p x0,.i k,.s l,.i m]<|LN jn Q m1 x0 t28 t29<|wrap .i64<|t30+1)<|LN jn Q m1 x0 t28 t29<|wrap .i64<|t30+1)<|Q<|.tuple #[]):=by kernel_rfl
theorem Ar0:Aw jn PR DQ f196 [.p x0] Q=(Ac x0 λk o=>Bb k (o+1) λj=>Ac x0 λq r=>A0 q (r+2) λb=>Ij 297 32 [.i 0,.s Ae,.i 0] (if (wrap .i64<|4*(wrap .i64<|b+1))>8 then (wrap .i64<|4*(wrap .i64<|b+1)) else 8) (if (wrap .i64<|4*(wrap .i64<|b+1))>8 then (wrap .i64<|4*(wrap .i64<|b+1)) else 8) λd=>Ac x0 λt u=>st t (u+1) (.l d.a d.n d.c)<|Ac x0 λe f=>st e (f+2) (.i 0)<|Ac x0 λg h=>st g (h+3) (.i 0)<|Em λm=>LN jn Q m x0 j (j.n:Int) 0):=by kernel_rfl
theorem NT{e:Int}:UG jn Q ((.p l0)::(.s v1)::us 3 ((.i e)::us 57 []))=(Ac l0 λg h=>Bb g h λf=>CU f.a f.n e λc d=>st c (d+e.toNat*4) (.s v1)<|st c ((d+e.toNat*4)+1) (.i 0)<|st c (((d+e.toNat*4)+1)+1) (.i 0)<|st c ((((d+e.toNat*4)+1)+1)+1) (.b true)<|Ac l0 λj k=>A0 j (k+2) λl=>Ac l0 λm o=>st m (o+2) (.i<|wrap .i64<|l+1)<|Q<|.i e):=by kernel_rfl
theorem Ar1:Aw jn PR Aiq f197 [.p l0,.s v1] Q=(Ac l0 λA B=>Bb A B λC=>Ac l0 λD E=>Bb D (E+1) λg=>Aj (decide<|(g.n:Int)>0) (Ac l0 λF G=>Bb F (G+1) λz=>CU z.a z.n (wrap .i64<|(g.n:Int)-1) λh j=>A0 h (j+((wrap .i64<|(g.n:Int)-(1:Int))).toNat*1) λk=>Ac l0 λm o=>Bb m (o+1) λd=>AV ((0:Int)<=(wrap .i64<|(g.n:Int)-(1:Int))/\(wrap .i64<|(g.n:Int)-(1:Int))<=(d.c:Int))<|Ac l0 λq r=>st q (r+1) (.l (Jk d.a 0 d.c 1) (((wrap .i64<|(g.n:Int)-(1:Int))).toNat-0)<|d.c-0)<|
 Aip jn Q l0 v1 k)<|Ac l0 λt u=>Bb t u λe=>Az [.s Ae,.i 0,.i 0,.b false] 302 λv=>Bl 302 4 40 [.s Ae,.i 0,.i 0,.b false] ⟨e.a,e.n,e.c⟩ 1 (λw=>H3 w (some ⟨v,0,none⟩)<|1*4) λf=>Ac l0 λx y=>st x y (.l f.a f.n f.c)<|Aip jn Q l0 v1 (C.n:Int)):=by kernel_rfl
theorem Ar2{b c:Int}:Aw jn PR A0q f198 [.p l0,.i h1,.i b,.i c] Q=(A5 λS=>Ac l0 λt u=>Fg S t u λr=>Ac l0 λv w=>Bb v w λs=>Al true S<|CU r.a r.n h1 λx y=>st x ((y+h1.toNat*4)+1) (.i b)<|CU s.a s.n h1 λz f=>st z ((f+h1.toNat*4)+2) (.i c)<|A5 λS=>Ac l0 λg h=>Fg S g h λd=>Ac l0 λj k=>Bb j k λe=>Al true S<|CU d.a d.n b λl m=>st l ((m+b.toNat*4)+2) (.i h1)<|CU e.a e.n c λo q=>st o ((q+c.toNat*4)+1) (.i h1)<|
 Q (.tuple #[])):=by kernel_rfl
theorem Ar3:Aw jn PR Aca f199 [.p l0,.i h1] Q=(Aj (!isNone l0) (Aj (decide<|h1>0) (Ac l0 λd e=>Bb d e λf=>Aj (decide<|h1<(f.n:Int)) (Ac l0 λg h=>Bb g h λc=>CU c.a c.n h1 λj k=>Ix j ((k+h1.toNat*4)+3) λl=>Q<|.b l)<|Q<|.b false)<|Q<|.b false)<|Q<|.b false):=by kernel_rfl
theorem ZM:UH jn Q (us 3 ((.l all3.a all3.n all3.c)::us 20 []))=(Q<|.l all3.a all3.n all3.c):=by kernel_rfl
theorem NU{b:Int}:Ql jn Q (m1+1) l0 all3 b=(Aj (b != 0) (Ac l0 λf g=>Bb f g λe=>CU e.a e.n b λh j=>Ci h (j+b.toNat*4) λk=>Az [.s k] 9 λl=>Bl 9 1 16 [.s Ae] ⟨all3.a,all3.n,all3.c⟩ 1 (λw=>H3 w (some ⟨l,0,none⟩)<|1*1) λm=>Bw 245 [.p l0,.i b] λd=>Ql jn Q m1 l0 m d)<|A0t jn Q all3):=by kernel_rfl
theorem Ar4:Aw jn PR Qk f244 [.p l0] Q=(Bw 165 [.p l0] λa=>Em λm=>Ql jn Q m l0 ⟨none,0,0⟩ a):=by kernel_rfl
theorem Ar5:Aw jn PR Aca f245 [.p l0,.i h1] Q=(Ey 199 [.p l0,.i h1] λc=>Aj (!c) (Q<|.i 0)<|Ac l0 λd e=>Bb d e λb=>CU b.a b.n h1 λf g=>A0 f ((g+h1.toNat*4)+2) λh=>Q<|.i h):=by kernel_rfl
theorem ZN{d:Sl}:UJ jn Q ((.p e0)::(.s key1)::us 4 ((.l d.a d.n d.c)::us 93 []))=(Ac e0 λf g=>Bb f g λe=>Bo f (g+1) λh=>wz 257 [.agg #[.l e.a e.n e.c,.p h],.i 1,.s key1]<|Q<|.tuple #[.b false,.l d.a d.n d.c]):=by kernel_rfl
theorem Hf{t26:Bool}:UI jn Q ((.p e0)::(.s key1)::us 14 ((.i t16)::us 9 ((.b t26)::us 73 [])))=(Aj t26 (Ac e0 λB6 O7=>Bb B6 O7 λX8=>Bo B6 (O7+1) λX9=>wz 257 [.agg #[.l X8.a X8.n X8.c,.p X9],.i 1,.s key1]<|Q (.tuple #[.b true,.l none 0 0])) (Aj (t16==2) (A5 λS=>Ac e0 λB10 O11=>Dj S B10 (O11+2) λX12=>Ac e0 λB13 O14=>Dj S B13 (O14+3) λX15=>Ac e0 λB16 O17=>Fg S B16 O17 λX18=>EK S B16 (O17+1) λX19=>Ac e0 λB20 O21=>Fg S B20 O21 λX22=>
 EK S B20 (O21+1) λX23=>Gn [
 (Az [.i 3] 3 λB24=>Al true S<|Gn [
 (Bw 258 [.agg #[.l X18.a X18.n X18.c,.p X19],.l (some ⟨B24,0,none⟩) 1 1] λX25=>Al true S<|Az [.i 2] 3 λB26=>Al true S<|Bw 258 [.agg #[.l X22.a X22.n X22.c,.p X23],.l (some ⟨B26,0,none⟩) 1 1] λX27=>Al true S<|AV (X27≠0)<|Ac e0 λB28 O29=>st B28 (O29+3) (.i (if (wrap .i64 (X15+(if (wrap .i64 (tdiv X25 X27))>1 then (wrap .i64 (tdiv X25 X27)) else 1)))<X12 then (wrap .i64 (X15+(if (wrap .i64 (tdiv X25 X27))>1 then (wrap .i64 (tdiv X25 X27)) else 1))) else X12))<|GW 259 [.p e0,.b false] λX30=>
 FN jn Q e0 key1 X30),
 (Az [.i 2] 3 λB35=>Al true S<|Bw 258 [.agg #[.l X18.a X18.n X18.c,.p X19],.l (some ⟨B24,0,none⟩) 1 1] λX36=>Al true S<|Bw 258 [.agg #[.l X22.a X22.n X22.c,.p X23],.l (some ⟨B35,0,none⟩) 1 1] λX37=>Al true S<|AV (X37≠0)<|Ac e0 λB38 O39=>st B38 (O39+3) (.i (if (wrap .i64 (X15+(if (wrap .i64 (tdiv X36 X37))>1 then (wrap .i64 (tdiv X36 X37)) else 1)))<X12 then (wrap .i64 (X15+(if (wrap .i64 (tdiv X36 X37))>1 then (wrap .i64 (tdiv X36 X37)) else 1))) else X12))<|GW 259 [.p e0,.b false] λX40=>
 FN jn Q e0 key1 X40)]),
 (Az [.i 2] 3 λB41=>Al true S<|Az [.i 3] 3 λB42=>Al true S<|Bw 258 [.agg #[.l X18.a X18.n X18.c,.p X19],.l (some ⟨B42,0,none⟩) 1 1] λX43=>Al true S<|Bw 258 [.agg #[.l X22.a X22.n X22.c,.p X23],.l (some ⟨B41,0,none⟩) 1 1] λX44=>Al true S<|AV (X44≠0)<|Ac e0 λB45 O46=>st B45 (O46+3) (.i (if (wrap .i64 (X15+(if (wrap .i64 (tdiv X43 X44))>1 then (wrap .i64 (tdiv X43 X44)) else 1)))<X12 then (wrap .i64 (X15+(if (wrap .i64 (tdiv X43 X44))>1 then (wrap .i64 (tdiv X43 X44)) else 1))) else X12))<|
 GW 259 [.p e0,.b false] λX47=>FN jn Q e0 key1 X47)]) (Aj (t16==3) (A5 λS=>Ac e0 λB48 O49=>Dj S B48 (O49+3) λX50=>Ac e0 λB51 O52=>Fg S B51 O52 λX53=>EK S B51 (O52+1) λX54=>Ac e0 λB55 O56=>Fg S B55 O56 λX57=>EK S B55 (O56+1) λX58=>Gn [
 (Az [.i 2] 3 λB59=>Al true S<|Gn [
 (Bw 258 [.agg #[.l X53.a X53.n X53.c,.p X54],.l (some ⟨B59,0,none⟩) 1 1] λX60=>Al true S<|Az [.i 3] 3 λB61=>Al true S<|Bw 258 [.agg #[.l X57.a X57.n X57.c,.p X58],.l (some ⟨B61,0,none⟩) 1 1] λX62=>Al true S<|AV (X62≠0)<|Ac e0 λB63 O64=>st B63 (O64+3) (.i (if (wrap .i64 (X50-(if (wrap .i64 (tdiv X60 X62))>1 then (wrap .i64 (tdiv X60 X62)) else 1)))>0 then (wrap .i64 (X50-(if (wrap .i64 (tdiv X60 X62))>1 then (wrap .i64 (tdiv X60 X62)) else 1))) else 0))<|GW 259 [.p e0,.b true] λX65=>
 FN jn Q e0 key1 X65),
 (Az [.i 3] 3 λB66=>Al true S<|Bw 258 [.agg #[.l X53.a X53.n X53.c,.p X54],.l (some ⟨B59,0,none⟩) 1 1] λX67=>Al true S<|Bw 258 [.agg #[.l X57.a X57.n X57.c,.p X58],.l (some ⟨B66,0,none⟩) 1 1] λX68=>Al true S<|AV (X68≠0)<|Ac e0 λB69 O70=>st B69 (O70+3) (.i (if (wrap .i64 (X50-(if (wrap .i64 (tdiv X67 X68))>1 then (wrap .i64 (tdiv X67 X68)) else 1)))>0 then (wrap .i64 (X50-(if (wrap .i64 (tdiv X67 X68))>1 then (wrap .i64 (tdiv X67 X68)) else 1))) else 0))<|GW 259 [.p e0,.b true] λX71=>
 FN jn Q e0 key1 X71)]),
 (Az [.i 3] 3 λB72=>Al true S<|Az [.i 2] 3 λB73=>Al true S<|Bw 258 [.agg #[.l X53.a X53.n X53.c,.p X54],.l (some ⟨B73,0,none⟩) 1 1] λX74=>Al true S<|Bw 258 [.agg #[.l X57.a X57.n X57.c,.p X58],.l (some ⟨B72,0,none⟩) 1 1] λX75=>Al true S<|AV (X75≠0)<|Ac e0 λB76 O77=>st B76 (O77+3) (.i (if (wrap .i64 (X50-(if (wrap .i64 (tdiv X74 X75))>1 then (wrap .i64 (tdiv X74 X75)) else 1)))>0 then (wrap .i64 (X50-(if (wrap .i64 (tdiv X74 X75))>1 then (wrap .i64 (tdiv X74 X75)) else 1))) else 0))<|
 GW 259 [.p e0,.b true] λX78=>FN jn Q e0 key1 X78)]) (GW 260 [.p e0] λX79=>Ac e0 λB80 O81=>Bb B80 O81 λX82=>Bo B80 (O81+1) λX83=>wz 257 [.agg #[.l X82.a X82.n X82.c,.p X83],.i 0,.s key1]<|Q (.tuple #[.b false,.l X79.a X79.n X79.c]))))):=by kernel_rfl
theorem Ar6:Aw jn PR DR f246 [.p e0,.s key1] Q=(Aj (isNone e0) (Q<|.tuple #[.b false,.l none 0 0])<|Ac e0 λf g=>Bb f g λe=>Bo f (g+1) λh=>Bw 256 [.agg #[.l e.a e.n e.c,.p h],.s key1] λd=>Aj (d==0) (Xe jn Q e0 key1 d<|d==0)<|Xe jn Q e0 key1 d<|d==1):=by kernel_rfl
theorem Ar7:Aw jn PR Aca f247 [.p e0] Q=(Bw 251 [.p e0] λF=>Aj (F==0) (Q<|.tuple #[.s Ae,.b false])<|Ac e0 λC D=>Bb C D λk=>Bo C (D+1) λG=>Az [.i 0] 3 λH=>Bw 258 [.agg #[.l k.a k.n k.c,.p G],.l (some ⟨H,0,none⟩) 1 1] λE=>Aj (decide<|E>0) (Ac e0 λI J=>A0 I (J+3) λm=>Aj (decide<|E>m) (GW 261 [.p e0,.b true] λe=>CU e.a e.n 0 λo q=>Ci o (q+((0:Int)).toNat*1) λr=>
 Q (.tuple #[.s r,.b true]))<|Ac e0 λf g=>Bb f g λd=>Bo f (g+1) λt=>Az [.i 1] 3 λu=>Bw 258 [.agg #[.l d.a d.n d.c,.p t],.l (some ⟨u,0,none⟩) 1 1] λv=>GW 261 [.p e0,.b<|v==0] λh=>CU h.a h.n 0 λw x=>Ci w (x+((0:Int)).toNat*1) λy=>Q<|.tuple #[.s y,.b true])<|GW 261 [.p e0,.b false] λj=>CU j.a j.n 0 λz A=>Ci z (A+((0:Int)).toNat*1) λB=>Q<|.tuple #[.s B,.b true]):=by kernel_rfl
theorem Ar8:Aw jn PR Aca f249 [.p e0,.s key1] Q=(Aj (isNone e0) (Q<|.b false)<|Ac e0 λe f=>Bb e f λd=>Bo e (f+1) λh=>Bw 256 [.agg #[.l d.a d.n d.c,.p h],.s key1] λg=>Aj (g==0) (Q<|.b true)<|Q<|.b<|g==1):=by kernel_rfl
theorem Ar9:Aw jn PR Aca f250 [.p e0] Q=(Aj (isNone e0) (Q<|.l none 0 0)<|Ac e0 λe f=>Bb e f λb=>Bo e (f+1) λg=>Az [.i 0,.i 1] 3 λh=>GW 262 [.agg #[.l b.a b.n b.c,.p g],.l (some ⟨h,0,none⟩) 2 2] λd=>Q<|.l d.a d.n d.c):=by kernel_rfl
theorem Asa:Aw jn PR Aca f251 [.p e0] Q=(Aj (isNone e0) (Q<|.i 0)<|Ac e0 λd e=>Bb d e λb=>Bo d (e+1) λf=>Az [.i 0,.i 1] 3 λg=>Bw 258 [.agg #[.l b.a b.n b.c,.p f],.l (some ⟨g,0,none⟩) 2 2] λh=>Q<|.i h):=by kernel_rfl
theorem ZQ:UM jn Q (us 70 [])=(Q<|.b true):=by kernel_rfl
theorem NW{z:Nat}:Qn jn Q (z+1) e0=(A5 λS=>Ac e0 λf g=>Fg S f g λb=>EK S f (g+1) λo=>Ac e0 λq r=>Dj S q (r+2) λt=>Az [.i 0,.i 1,.i 2,.i 3] 3 λu=>Al true S<|Bw 258 [.agg #[.l b.a b.n b.c,.p o],.l (some ⟨u,0,none⟩) 4 4] λv=>Al true S<|Aj (decide<|v>(wrap .i64<|2*t)) (A5 λS=>Ac e0 λh j=>Fg S h j λd=>EK S h (j+1) λw=>Ac e0 λk m=>Bb k m λe=>Bo k (m+1) λx=>
 Al true S<|Wx 264 [.agg #[.l e.a e.n e.c,.p x],.i 3] λy=>Al true S<|wz 263 [.agg #[.l d.a d.n d.c,.p w],.s y]<|Qn jn Q z e0)<|A0x jn Q):=by kernel_rfl
theorem ZP:UL jn Q ((.p e0)::us 69 [])=(Em λm=>Qn jn Q m e0):=by kernel_rfl
theorem NV:Qm jn Q (m2+1) e0=(A5 λS=>Ac e0 λf g=>Fg S f g λb=>EK S f (g+1) λo=>Ac e0 λq r=>Dj S q (r+2) λt=>Az [.i 0,.i 2] 3 λu=>Al true S<|Bw 258 [.agg #[.l b.a b.n b.c,.p o],.l (some ⟨u,0,none⟩) 2 2] λv=>Al true S<|Aj (decide<|v>t) (A5 λS=>Ac e0 λh j=>Fg S h j λd=>EK S h (j+1) λw=>Ac e0 λk m=>Bb k m λe=>Bo k (m+1) λx=>Al true S<|Wx 264 [.agg #[.l e.a e.n e.c,.p x],.i 2] λy=>
 Al true S<|wz 263 [.agg #[.l d.a d.n d.c,.p w],.s y]<|Qm jn Q m2 e0)<|A0w jn Q e0):=by kernel_rfl
theorem ZO:UK jn Q ((.p e0)::(.s key1)::us 68 [])=(Ac e0 λd e=>Bb d e λb=>Bo d (e+1) λf=>wz 257 [.agg #[.l b.a b.n b.c,.p f],.i 0,.s key1]<|Em λm=>Qm jn Q m e0):=by kernel_rfl
theorem Asc:Aw jn PR Hg f252 [.p e0,.s key1] Q=(A5 λS=>Aj (isNone e0) (Al true S<|Al true S<|Q<|.b false)<|Ey 249 [.p e0,.s key1] λa=>Al true S<|Aj a (Al true S<|Q<|.b false)<|Ac e0 λc d=>Dj S c (d+2) λe=>Bw 251 [.p e0] λf=>Al true S<|Aj (f==e) (Q<|.b false)<|A0v jn Q e0 key1):=by kernel_rfl
theorem Asd:Aw jn PR Aca f253 [.p e0,.s key1] Q=(Ey 249 [.p e0,.s key1] λg=>Aj (!g) (Q<|.b false)<|Ac e0 λe f=>Bb e f λd=>Bo e (f+1) λh=>wz 263 [.agg #[.l d.a d.n d.c,.p h],.s key1]<|Q<|.b true):=by kernel_rfl
theorem Ase:Aw jn PR Aca f254 [.p e0] Q=(Aj (isNone e0) (Q<|.i 0)<|Ac e0 λa b=>A0 a (b+2) λc=>Q<|.i c):=by kernel_rfl
theorem Asf{d:Bool}:Aw jn PR A00 f259 [.p e0,.b d] Q=(A5 λS=>Ac e0 λM N=>Fg S M N λx=>EK S M (N+1) λO=>Ac e0 λP R=>Dj S P (R+2) λT=>Az [.i 0,.i 1] 3 λU=>Al true S<|Bw 258 [.agg #[.l x.a x.n x.c,.p O],.l (some ⟨U,0,none⟩) 2 2] λV=>Al true S<|Aj (decide<|V<T) (Q<|.l none 0 0) (Ac e0 λr s=>Bb r s λe=>Bo r (s+1) λy=>Az [.i 0] 3 λz=>Bw 258 [.agg #[.l e.a e.n e.c,.p y],.l (some ⟨z,0,none⟩) 1 1] λf=>
 Aj (decide<|f>0) (Ac e0 λA B=>A0 A (B+3) λC=>Aj (decide<|f>C) (GW 261 [.p e0,.b true] λg=>Q<|.l g.a g.n g.c)<|Ac e0 λD E=>A0 D (E+3) λF=>Aj (f==F) (Aj d (GW 261 [.p e0,.b true] λh=>Q<|.l h.a h.n h.c) (Ac e0 λt u=>Bb t u λj=>Bo t (u+1) λG=>Az [.i 1] 3 λH=>Bw 258 [.agg #[.l j.a j.n j.c,.p G],.l (some ⟨H,0,none⟩) 1 1] λI=>GW 261 [.p e0,.b<|I==0] λk=>
 Q (.l k.a k.n k.c)))<|Ac e0 λv w=>Bb v w λm=>Bo v (w+1) λJ=>Az [.i 1] 3 λK=>Bw 258 [.agg #[.l m.a m.n m.c,.p J],.l (some ⟨K,0,none⟩) 1 1] λL=>GW 261 [.p e0,.b<|L==0] λo=>Q<|.l o.a o.n o.c) (GW 261 [.p e0,.b false] λq=>Q<|.l q.a q.n q.c))):=by kernel_rfl
theorem ZR{t4:Bool}:UN jn Q ((.p e0)::us 3 ((.b t4)::us 96 []))=(Aj t4 (A5 λS=>Ac e0 λu v=>Fg S u v λd=>EK S u (v+1) λN=>Ac e0 λw x=>Bb w x λe=>Bo w (x+1) λO=>Al true S<|Wx 264 [.agg #[.l e.a e.n e.c,.p O],.i 2] λP=>Al true S<|wz 263 [.agg #[.l d.a d.n d.c,.p N],.s P]<|GW 259 [.p e0,.b false] λf=>Q<|.l f.a f.n f.c) (A5 λS=>Ac e0 λy z=>Fg S y z λg=>EK S y (z+1) λR=>
 Ac e0 λT U=>Dj S T (U+2) λV=>Az [.i 0,.i 2] 3 λW=>Al true S<|Bw 258 [.agg #[.l g.a g.n g.c,.p R],.l (some ⟨W,0,none⟩) 2 2] λX=>Al true S<|Aj (decide<|X>=V) (Ac e0 λA B=>Bb A B λh=>Bo A (B+1) λY=>Wx 264 [.agg #[.l h.a h.n h.c,.p Y],.i 0] λC=>Ac e0 λD E=>Bb D E λj=>Bo D (E+1) λZ=>wz 263 [.agg #[.l j.a j.n j.c,.p Z],.s C]<|Az [.s C] 9 λaa=>Q<|.l (some ⟨aa,0,none⟩) 1 1) (
 A5 λS=>Ac e0 λF G=>Fg S F G λk=>EK S F (G+1) λab=>Ac e0 λac ad=>Dj S ac (ad+2) λae=>Az [.i 0,.i 1,.i 2,.i 3] 3 λaf=>Al true S<|Bw 258 [.agg #[.l k.a k.n k.c,.p ab],.l (some ⟨af,0,none⟩) 4 4] λag=>Al true S<|Aj (decide<|ag<ae) (Q<|.l none 0 0) (A5 λS=>Ac e0 λH I=>Fg S H I λm=>EK S H (I+1) λah=>Ac e0 λai aj=>Dj S ai (aj+2) λak=>Az [.i 0,.i 1,.i 2,.i 3] 3 λal=>Al true S<|Bw 258 [.agg #[.l m.a m.n m.c,.p ah],.l (some ⟨al,0,none⟩) 4 4] λam=>
 Al true S<|Aj (decide<|am>=(wrap .i64<|2*ak)) (A5 λS=>Ac e0 λJ K=>Fg S J K λo=>EK S J (K+1) λan=>Ac e0 λL M=>Bb L M λq=>Bo L (M+1) λao=>Al true S<|Wx 264 [.agg #[.l q.a q.n q.c,.p ao],.i 3] λap=>Al true S<|wz 263 [.agg #[.l o.a o.n o.c,.p an],.s ap]<|GW 259 [.p e0,.b false] λr=>Q<|.l r.a r.n r.c)<|GW 259 [.p e0,.b false] λt=>Q<|.l t.a t.n t.c)))):=by kernel_rfl
theorem Asg:Aw jn PR Xg f260 [.p e0] Q=(A5 λS=>Ac e0 λq r=>Fg S q r λf=>EK S q (r+1) λs=>Ac e0 λt u=>Dj S t (u+2) λv=>Az [.i 0,.i 2] 3 λw=>Al true S<|Bw 258 [.agg #[.l f.a f.n f.c,.p s],.l (some ⟨w,0,none⟩) 2 2] λx=>Al true S<|Aj (decide<|x>=v) (Ac e0 λd e=>Fg S d e λb=>EK S d (e+1) λg=>Ac e0 λh j=>Dj S h (j+2) λk=>Az [.i 0] 3 λm=>Al true S<|Bw 258 [.agg #[.l b.a b.n b.c,.p g],.l (some ⟨m,0,none⟩) 1 1] λo=>
 Al true S<|Xf jn Q e0<|decide<|o<k)<|Al true S<|Al true S<|Xf jn Q e0 false):=by kernel_rfl
theorem ZS{b d:Int}:UO jn Q ((.p e0)::us 4 ((.i b)::(.i d)::us 17 []))=(Ac e0 λh j=>Bb h j λe=>Bo h (j+1) λq=>Wx 264 [.agg #[.l e.a e.n e.c,.p q],.i b] λk=>Ac e0 λm o=>Bb m o λf=>Bo m (o+1) λr=>wz 257 [.agg #[.l f.a f.n f.c,.p r],.i d,.s k]<|Az [.s k] 9 λg=>Q<|.l (some ⟨g,0,none⟩) 1 1):=by kernel_rfl
theorem Ash{a:Bool}:Aw jn PR Ait f261 [.p e0,.b a] Q=(Aj a (Xh jn Q e0 0 2)<|Xh jn Q e0 1 3):=by kernel_rfl
theorem ZX{d:Bool}:UT jn Q ((.p e0)::(.s key1)::us 4 ((pq n6b n6o)::us 1 ((.l gone8.a gone8.n gone8.c)::us 79 ((.b d)::us 13 []))))=(Aj d (A0 n6b n6o λe=>A0 n6b (n6o+1) λf=>A0 n6b ((n6o+1)+1) λg=>wz 283 [.p e0,.agg #[.i e,.i f,.i g],.s key1]<|wz 286 [.p e0]<|wz 284 [.p e0]<|Q<|.tuple #[.b false,.l gone8.a gone8.n gone8.c]) (A0 n6b n6o λh=>A0 n6b (n6o+1) λj=>A0 n6b ((n6o+1)+1) λk=>
 wz 285 [.p e0,.agg #[.i h,.i j,.i k],.s key1]<|wz 286 [.p e0]<|wz 284 [.p e0]<|Q<|.tuple #[.b false,.l gone8.a gone8.n gone8.c])):=by kernel_rfl
theorem ZW:US jn Q ((.p e0)::(.s key1)::us 4 ((pq n6b n6o)::us 1 ((.l gone8.a gone8.n gone8.c)::us 93 [])))=(A5 λS=>Ac e0 λb d=>Dj S b (d+5) λe=>Ac e0 λf g=>A0 f (g+1) λh=>Al true S<|Aj (decide<|e<h) (Xm jn Q e0 key1 n6b n6o gone8 true)<|A0 n6b n6o λi=>Xm jn Q e0 key1 n6b n6o gone8<|i==3):=by kernel_rfl
theorem ZV:UQ jn Q ((.p e0)::(.s key1)::us 4 ((pq n6b n6o)::us 95 []))=(A5 λS=>Ac e0 λf g=>Dj S f g λh=>Bw 276 [.p e0] λj=>Al true S<|Aj (decide<|j>=h) (Fv 272 [.p e0] λk t=>Az [.s k] 9 λl=>Bl 9 1 16 [.s Ae] ⟨none,0,0⟩ 1 (λw=>H3 w (some ⟨l,0,none⟩)<|1*1) λm=>Ac e0 λn o=>Bo n (o+4) λq=>λw=>Ai PR 282 #[.p q,.s key1] w λe w'=>∃a:Int,∃c:Int,∃d:Int,∃r:Bool,e = .returned (.tuple #[.agg #[.i a,.i c,.i d],.b r])/\(
 st n6b n6o (.i a)<|st n6b (n6o+1) (.i c)<|st n6b ((n6o+1)+1) (.i d)<|Xl jn Q e0 key1 n6b n6o m) w')<|Xl jn Q e0 key1 n6b n6o ⟨none,0,0⟩):=by kernel_rfl
theorem ZU{a:Bool}:UP jn Q ((.p e0)::(.s key1)::us 4 ((pq n6b n6o)::us 15 ((.b a)::us 79 [])))=(Aj a (A0 n6b n6o λc=>A0 n6b (n6o+1) λd=>A0 n6b ((n6o+1)+1) λe=>wz 283 [.p e0,.agg #[.i c,.i d,.i e],.s key1]<|wz 284 [.p e0]<|Q<|.tuple #[.b true,.l none 0 0])<|A0 n6b n6o λf=>Aj (f==2) (A0 n6b n6o λg=>A0 n6b (n6o+1) λh=>A0 n6b ((n6o+1)+1) λj=>wz 285 [.p e0,.agg #[.i g,.i h,.i j],.s key1]<|
 wz 284 [.p e0]<|Q<|.tuple #[.b true,.l none 0 0])<|A07 jn Q e0 key1 n6b n6o):=by kernel_rfl
theorem Asj:Aw jn PR IA f271 [.p e0,.s key1] Q=(Aj (isNone e0) (Q<|.tuple #[.b false,.l none 0 0]) (Ac e0 λk m=>Bo k (m+4) λn=>λw=>Ai PR 282 #[.p n,.s key1] w λe w'=>∃f:Int,∃g:Int,∃h:Int,∃o:Bool,e = .returned (.tuple #[.agg #[.i f,.i g,.i h],.b o])/\(Az [.i 0,.i 0,.i 0] 270 λa=>st a 0 (.i f)<|st a 1 (.i g)<|st a 2 (.i h)<|A0 a 0 λj=>Aj (j==1) (Qs jn Q e0 key1 a 0<|j==1)<|A0 a 0 λc=>Aj (c==2) (
 A0 a 1 λd=>Qs jn Q e0 key1 a 0<|d != 0)<|Qs jn Q e0 key1 a 0 false) w')):=by kernel_rfl
theorem NX{a:BA}:UV jn Q ((.p e0)::us 3 ((.s a)::us 1 ((pq n6b n6o)::us 50 [])))=(A0 n6b n6o λc=>A0 n6b (n6o+1) λd=>A0 n6b ((n6o+1)+1) λe=>wz 288 [.p e0,.s a,.agg #[.i c,.i d,.i e]]<|wz 286 [.p e0]<|wz 284 [.p e0]<|Q<|.tuple #[.s a,.b true]):=by kernel_rfl
theorem ZY:UU jn Q ((.p e0)::us 56 [])=(A5 λS=>Ac e0 λr t=>EK S r (t+3) λu=>Ac e0 λv h=>Bo v (h+3) λj=>Al true S<|Bw 165 [.p j] λk=>Al true S<|Fv 164 [.p u,.i k] λc x=>Ac e0 λl m=>Bo l (m+4) λn=>λw=>Ai PR 282 #[.p n,.s c] w λe w'=>∃d:Int,∃f:Int,∃g:Int,∃o:Bool,e = .returned (.tuple #[.agg #[.i d,.i f,.i g],.b o])/\(Az [.i 0,.i 0,.i 0] 270 λa=>st a 0 (.i d)<|
 st a 1 (.i f)<|st a 2 (.i g)<|wz 287 [.p e0,pq a 0]<|st a 0 (.i 3)<|A0 a 1 λq=>Aj (q==0) (st a 0 (.i 0)<|Aiw jn Q e0 c a 0)<|Aiw jn Q e0 c a 0) w'):=by kernel_rfl
theorem Asl:Aw jn PR Xo f272 [.p e0] Q=(Bw 276 [.p e0] λa=>Aj (a==0) (Q<|.tuple #[.s Ae,.b false])<|Ac e0 λc d=>Bo c (d+3) λe=>Bw 163 [.p e] λf=>Aj (f==0) (wz 281 [.p e0]<|Xn jn Q e0)<|Xn jn Q e0):=by kernel_rfl
theorem Asm:Aw jn PR Aca f274 [.p e0,.s key1] Q=(Aj (isNone e0) (Q<|.b false) (Ac e0 λh j=>Bo h (j+4) λk=>λw=>Ai PR 282 #[.p k,.s key1] w λe w'=>∃d:Int,∃f:Int,∃g:Int,∃l:Bool,e = .returned (.tuple #[.agg #[.i d,.i f,.i g],.b l])/\(Az [.i 0,.i 0,.i 0] 270 λa=>st a 0 (.i d)<|st a 1 (.i f)<|st a 2 (.i g)<|A0 a 0 λm=>Aj (m==1) (Q<|.b true)<|A0 a 0 λc=>Q<|.b<|c==2) w')):=by kernel_rfl
theorem Asn:Aw jn PR Aca f275 [.p e0] Q=(Aj (isNone e0) (Q<|.l none 0 0)<|Ac e0 λf g=>Bo f (g+3) λh=>GW 244 [.p h] λb=>GW 289 [.p e0,.i 1] λd=>Bl 9 1 16 [.s Ae] ⟨b.a,b.n,b.c⟩ d.n (λw=>H3 w d.a<|d.n*1) λe=>Q<|.l e.a e.n e.c):=by kernel_rfl
theorem Aso:Aw jn PR A08 f276 [.p e0] Q=(Aj (isNone e0) (Q<|.i 0)<|A5 λS=>Ac e0 λa b=>EK S a (b+3) λc=>Ac e0 λd e=>Dj S d (e+5) λf=>Bw 163 [.p c] λg=>Al true S<|Q<|.i<|wrap .i64<|g+f):=by kernel_rfl
theorem ZZ:UW jn Q ((.p e0)::(.s key1)::us 49 [])=(Ac e0 λx y=>Bo x (y+4) λz=>λw=>Ai PR 282 #[.p z,.s key1] w λe w'=>∃v:Int,∃c:Int,∃d:Int,∃f:Bool,e = .returned (.tuple #[.agg #[.i v,.i c,.i d],.b f])/\(Az [.i 0,.i 0,.i 0] 270 λa=>st a 0 (.i v)<|st a 1 (.i c)<|st a 2 (.i d)<|A5 λS=>Ac e0 λg h=>Dj S g (h+5) λj=>Ac e0 λk l=>A0 k (l+1) λm=>Al true S<|Aj (decide<|j<m) (A0 a 0 λn=>
 A0 a 1 λo=>A0 a 2 λq=>wz 283 [.p e0,.agg #[.i n,.i o,.i q],.s key1]<|wz 284 [.p e0]<|Q<|.b true)<|A0 a 0 λr=>A0 a 1 λt=>A0 a 2 λu=>wz 285 [.p e0,.agg #[.i r,.i t,.i u],.s key1]<|wz 284 [.p e0]<|Q<|.b true) w'):=by kernel_rfl
theorem Asp:Aw jn PR Aix f277 [.p e0,.s key1] Q=(A5 λS=>Aj (isNone e0) (Al true S<|Al true S<|Q<|.b false)<|Ey 274 [.p e0,.s key1] λa=>Al true S<|Aj a (Al true S<|Q<|.b false)<|Ac e0 λc d=>Dj S c d λe=>Bw 276 [.p e0] λf=>Al true S<|Aj (f==e) (Q<|.b false)<|A09 jn Q e0 key1):=by kernel_rfl
theorem Asq:Aw jn PR A1a f278 [.p e0,.s key1] Q=(Ey 274 [.p e0,.s key1] λl=>Aj (!l) (Q<|.b false) (Ac e0 λm n=>Bo m (n+4) λo=>λw=>Ai PR 282 #[.p o,.s key1] w λe w'=>∃h:Int,∃j:Int,∃k:Int,∃q:Bool,e = .returned (.tuple #[.agg #[.i h,.i j,.i k],.b q])/\(Az [.i 0,.i 0,.i 0] 270 λa=>st a 0 (.i h)<|st a 1 (.i j)<|st a 2 (.i k)<|A5 λS=>Ac e0 λc d=>EK S c (d+2) λf=>A0 a 1 λg=>Al true S<|
 Fv 160 [.p f,.i g] λr t=>wz 287 [.p e0,pq a 0]<|wz 288 [.p e0,.s key1,.agg #[.i 0,.i 0,.i 0]]<|wz 284 [.p e0]<|Q<|.b true) w')):=by kernel_rfl
theorem Asr:Aw jn PR Aca f279 [.p e0] Q=(Aj (isNone e0) (Q<|.i 0)<|Ac e0 λa b=>A0 a b λc=>Q<|.i c):=by kernel_rfl
theorem Ast:Aw jn PR Aiy f281 [.p e0] Q=(λw=>Ai PR 290 #[.p e0,.i 1] w λe w'=>∃b:BA,∃g:Int,∃h:Int,∃j:Int,e = .returned (.tuple #[.s b,.agg #[.i g,.i h,.i j]])/\(Az [.i 0,.i 0,.i 0] 270 λa=>st a 0 (.i g)<|st a 1 (.i h)<|st a 2 (.i j)<|A5 λS=>Ac e0 λk l=>EK S k (l+2) λm=>A0 a 1 λn=>Al true S<|Fv 160 [.p m,.i n] λo q=>st a 0 (.i 2)<|st a 1 (.i 0)<|wz 291 [.p e0,pq a 0,.s b]<|
 A0 a 0 λc=>A0 a 1 λd=>A0 a 2 λf=>wz 288 [.p e0,.s b,.agg #[.i c,.i d,.i f]]<|wz 284 [.p e0]<|Q<|.tuple #[]) w'):=by kernel_rfl
theorem Aac{a c:Nat}:UX jn Q (us 4 ((pq a c)::us 22 []))=(Az [.i 0,.i 0,.i 0] 270 λd=>A0 d 0 λe=>A0 d 1 λf=>A0 d 2 λg=>st a c (.i e)<|st a (c+1) (.i f)<|st a ((c+1)+1) (.i g)<|A0 a c λh=>A0 a (c+1) λj=>A0 a ((c+1)+1) λk=>Q<|.tuple #[.agg #[.i h,.i j,.i k],.b false]):=by kernel_rfl
theorem Asu:Aw jn PR EF f282 [.p x0,.s key1] Q=(Az [.i 0,.i 0,.i 0] 270 λc=>Aj (!isNone x0) (Gk 292 [.p x0,.s key1] λd o=>Aj o (Ac x0 λq r=>Bb q (r+1) λm=>CU m.a m.n d λe f=>A0 e ((f+d.toNat*5)+2) λt=>A0 e (((f+d.toNat*5)+2)+1) λg=>A0 e ((((f+d.toNat*5)+2)+1)+1) λh=>st c 0 (.i t)<|st c 1 (.i g)<|st c 2 (.i h)<|A0 c 0 λj=>A0 c 1 λk=>A0 c 2 λl=>
 Q (.tuple #[.agg #[.i j,.i k,.i l],.b true]))<|Aiz jn Q c 0)<|Aiz jn Q c 0):=by kernel_rfl
theorem Asv:Aw jn PR A1c f283 [.p e0,.agg #[.i n1_0,.i n1_1,.i n1_2],.s key2] Q=(Az [.i n1_0,.i n1_1,.i n1_2] 270 λa=>st a 0 (.i 1)<|wz 293 [.p e0,pq a 0,.s key2]<|wz 287 [.p e0,pq a 0]<|A0 a 0 λc=>A0 a 1 λd=>A0 a 2 λe=>wz 288 [.p e0,.s key2,.agg #[.i c,.i d,.i e]]<|A5 λS=>Ac e0 λf g=>Dj S f (g+5) λh=>Ac e0 λj k=>
 A0 j (k+1) λb=>Al true S<|Aj (decide<|h>b) (wz 281 [.p e0]<|Q<|.tuple #[])<|Q<|.tuple #[]):=by kernel_rfl
theorem NY:Qt jn Q (m1+1) e0=(Ac e0 λu v=>Bo u (v+2) λx=>Bw 163 [.p x] λy=>Aj (decide<|y>0) (A5 λS=>Ac e0 λz A=>EK S z (A+2) λB=>Ac e0 λC D=>Bo C (D+2) λh=>Al true S<|Bw 165 [.p h] λj=>Al true S<|Fv 164 [.p B,.i j] λc E=>Ac e0 λk l=>Bo k (l+4) λm=>λw=>Ai PR 282 #[.p m,.s c] w λe w'=>∃d:Int,∃f:Int,∃g:Int,∃n:Bool,e = .returned (.tuple #[.agg #[.i d,.i f,.i g],.b n])/\(
 Az [.i 0,.i 0,.i 0] 270 λa=>st a 0 (.i d)<|st a 1 (.i f)<|st a 2 (.i g)<|A0 a 0 λo=>Aj (o==1) (Q<|.tuple #[])<|A0 a 0 λq=>A0 a 1 λr=>A0 a 2 λt=>wz 294 [.p e0,.agg #[.i q,.i r,.i t],.s c]<|Qt jn Q m1 e0) w')<|Q<|.tuple #[]):=by kernel_rfl
theorem Asw:Aw jn PR Ai0 f284 [.p e0] Q=(Em λm=>Qt jn Q m e0):=by kernel_rfl
theorem Asx:Aw jn PR Aca f285 [.p e0,.agg #[.i n1_0,.i n1_1,.i n1_2],.s key2] Q=(Az [.i n1_0,.i n1_1,.i n1_2] 270 λa=>st a 0 (.i 2)<|wz 293 [.p e0,pq a 0,.s key2]<|wz 291 [.p e0,pq a 0,.s key2]<|A0 a 0 λb=>A0 a 1 λc=>A0 a 2 λd=>wz 288 [.p e0,.s key2,.agg #[.i b,.i c,.i d]]<|Q<|.tuple #[]):=by kernel_rfl
theorem NZ:Qu jn Q (m1+1) e0=(A5 λS=>Ac e0 λk l=>Dj S k (l+6) λm=>Ac e0 λn o=>A0 n o λq=>Al true S<|Aj (decide<|m>q) (λw=>Ai PR 290 #[.p e0,.i 3] w λe w'=>∃g:BA,∃h:Int,∃j:Int,∃b:Int,e = .returned (.tuple #[.s g,.agg #[.i h,.i j,.i b]])/\(Az [.i 0,.i 0,.i 0] 270 λa=>st a 0 (.i h)<|st a 1 (.i j)<|st a 2 (.i b)<|A0 a 0 λc=>A0 a 1 λd=>A0 a 2 λf=>wz 294 [.p e0,.agg #[.i c,.i d,.i f],.s g]<|
 Qu jn Q m1 e0) w')<|Q<|.tuple #[]):=by kernel_rfl
theorem Asy:Aw jn PR Ai1 f286 [.p e0] Q=(Em λm=>Qu jn Q m e0):=by kernel_rfl
theorem Asz:Aw jn PR Xq f287 [.p e0,.p n1] Q=(A5 λS=>Ac e0 λb c=>EK S b (c+3) λd=>Ac n1 λe f=>A0 e (f+2) λg=>Al true S<|Fv 160 [.p d,.i g] λj k=>Ac n1 λh a=>st h (a+2) (.i 0)<|Q<|.tuple #[]):=by kernel_rfl
theorem As0{a c d:Int}:Aw jn PR A1d f288 [.p e0,.s key1,.agg #[.i a,.i c,.i d]] Q=(Az [.i a,.i c,.i d] 270 λf=>Ac e0 λE F=>Bo E (F+4) λG=>λw=>Ai PR 282 #[.p G,.s key1] w λe w'=>∃B:Int,∃C:Int,∃D:Int,∃H:Bool,e = .returned (.tuple #[.agg #[.i B,.i C,.i D],.b H])/\(Az [.i 0,.i 0,.i 0] 270 λg=>st g 0 (.i B)<|st g 1 (.i C)<|st g 2 (.i D)<|A0 g 0 λh=>wz 295 [.p e0,.i h,.i<|-1]<|
 A0 f 0 λj=>wz 295 [.p e0,.i j,.i 1]<|A0 f 0 λk=>Aj (k==0) (Ac e0 λl m=>Bo l (m+4) λn=>λw=>Ai PR 296 #[.p n,.s key1] w λe w'=>∃o:Int,∃q:Int,∃r:Int,∃t:Bool,e = .returned (.tuple #[.agg #[.i o,.i q,.i r],.b t])/\(Q<|.tuple #[]) w') (A5 λS=>Ac e0 λu v=>EK S u (v+4) λx=>A0 f 0 λy=>A0 f 1 λz=>A0 f 2 λA=>Al true S<|Ey 297 [.p x,.s key1,.agg #[.i y,.i z,.i A]] λI=>
 Q (.tuple #[]))) w'):=by kernel_rfl
theorem Aad:UY jn Q (us 5 ((.l l5.a l5.n l5.c)::us 33 []))=(Q<|.l l5.a l5.n l5.c):=by kernel_rfl
theorem Oa{d:Sl}{f:Int}:LP jn Q (m1+1) e0 is1 l5 d f t16=(Aj (decide<|t16<f) (CU d.a d.n t16 λu v=>Ci u (v+t16.toNat*1) λt=>Ac e0 λx y=>Bo x (y+4) λl=>λw=>Ai PR 282 #[.p l,.s t] w λe w'=>∃h:Int,∃j:Int,∃k:Int,∃m:Bool,e = .returned (.tuple #[.agg #[.i h,.i j,.i k],.b m])/\(Az [.i 0,.i 0,.i 0] 270 λg=>st g 0 (.i h)<|st g 1 (.i j)<|st g 2 (.i k)<|A0 g 0 λo=>Aj (o==is1) (Az [.s t] 9 λq=>
 Bl 9 1 16 [.s Ae] ⟨l5.a,l5.n,l5.c⟩ 1 (λw=>H3 w (some ⟨q,0,none⟩)<|1*1) λr=>LP jn Q m1 e0 is1 r d f<|wrap .i64<|t16+1)<|LP jn Q m1 e0 is1 l5 d f<|wrap .i64<|t16+1) w')<|A1f jn Q l5):=by kernel_rfl
theorem As1:Aw jn PR Qv f289 [.p e0,.i is1] Q=(Ac e0 λb c=>Bo b (c+2) λd=>GW 244 [.p d] λa=>Em λm=>LP jn Q m e0 is1 ⟨none,0,0⟩ a (a.n:Int) 0):=by kernel_rfl
theorem Aae:UZ jn Q (us 5 ((pq t5b t5o)::us 43 []))=(st t5b t5o (.i 0)<|st t5b (t5o+1) (.i 0)<|st t5b ((t5o+1)+1) (.i 0)<|A0 t5b t5o λa=>A0 t5b (t5o+1) λb=>A0 t5b ((t5o+1)+1) λc=>Q<|.tuple #[.s Ae,.agg #[.i a,.i b,.i c]]):=by kernel_rfl
theorem Ob{g:Int}:Qx jn Q (m1+1) e0 is1 t5b t5o g=(Aj (g != 0) (Ac e0 λB C=>Bo B (C+2) λD=>Fv 164 [.p D,.i g] λA E=>Ac e0 λh j=>Bo h (j+4) λk=>λw=>Ai PR 282 #[.p k,.s A] w λe w'=>∃c:Int,∃d:Int,∃f:Int,∃l:Bool,e = .returned (.tuple #[.agg #[.i c,.i d,.i f],.b l])/\(Az [.i 0,.i 0,.i 0] 270 λa=>st a 0 (.i c)<|st a 1 (.i d)<|st a 2 (.i f)<|A0 a 0 λm=>
 Aj (m==is1) (A5 λS=>A0 a 0 λn=>A0 a 1 λo=>A0 a 2 λq=>st t5b t5o (.i n)<|st t5b (t5o+1) (.i o)<|st t5b ((t5o+1)+1) (.i q)<|A0 t5b t5o λr=>A0 t5b (t5o+1) λt=>A0 t5b ((t5o+1)+1) λu=>Q<|.tuple #[.s A,.agg #[.i r,.i t,.i u]]) (Ac e0 λv x=>Bo v (x+2) λy=>Bw 245 [.p y,.i g] λz=>Qx jn Q m1 e0 is1 t5b t5o z)) w')<|A1i jn Q t5b t5o):=by kernel_rfl
theorem As2:Aw jn PR Qw f290 [.p e0,.i is1] Q=(Az [.i 0,.i 0,.i 0] 270 λa=>Ac e0 λb c=>Bo b (c+2) λd=>Bw 165 [.p d] λe=>Em λm=>Qx jn Q m e0 is1 a 0 e):=by kernel_rfl
theorem As3:Aw jn PR Xq f291 [.p e0,.p n1,.s key2] Q=(A5 λS=>Ac e0 λf g=>EK S f (g+3) λh=>Ac n1 λj k=>A0 j (k+2) λl=>Al true S<|Fv 160 [.p h,.i l] λn o=>Ac e0 λm a=>Bo m (a+3) λb=>Bw 162 [.p b,.s key2] λc=>Ac n1 λd e=>st d (e+2) (.i c)<|Q<|.tuple #[]):=by kernel_rfl
theorem Aah:Vc jn Q m1 ((.p x0)::(.s key1)::us 4 ((.i free6)::(.i i7)::us 71 []))=(Ac x0 λb c=>Bb b (c+1) λa=>AV ((a.n:Int)≠0)<|Qy jn Q m1 x0 key1 free6<|tmod (wrap .i64<|i7+1) (a.n:Int)):=by kernel_rfl
theorem Aai:Vd jn Q m1 ((.p x0)::(.s key1)::us 4 ((.i free6)::(.i i7)::(pq p8b p8o)::us 52 ((.b t61)::us 17 [])))=(Aj t61 (Q<|.tuple #[.i i7,.b false])<|Ac (some ⟨p8b,p8o,none⟩) λa c=>A0 a c λd=>Aj (d==0) (Q<|.tuple #[.i free6,.b false])<|Xv jn Q m1 x0 key1 free6 i7):=by kernel_rfl
theorem Aag:Vb jn Q m1 ((.p x0)::(.s key1)::us 4 ((.i free6)::(.i i7)::(pq p8b p8o)::us 41 ((.b t50)::us 28 [])))=(Aj t50 (Xv jn Q m1 x0 key1 i7 i7)<|Ac (some ⟨p8b,p8o,none⟩) λa c=>A0 a c λd=>Aj (d==0) (Xw jn Q m1 x0 key1 free6 i7 p8b p8o<|decide<|free6<0)<|Xw jn Q m1 x0 key1 free6 i7 p8b p8o false):=by kernel_rfl
theorem Aaf:Va jn Q m1 ((.p x0)::(.s key1)::us 4 ((.i free6)::(.i i7)::(pq p8b p8o)::us 26 ((.b t35)::us 43 [])))=(Aj t35 (Q<|.tuple #[.i i7,.b true])<|Ac (some ⟨p8b,p8o,none⟩) λa c=>A0 a c λd=>Aj (d==1) (Xu jn Q m1 x0 key1 free6 i7 p8b p8o<|decide<|free6<0)<|Xu jn Q m1 x0 key1 free6 i7 p8b p8o false):=by kernel_rfl
theorem Aaj:Qy jn Q (m1+1) x0 key1 free6 i7=(Ac x0 λl e=>Bb l (e+1) λd=>CU d.a d.n i7 λb c=>Ac (some ⟨b,(c+i7.toNat*5),none⟩) λf g=>A0 f g λh=>Aj (h==2) (Ac (some ⟨b,(c+i7.toNat*5),none⟩) λi j=>Ci i (j+1) λk=>Xt jn Q m1 x0 key1 free6 i7 b (c+i7.toNat*5)<|sEq k key1)<|Xt jn Q m1 x0 key1 free6 i7 b (c+i7.toNat*5) false):=by kernel_rfl
theorem As4:Aw jn PR AE f292 [.p x0,.s key1] Q=(A5 λS=>Ac x0 λa b=>wLu S a b λc=>Ac x0 λd e=>Fg S d (e+1) λf=>wcu 117 [.int .u64 c,.s key1] λg=>Al true S<|Bw 116 [.int .u64 g,.i (f.n:Int)] λh=>Em λm=>Qy jn Q m x0 key1 (-1) h):=by kernel_rfl
theorem As5:Aw jn PR Xq f293 [.p e0,.p n1,.s key2] Q=(A5 λS=>Ac e0 λf g=>EK S f (g+2) λh=>Ac n1 λj k=>A0 j (k+1) λl=>Al true S<|Fv 160 [.p h,.i l] λn o=>Ac e0 λm a=>Bo m (a+2) λb=>Bw 162 [.p b,.s key2] λc=>Ac n1 λd e=>st d (e+1) (.i c)<|Q<|.tuple #[]):=by kernel_rfl
theorem As6:Aw jn PR Aiy f294 [.p e0,.agg #[.i n1_0,.i n1_1,.i n1_2],.s key2] Q=(Az [.i n1_0,.i n1_1,.i n1_2] 270 λa=>A5 λS=>Ac e0 λg h=>EK S g (h+2) λj=>A0 a 1 λk=>Al true S<|Fv 160 [.p j,.i k] λn o=>st a 1 (.i 0)<|A0 a 0 λl=>Aj (l==3) (st a 0 (.i 0)<|A0 a 0 λm=>A0 a 1 λb=>A0 a 2 λc=>wz 288 [.p e0,.s key2,.agg #[.i m,.i b,.i c]]<|
 Q (.tuple #[]))<|A0 a 0 λd=>A0 a 1 λe=>A0 a 2 λf=>wz 288 [.p e0,.s key2,.agg #[.i d,.i e,.i f]]<|Q<|.tuple #[]):=by kernel_rfl
theorem As7{a:Int}:Aw jn PR Aca f295 [.p e0,.i is1,.i a] Q=(Aj (is1==1) (Ac e0 λc d=>A0 c (d+5) λe=>Ac e0 λf g=>st f (g+5) (.i<|wrap .i64<|e+a)<|Q<|.tuple #[])<|Aj (is1==3) (Ac e0 λh j=>A0 h (j+6) λk=>Ac e0 λl b=>st l (b+6) (.i<|wrap .i64<|k+a)<|Q<|.tuple #[])<|Q<|.tuple #[]):=by kernel_rfl
theorem As8:Aw jn PR Aca f296 [.p x0,.s key1] Q=(Az [.i 0,.i 0,.i 0] 270 λc=>λw=>Ai PR 282 #[.p x0,.s key1] w λe w'=>∃H:Int,∃I:Int,∃J:Int,∃k:Bool,e = .returned (.tuple #[.agg #[.i H,.i I,.i J],.b k])/\(Az [.i 0,.i 0,.i 0] 270 λg=>st g 0 (.i H)<|st g 1 (.i I)<|st g 2 (.i J)<|Aj k (Gk 292 [.p x0,.s key1] λh L=>Ac x0 λK l=>Bb K (l+1) λj=>CU j.a j.n h λd f=>st d (f+h.toNat*5) (.i 1)<|
 st d ((f+h.toNat*5)+1) (.s Ae)<|st d (((f+h.toNat*5)+1)+1) (.i 0)<|st d ((((f+h.toNat*5)+1)+1)+1) (.i 0)<|st d (((((f+h.toNat*5)+1)+1)+1)+1) (.i 0)<|Ac x0 λm o=>A0 m (o+2) λq=>Ac x0 λr t=>st r (t+2) (.i<|wrap .i64<|q-1)<|A0 g 0 λu=>A0 g 1 λv=>A0 g 2 λx=>st c 0 (.i u)<|st c 1 (.i v)<|st c 2 (.i x)<|A0 c 0 λy=>A0 c 1 λz=>A0 c 2 λA=>Q<|.tuple #[.agg #[.i y,.i z,.i A],.b k]) (
 A0 g 0 λB=>A0 g 1 λC=>A0 g 2 λD=>st c 0 (.i B)<|st c 1 (.i C)<|st c 2 (.i D)<|A0 c 0 λE=>A0 c 1 λF=>A0 c 2 λG=>Q<|.tuple #[.agg #[.i E,.i F,.i G],.b k])) w'):=by kernel_rfl
theorem As9{c d e:Int}:Aw jn PR Kb f297 [.p x0,.s key1,.agg #[.i c,.i d,.i e]] Q=(Az [.i c,.i d,.i e] 270 λh=>Aj (isNone x0) (Q<|.b false)<|Gk 292 [.p x0,.s key1] λj x=>Aj x (A5 λS=>Ac x0 λy z=>Fg S y (z+1) λw=>A0 h 0 λA=>A0 h 1 λB=>A0 h 2 λC=>Al true S<|CU w.a w.n j λf g=>st f ((g+j.toNat*5)+2) (.i A)<|st f (((g+j.toNat*5)+2)+1) (.i B)<|
 st f ((((g+j.toNat*5)+2)+1)+1) (.i C)<|Q<|.b false)<|A0 h 0 λk=>A0 h 1 λl=>A0 h 2 λm=>wz 298 [.p x0,.i j,.s key1,.agg #[.i k,.i l,.i m]]<|A5 λS=>Ac x0 λo q=>Dj S o (q+3) λr=>Ac x0 λt u=>Bb t (u+1) λv=>Al true S<|Aj (decide<|(wrap .i64<|2*r)>(v.n:Int)) (wz 299 [.p x0]<|Q<|.b true)<|Q<|.b true):=by kernel_rfl
theorem Oc{d e:Nat}:Ve jn Q ((.p x0)::(.i i1)::(.s key2)::us 4 ((pq d e)::us 32 []))=(A5 λS=>Ac x0 λg h=>Fg S g (h+1) λf=>A0 d e λj=>A0 d (e+1) λk=>A0 d ((e+1)+1) λl=>Al true S<|CU f.a f.n i1 λb c=>st b (c+i1.toNat*5) (.i 2)<|st b ((c+i1.toNat*5)+1) (.s key2)<|st b (((c+i1.toNat*5)+1)+1) (.i j)<|st b ((((c+i1.toNat*5)+1)+1)+1) (.i k)<|st b (((((c+i1.toNat*5)+1)+1)+1)+1) (.i l)<|Ac x0 λm o=>
 A0 m (o+2) λq=>Ac x0 λr t=>st r (t+2) (.i<|wrap .i64<|q+1)<|Q<|.tuple #[]):=by kernel_rfl
theorem Ata{b c d:Int}:Aw jn PR EG f298 [.p x0,.i i1,.s key2,.agg #[.i b,.i c,.i d]] Q=(Az [.i b,.i c,.i d] 270 λh=>Ac x0 λk l=>Bb k (l+1) λj=>CU j.a j.n i1 λm o=>A0 m (o+i1.toNat*5) λq=>Aj (q==0) (Ac x0 λr t=>A0 r (t+3) λe=>Ac x0 λf g=>st f (g+3) (.i<|wrap .i64<|e+1)<|Ai3 jn Q x0 i1 key2 h 0)<|Ai3 jn Q x0 i1 key2 h 0):=by kernel_rfl
theorem Od:LR jn Q (m1+1) x0 t28 t29 t30=(Aj (decide<|t30<t29) (CU t28.a t28.n t30 λc d=>A0 c (d+t30.toNat*5) λe=>Ci c ((d+t30.toNat*5)+1) λf=>A0 c (((d+t30.toNat*5)+1)+1) λg=>A0 c ((((d+t30.toNat*5)+1)+1)+1) λh=>A0 c (((((d+t30.toNat*5)+1)+1)+1)+1) λj=>Az [.i 0,.s Ae,.i 0,.i 0,.i 0] 387 λb=>st b 0 (.i e)<|st b 1 (.s f)<|st b 2 (.i g)<|st b 3 (.i h)<|st b 4 (.i j)<|A0 b 0 λk=>
 Aj (k==2) (Ci b 1 λl=>Gk 292 [.p x0,.s l] λm u=>Ci b 1 λo=>A0 b 2 λq=>A0 b 3 λr=>A0 b 4 λt=>wz 298 [.p x0,.i m,.s o,.agg #[.i q,.i r,.i t]]<|LR jn Q m1 x0 t28 t29<|wrap .i64<|t30+1) (LR jn Q m1 x0 t28 t29<|wrap .i64<|t30+1))<|Q<|.tuple #[]):=by kernel_rfl
theorem Atb:Aw jn PR DQ f299 [.p x0] Q=(Ac x0 λk o=>Bb k (o+1) λj=>Ac x0 λq r=>A0 q (r+2) λb=>Ij 387 48 [.i 0,.s Ae,.i 0,.i 0,.i 0] (if (wrap .i64<|4*(wrap .i64<|b+1))>8 then (wrap .i64<|4*(wrap .i64<|b+1)) else 8) (if (wrap .i64<|4*(wrap .i64<|b+1))>8 then (wrap .i64<|4*(wrap .i64<|b+1)) else 8) λd=>Ac x0 λt u=>st t (u+1) (.l d.a d.n d.c)<|Ac x0 λe f=>st e (f+2) (.i 0)<|Ac x0 λg h=>st g (h+3) (.i 0)<|
 Em λm=>LR jn Q m x0 j (j.n:Int) 0):=by kernel_rfl
theorem Atc:Aw jn PR Aca f300 [.p e0,.s key1] Q=(Aj (isNone e0) (Q<|.tuple #[.b false,.l none 0 0])<|Ac e0 λz A=>Bb z A λt=>Bo z (A+1) λD=>Bw 310 [.agg #[.l t.a t.n t.c,.p D],.s key1] λu=>Aj (u==2) (Ac e0 λB C=>Bb B C λv=>Bo B (C+1) λE=>wz 311 [.agg #[.l v.a v.n v.c,.p E],.i 2,.s key1]<|Q<|.tuple #[.b true,.l none 0 0])<|Aj (u==0) (Q<|.tuple #[.b true,.l none 0 0])<|Aj (u==1) (Ac e0 λj k=>Bb j k λd=>
 Bo j (k+1) λw=>wz 312 [.agg #[.l d.a d.n d.c,.p w],.s key1]<|GW 313 [.p e0] λe=>Ac e0 λm o=>Bb m o λf=>Bo m (o+1) λx=>wz 311 [.agg #[.l f.a f.n f.c,.p x],.i 2,.s key1]<|Q<|.tuple #[.b false,.l e.a e.n e.c])<|GW 313 [.p e0] λg=>Ac e0 λq r=>Bb q r λh=>Bo q (r+1) λy=>wz 311 [.agg #[.l h.a h.n h.c,.p y],.i 0,.s key1]<|Q<|.tuple #[.b false,.l g.a g.n g.c]):=by kernel_rfl
theorem Oe:Vh jn Q (us 5 ((.s key5)::us 68 []))=(Q<|.tuple #[.s key5,.b true]):=by kernel_rfl
theorem Of{m3:Nat}:Qz jn Q (m3+1) e0 key5=(A5 λS=>Ac e0 λf g=>Fg S f g λb=>EK S f (g+1) λo=>Ac e0 λq r=>Dj S q (r+4) λt=>Az [.i 1] 3 λu=>Al true S<|Bw 314 [.agg #[.l b.a b.n b.c,.p o],.l (some ⟨u,0,none⟩) 1 1] λv=>Al true S<|Aj (decide<|v>t) (A5 λS=>Ac e0 λh j=>Fg S h j λd=>EK S h (j+1) λw=>Ac e0 λk m=>Bb k m λe=>Bo k (m+1) λx=>Al true S<|Wx 315 [.agg #[.l e.a e.n e.c,.p x],.i 1] λy=>
 Al true S<|wz 312 [.agg #[.l d.a d.n d.c,.p w],.s y]<|Qz jn Q m3 e0 key5)<|A1n jn Q key5):=by kernel_rfl
theorem Aal:Vg jn Q ((.p e0)::us 73 [])=(Ac e0 λe f=>Bb e f λb=>Bo e (f+1) λk=>Wx 315 [.agg #[.l b.a b.n b.c,.p k],.i 0] λg=>Ac e0 λh j=>Bb h j λd=>Bo h (j+1) λo=>wz 311 [.agg #[.l d.a d.n d.c,.p o],.i 1,.s g]<|Em λm=>Qz jn Q m e0 g):=by kernel_rfl
theorem Aak{f:Bool}:Vf jn Q ((.p e0)::us 27 ((.b f)::us 45 []))=(Aj f (Ac e0 λg h=>Bb g h λd=>Bo g (h+1) λo=>Wx 315 [.agg #[.l d.a d.n d.c,.p o],.i 2] λj=>Ac e0 λk m=>Bb k m λe=>Bo k (m+1) λq=>wz 312 [.agg #[.l e.a e.n e.c,.p q],.s j]<|Q<|.tuple #[.s j,.b true])<|A1m jn Q e0):=by kernel_rfl
theorem Ate:Aw jn PR IB f301 [.p e0] Q=(Bw 305 [.p e0] λr=>Aj (r==0) (Q<|.tuple #[.s Ae,.b false])<|A5 λS=>Ac e0 λo q=>Fg S o q λg=>EK S o (q+1) λt=>Ac e0 λu v=>Dj S u (v+3) λw=>Az [.i 0] 3 λx=>Al true S<|Bw 314 [.agg #[.l g.a g.n g.c,.p t],.l (some ⟨x,0,none⟩) 1 1] λh=>Al true S<|Aj (decide<|h<=w) (Ac e0 λe f=>Fg S e f λd=>EK S e (f+1) λj=>Az [.i 2] 3 λk=>
 Al true S<|Bw 314 [.agg #[.l d.a d.n d.c,.p j],.l (some ⟨k,0,none⟩) 1 1] λm=>Xx jn Q e0<|decide<|m>0)<|Al true S<|Xx jn Q e0 false):=by kernel_rfl
theorem Atf:Aw jn PR Aca f303 [.p e0,.s key1] Q=(Aj (isNone e0) (Q<|.b false)<|Ac e0 λe f=>Bb e f λd=>Bo e (f+1) λh=>Bw 310 [.agg #[.l d.a d.n d.c,.p h],.s key1] λg=>Aj (g==0) (Q<|.b true)<|Q<|.b<|g==2):=by kernel_rfl
theorem Atg:Aw jn PR Aca f304 [.p e0] Q=(Aj (isNone e0) (Q<|.l none 0 0)<|Ac e0 λe f=>Bb e f λb=>Bo e (f+1) λg=>Az [.i 0,.i 2] 3 λh=>GW 316 [.agg #[.l b.a b.n b.c,.p g],.l (some ⟨h,0,none⟩) 2 2] λd=>Q<|.l d.a d.n d.c):=by kernel_rfl
theorem Ath:Aw jn PR Aca f305 [.p e0] Q=(Aj (isNone e0) (Q<|.i 0)<|Ac e0 λd e=>Bb d e λb=>Bo d (e+1) λf=>Az [.i 0,.i 2] 3 λg=>Bw 314 [.agg #[.l b.a b.n b.c,.p f],.l (some ⟨g,0,none⟩) 2 2] λh=>Q<|.i h):=by kernel_rfl
theorem Aam:Vi jn Q ((.p e0)::(.s key1)::us 25 [])=(Ac e0 λe f=>Bb e f λd=>Bo e (f+1) λg=>wz 311 [.agg #[.l d.a d.n d.c,.p g],.i 2,.s key1]<|Q<|.b true):=by kernel_rfl
theorem Ati:Aw jn PR Ai4 f306 [.p e0,.s key1] Q=(A5 λS=>Aj (isNone e0) (Al true S<|Al true S<|Q<|.b false)<|Ey 303 [.p e0,.s key1] λa=>Al true S<|Aj a (Al true S<|Q<|.b false)<|Ac e0 λc d=>Dj S c (d+2) λe=>Bw 305 [.p e0] λf=>Al true S<|Aj (f==e) (Q<|.b false)<|A1o jn Q e0 key1):=by kernel_rfl
theorem Atj:Aw jn PR Aca f307 [.p e0,.s key1] Q=(Ey 303 [.p e0,.s key1] λg=>Aj (!g) (Q<|.b false)<|Ac e0 λe f=>Bb e f λd=>Bo e (f+1) λh=>wz 312 [.agg #[.l d.a d.n d.c,.p h],.s key1]<|Q<|.b true):=by kernel_rfl
theorem Atk:Aw jn PR Aca f308 [.p e0] Q=(Aj (isNone e0) (Q<|.i 0)<|Ac e0 λa b=>A0 a (b+2) λc=>Q<|.i c):=by kernel_rfl
theorem Atl:Aw jn PR A1q f313 [.p e0] Q=(A5 λS=>Ac e0 λa b=>Dj S a (b+2) λc=>Bw 305 [.p e0] λd=>Al true S<|Aj (decide<|d<c) (Q<|.l none 0 0)<|Fv 301 [.p e0] λe g=>Az [.s e] 9 λf=>Q<|.l (some ⟨f,0,none⟩) 1 1):=by kernel_rfl
theorem Oh:Vk jn Q (us 80 [])=(Q<|.tuple #[.b true,.l none 0 0]):=by kernel_rfl
theorem Oi:Q0 jn Q (m2+1) e0=(A5 λS=>Ac e0 λf g=>Fg S f g λb=>EK S f (g+1) λo=>Ac e0 λq r=>Dj S q (r+5) λt=>Az [.i 2] 3 λu=>Al true S<|Bw 336 [.agg #[.l b.a b.n b.c,.p o],.l (some ⟨u,0,none⟩) 1 1] λv=>Al true S<|Aj (decide<|v>t) (A5 λS=>Ac e0 λh j=>Fg S h j λd=>EK S h (j+1) λw=>Ac e0 λk m=>Bb k m λe=>Bo k (m+1) λx=>Al true S<|Wx 337 [.agg #[.l e.a e.n e.c,.p x],.i 2] λy=>
 Al true S<|wz 335 [.agg #[.l d.a d.n d.c,.p w],.i 1,.s y]<|Q0 jn Q m2 e0)<|A1z jn Q):=by kernel_rfl
theorem Aar:Vm jn Q (us 7 ((.l gone7.a gone7.n gone7.c)::us 72 []))=(Q<|.tuple #[.b false,.l gone7.a gone7.n gone7.c]):=by kernel_rfl
theorem Oj{r:Nat}:Q1 jn Q (r+1) e0 gone7=(A5 λS=>Ac e0 λe f=>Fg S e f λb=>EK S e (f+1) λg=>Ac e0 λh j=>Dj S h (j+3) λk=>Az [.i 0] 3 λm=>Al true S<|Bw 336 [.agg #[.l b.a b.n b.c,.p g],.l (some ⟨m,0,none⟩) 1 1] λo=>Al true S<|Aj (decide<|o>k) (GW 338 [.p e0] λd=>Bl 9 1 16 [.s Ae] ⟨gone7.a,gone7.n,gone7.c⟩ d.n (λw=>H3 w d.a<|d.n*1) λq=>Q1 jn Q r e0 q)<|A11 jn Q gone7):=by kernel_rfl
theorem Aaq:Vl jn Q ((.p e0)::(.s key1)::us 78 [])=(Ac e0 λd e=>Bb d e λb=>Bo d (e+1) λf=>wz 335 [.agg #[.l b.a b.n b.c,.p f],.i 0,.s key1]<|Em λm=>Q1 jn Q m e0 ⟨none,0,0⟩):=by kernel_rfl
theorem Og{e:Bool}:Vj jn Q ((.p e0)::(.s key1)::us 26 ((.b e)::us 51 []))=(Aj e (Ac e0 λf g=>Bb f g λd=>Bo f (g+1) λh=>wz 335 [.agg #[.l d.a d.n d.c,.p h],.i 2,.s key1]<|Em λm=>Q0 jn Q m e0)<|A10 jn Q e0 key1):=by kernel_rfl
theorem Atp:Aw jn PR FO f323 [.p e0,.s key1] Q=(Aj (isNone e0) (Q<|.tuple #[.b false,.l none 0 0])<|wz 333 [.p e0,.s key1]<|Ac e0 λg h=>Bb g h λe=>Bo g (h+1) λm=>Bw 334 [.agg #[.l e.a e.n e.c,.p m],.s key1] λd=>Aj (d==0) (Ac e0 λj k=>Bb j k λf=>Bo j (k+1) λo=>wz 335 [.agg #[.l f.a f.n f.c,.p o],.i 0,.s key1]<|Q<|.tuple #[.b true,.l none 0 0])<|Aj (d==1) (X0 jn Q e0 key1<|d==1)<|X0 jn Q e0 key1<|d==2):=by kernel_rfl
theorem Atq:Aw jn PR Aca f324 [.p e0] Q=(Bw 328 [.p e0] λo=>Aj (o==0) (Q<|.tuple #[.s Ae,.b false])<|Gk 339 [.p e0] λq t=>Ac e0 λh j=>Bb h j λf=>Bo h (j+1) λr=>Wx 337 [.agg #[.l f.a f.n f.c,.p r],.i q] λk=>Ac e0 λm e=>Bb m e λd=>Bo m (e+1) λg=>wz 340 [.agg #[.l d.a d.n d.c,.p g],.s k]<|Q<|.tuple #[.s k,.b true]):=by kernel_rfl
theorem Atr:Aw jn PR Aca f326 [.p e0,.s key1] Q=(Aj (isNone e0) (Q<|.b false)<|Ac e0 λf g=>Bb f g λd=>Bo f (g+1) λh=>Bw 334 [.agg #[.l d.a d.n d.c,.p h],.s key1] λe=>Aj (e==0) (Q<|.b true)<|Aj (e==1) (Q<|.b true)<|Q<|.b<|e==2):=by kernel_rfl
theorem Ats:Aw jn PR Aca f327 [.p e0] Q=(Aj (isNone e0) (Q<|.l none 0 0)<|Ac e0 λe f=>Bb e f λb=>Bo e (f+1) λg=>Az [.i 0,.i 1,.i 2] 3 λh=>GW 341 [.agg #[.l b.a b.n b.c,.p g],.l (some ⟨h,0,none⟩) 3 3] λd=>Q<|.l d.a d.n d.c):=by kernel_rfl
theorem Att:Aw jn PR Aca f328 [.p e0] Q=(Aj (isNone e0) (Q<|.i 0)<|Ac e0 λd e=>Bb d e λb=>Bo d (e+1) λf=>Az [.i 0,.i 1,.i 2] 3 λg=>Bw 336 [.agg #[.l b.a b.n b.c,.p f],.l (some ⟨g,0,none⟩) 3 3] λh=>Q<|.i h):=by kernel_rfl
theorem Aas:Vn jn Q ((.p e0)::(.s key1)::us 42 [])=(A5 λS=>Ac e0 λw x=>Fg S w x λk=>EK S w (x+1) λy=>Ac e0 λm o=>Dj S m (o+4) λq=>Az [.i 1,.i 2] 3 λr=>Al true S<|Bw 336 [.agg #[.l k.a k.n k.c,.p y],.l (some ⟨r,0,none⟩) 2 2] λt=>Al true S<|Aj (decide<|t<q) (Ac e0 λf g=>Bb f g λd=>Bo f (g+1) λu=>wz 335 [.agg #[.l d.a d.n d.c,.p u],.i 1,.s key1]<|Q<|.b true) (Ac e0 λh j=>
 Bb h j λe=>Bo h (j+1) λv=>wz 335 [.agg #[.l e.a e.n e.c,.p v],.i 0,.s key1]<|Q<|.b true)):=by kernel_rfl
theorem Atu:Aw jn PR Ai6 f329 [.p e0,.s key1] Q=(A5 λS=>Aj (isNone e0) (Al true S<|Al true S<|Q<|.b false)<|Ey 326 [.p e0,.s key1] λa=>Al true S<|Aj a (Al true S<|Q<|.b false)<|Ac e0 λc d=>Dj S c (d+2) λe=>Bw 328 [.p e0] λf=>Al true S<|Aj (f==e) (Q<|.b false)<|A12 jn Q e0 key1):=by kernel_rfl
theorem Atv:Aw jn PR Aca f330 [.p e0,.s key1] Q=(Ey 326 [.p e0,.s key1] λg=>Aj (!g) (Q<|.b false)<|Ac e0 λe f=>Bb e f λd=>Bo e (f+1) λh=>wz 340 [.agg #[.l d.a d.n d.c,.p h],.s key1]<|Q<|.b true):=by kernel_rfl
theorem Atw:Aw jn PR Aca f331 [.p e0] Q=(Aj (isNone e0) (Q<|.i 0)<|Ac e0 λa b=>A0 a (b+2) λc=>Q<|.i c):=by kernel_rfl
theorem Atx:Aw jn PR Aca f333 [.p e0,.s key1] Q=(Ac e0 λj k=>Bo j (k+7) λl=>Ey 342 [.p l,.s key1] λm=>Aj (!m) (Q<|.tuple #[])<|Ac e0 λn o=>Bo n (o+6) λq=>Bw 343 [.p q] λr=>Ac e0 λt a=>Bo t (a+6) λb=>wz 344 [.p b,.s key1]<|Ac e0 λc d=>Bo c (d+6) λe=>Bw 343 [.p e] λf=>Aj (decide<|f<r) (Ac e0 λg h=>Bo g (h+7) λi=>wz 345 [.p i]<|
 Q (.tuple #[]))<|Q<|.tuple #[]):=by kernel_rfl
theorem Aat:Vp jn Q ((.p e0)::us 2 ((.s key3)::(.i row4)::us 75 []))=(Ac e0 λf g=>Bb f g λb=>Bo f (g+1) λq=>Wx 337 [.agg #[.l b.a b.n b.c,.p q],.i row4] λh=>Ac e0 λj k=>Bb j k λd=>Bo j (k+1) λr=>wz 340 [.agg #[.l d.a d.n d.c,.p r],.s h]<|Ac e0 λm o=>Bb m o λe=>Bo m (o+1) λt=>wz 335 [.agg #[.l e.a e.n e.c,.p t],.i 1,.s key3]<|Az [.s h] 9 λu=>
 Q (.l (some ⟨u,0,none⟩) 1 1)):=by kernel_rfl
theorem Ol:Vo jn Q ((.p e0)::us 2 ((.s key3)::(.i row4)::us 30 ((.b t35)::us 44 [])))=(Aj t35 (Ac e0 λe f=>Bb e f λd=>Bo e (f+1) λg=>wz 340 [.agg #[.l d.a d.n d.c,.p g],.s key3]<|Az [.s key3] 9 λh=>Q<|.l (some ⟨h,0,none⟩) 1 1)<|A16 jn Q e0 key3 row4):=by kernel_rfl
theorem Aty:Aw jn PR Q3 f338 [.p e0] Q=(Ac e0 λC D=>Bb C D λm=>Bo C (D+1) λG=>Wx 337 [.agg #[.l m.a m.n m.c,.p G],.i 0] λk=>Gk 339 [.p e0] λo H=>A5 λS=>Ac e0 λE F=>Fg S E F λb=>EK S E (F+1) λq=>Ac e0 λr t=>Dj S r (t+4) λu=>Az [.i 1,.i 2] 3 λv=>Al true S<|Bw 336 [.agg #[.l b.a b.n b.c,.p q],.l (some ⟨v,0,none⟩) 2 2] λw=>Al true S<|
 Aj (decide<|w<u) (Ac e0 λf g=>Bb f g λd=>Bo f (g+1) λx=>wz 335 [.agg #[.l d.a d.n d.c,.p x],.i 1,.s k]<|Q<|.l none 0 0) (A5 λS=>Aj (!H) (Al true S<|Q2 jn Q e0 k o true)<|Ac e0 λh j=>Fg S h j λe=>EK S h (j+1) λy=>Bw 348 [.p e0,.s k] λz=>Al true S<|Wx 337 [.agg #[.l e.a e.n e.c,.p y],.i o] λA=>Bw 348 [.p e0,.s A] λB=>Q2 jn Q e0 k o<|decide<|z<=B)):=by kernel_rfl
theorem Aau:Vq jn Q (us 22 [])=(Q<|.tuple #[.i 0,.b false]):=by kernel_rfl
theorem Jz{e:Sl}{t7 d:Int}:XA jn Q (m1+1) e0 e t7 d=(Aj (decide<|d<t7) (CU e.a e.n d λm o=>A0 m (o+d.toNat*1) λh=>Ac e0 λj k=>Bb j k λf=>Bo j (k+1) λq=>Az [.i h] 3 λr=>Bw 336 [.agg #[.l f.a f.n f.c,.p q],.l (some ⟨r,0,none⟩) 1 1] λg=>Aj (decide<|g>0) (Q<|.tuple #[.i h,.b true])<|XA jn Q m1 e0 e t7<|wrap .i64<|d+1)<|A18 jn Q):=by kernel_rfl
theorem Atz:Aw jn PR Q4 f339 [.p e0] Q=(Az [.i 1,.i 2] 3 λa=>Em λm=>XA jn Q m e0 ⟨(some ⟨a,0,none⟩),2,2⟩ 2 0):=by kernel_rfl
theorem Aav:Vr jn Q (us 5 ((.b was5)::us 30 []))=(Q<|.b was5):=by kernel_rfl
theorem Om{b:Int}:Q6 jn Q (m1+1) d0 key1 was5 b=(Aj (decide<|b<3) (GC (.int .i64) (.int .u64) PR 351 [.p d0,.i b,.s key1] λ(c:Int)(g:Int)=>Ac d0 λh j=>Bb h j λd=>CU d.a d.n c λk l=>DX k (l+c.toNat*1) λm=>CU d.a d.n c λe f=>st e (f+c.toNat*1) (.int .u64<|bits .or .u64 m g)<|Q6 jn Q m1 d0 key1 was5<|wrap .i64<|b+1)<|A2d jn Q was5):=by kernel_rfl
theorem At0:Aw jn PR Q5 f342 [.p d0,.s key1] Q=(Aj (isNone d0) (Q<|.b false)<|Ey 350 [.p d0,.s key1] λa=>Em λm=>Q6 jn Q m d0 key1 a 0):=by kernel_rfl
theorem At1:Aw jn PR Aca f343 [.p s0] Q=(Aj (isNone s0) (Q<|.i 0)<|Ac s0 λa b=>A0 a (b+2) λc=>Q<|.i c):=by kernel_rfl
theorem Aaw:Vs jn Q ((.p s0)::us 51 [])=(Ac s0 λl a=>A0 l (a+2) λb=>Ac s0 λc d=>st c (d+2) (.i<|wrap .i64<|b+1)<|A5 λS=>Ac s0 λe f=>Dj S e (f+2) λg=>Ac s0 λh j=>A0 h j λk=>Al true S<|Aj (g==(wrap .i64<|10*k)) (wz 356 [.p s0]<|Q<|.tuple #[])<|Q<|.tuple #[]):=by kernel_rfl
theorem On{f a b c d e:Int}:LU jn Q (m1+1) s0 f a b c d e=(Aj (decide<|e<4) (AV ((0:Int)<=e/\e<((4:Nat):Int))<|λw=>∃g:Int,([.i a,.i b,.i c,.i d]:List Value)[e.toNat]? = some (.i g)/\isU (.i g)=false/\(Bw 354 [.p s0,.i g] λh=>Aj (decide<|h<=f) (Bw 119 [.i h,.i 15] λj=>wz 355 [.p s0,.i g,.i j]<|LU jn Q m1 s0 f a b c d<|wrap .i64<|e+1) (
 LU jn Q m1 s0 f a b c d (wrap .i64<|e+1))) w)<|A2f jn Q s0):=by kernel_rfl
theorem At2:Aw jn PR Q7 f344 [.p s0,.s key1] Q=(Aj (isNone s0) (Q<|.tuple #[])<|Bw 352 [.p s0,.s key1] λa=>Aj (a==15) (Q<|.tuple #[]) (λw=>Ai PR 353 #[.p s0,.s key1] w λe w'=>∃b:Int,∃c:Int,∃d:Int,∃f:Int,e = .returned (.agg #[.i b,.i c,.i d,.i f])/\(Em λm=>LU jn Q m s0 a b c d f 0) w')):=by kernel_rfl
theorem At3:Aw jn PR Aca f345 [.p d0] Q=(Aj (!isNone d0) (Ac d0 λc d=>Bb c d λb=>Ayt [.int .u64 0] b.a b.n<|Q<|.tuple #[])<|Q<|.tuple #[]):=by kernel_rfl
end Go.Proofs.YtjipofkjmmpjdaaGreat
namespace Go.Proofs.YtjipofkjmmpjdaaGreat
open Go.Hb
section
variable(jn:Jn)(Q:VW)
def Q8:KP:=⟨[(11,[0,1,10]),(22,[])],[]⟩
def A2h:EW:=sE f350 Q8 jn Q [1,1,1] (rE f350 Q) A8
def Vt:EW:=cE f350 Q8 jn Q [1,1,1] (rE f350 Q) A8
def A2i:WP:=jn 22 (Vt jn Q) (us 31 [])
def Q9(m1:Nat)(c:OA)(a:BA)(b:Int):WP:=Dl PR Q8 jn (bE f350 [1,1,0,1,0,0]) (AA 0 (A2h jn Q) A8) (rE f350 Q) m1 ((.p c)::(.s a)::us 8 ((.i b)::us 20 []))
def A2j:KP:=⟨[],[(1,[0,1,2,3,5,6,7,8,9,10,12]),(2,[0,1,2,3,4,5,6])]⟩
def QA:KP:=⟨[(13,[0,5,12,13]),(20,[5])],[]⟩
def A2k:EW:=sE f352 QA jn Q [1,1,1,1] (rE f352 Q) A8
def Vu:EW:=cE f352 QA jn Q [1,1,1,1] (rE f352 Q) A8
def A2l(a:Int):WP:=jn 20 (Vu jn Q) (us 5 ((.i a)::us 17 []))
def QB(m1:Nat)(s0:OA)(e a b c d f:Int):WP:=Dl PR QA jn (bE f352 [1,1,1,0,1,0,0]) (AA 0 (A2k jn Q) A8) (rE f352 Q) m1 ((.p s0)::us 4 ((.i e)::us 6 ((.agg #[.i a,.i b,.i c,.i d])::(.i f)::us 9 [])))
def QC:KP:=⟨[(9,[0,1,4,5,7]),(16,[4,5])],[(5,[0,1,2,3,4,5,6,7,8,9,10,12,13,14,15,17,18])]⟩
def A2m:EW:=sE f353 QC jn Q [1,1,1] (rE f353 Q) A8
def Vv:EW:=cE f353 QC jn Q [1,1,1] (rE f353 Q) A8
def A2n(a b c d:Nat):WP:=jn 16 (Vv jn Q) (us 4 ((pq a b)::(pq c d)::us 25 []))
def QD(m1:Nat)(s0:OA)(a:BA)(b c d e:Nat)(t7:Int):WP:=Dl PR QC jn (bE f353 [1,1,0,1,0,0]) (AA 0 (A2m jn Q) A8) (rE f353 Q) m1 ((.p s0)::(.s a)::us 2 ((pq b c)::(pq d e)::us 1 ((.i t7)::us 23 [])))
def A2o:KP:=⟨[],[(1,[0,1,2,3,4,5,6,7,8,10,11,12,14,15,16,17,18,19,20,21,22])]⟩
def QE:KP:=⟨[(7,[0,9,10]),(14,[0])],[]⟩
def A2p:EW:=sE f356 QE jn Q [1,1] (rE f356 Q) A8
def Vw:EW:=cE f356 QE jn Q [1,1] (rE f356 Q) A8
def A2q(s0:OA):WP:=jn 14 (Vw jn Q) ((.p s0)::us 27 [])
def QF(m1:Nat)(s0:OA)(b a:Int):WP:=Dl PR QE jn (bE f356 [1,0,1,0,0]) (AA 0 (A2p jn Q) A8) (rE f356 Q) m1 ((.p s0)::us 8 ((.i b)::(.i a)::us 17 []))
def Ai8(m1:Nat):EW:=JG PR AE jn (bE f357 [1,1,1,0,0]) (AA 0 (rE f357 Q) A8) (rE f357 Q) m1
def LV(m1:Nat):EW:=sE f357 AE jn Q [1,1,1,0,0,1] (Ai8 jn Q m1) (AA 0 (rE f357 Q) A8)
def A2r(m1:Nat):Nat->EW:=AA 1 (LV jn Q m1) (AA 0 (rE f357 Q) A8)
def XB(m1:Nat):Nat->EW:=AA 2 (LV jn Q m1) (A2r jn Q m1)
def Amc(m1:Nat):EW:=cE f357 AE jn Q [1,1,1,0,0,1] (Ai8 jn Q m1) (AA 0 (rE f357 Q) A8)
def Amd(m1:Nat):EW:=cE f357 AE jn Q [1,1,1,0,0,0,0,1,0,1,1,1,1,1] (LV jn Q m1) (XB jn Q m1)
def Amb(m1:Nat):EW:=cE f357 AE jn Q [1,1,1,0,0,0,0,1,0,1,1,1] (LV jn Q m1) (XB jn Q m1)
def Ama(m1:Nat):EW:=cE f357 AE jn Q [1,1,1,0,0,0,0,1,0,1] (LV jn Q m1) (XB jn Q m1)
def A2s(m1:Nat)(x0:OA)(b:BA)(a c:Int):WP:=Dl PR AE jn (bE f357 [1,1,1,0,0]) (AA 0 (rE f357 Q) A8) (rE f357 Q) m1 ((.p x0)::(.s b)::us 4 ((.i a)::(.i c)::us 71 []))
def Ame:EW:=cE f358 EG jn Q [1,1] (rE f358 Q) A8
def A2t(m1:Nat)(x0:OA)(b:Sl)(d e:Int):WP:=Dl PR DQ jn (bE f359 [1,1,1,0,0]) (AA 0 (rE f359 Q) A8) (rE f359 Q) m1 ((.p x0)::us 27 ((.l b.a b.n b.c)::(.i d)::(.i e)::us 21 []))
def QG:KP:=⟨[(19,[0,1,8]),(24,[0,1,8])],[(5,[0,1,2,3,4,5]),(8,[0,2,3,4,5,6])]⟩
def Aud:EW:=sE f360 QG jn Q [1,1,1,1,1] (rE f360 Q) A8
def Vx:EW:=cE f360 QG jn Q [1,1,1,1,1] (rE f360 Q) A8
def Ai9(e:OA)(d:BA)(b:Sl):WP:=jn 24 (Vx jn Q) ((.p e)::(.s d)::us 6 ((.l b.a b.n b.c)::us 53 []))
def QH(m1:Nat)(e:OA)(d:BA)(b:Sl):WP:=Dl PR QG jn (bE f360 [1,1,1,1,0,0,0]) (AA 0 (Aud jn Q) A8) (rE f360 Q) m1 ((.p e)::(.s d)::us 6 ((.l b.a b.n b.c)::us 53 []))
def XD:KP:=⟨[(10,[0,28])],[(3,[0,1,2,3,6,7,8,9,10,11,12,13,14,15,18,19])]⟩
def A2v:EW:=sE f361 XD jn Q [1,1,1] (rE f361 Q) A8
def Vy:EW:=cE f361 XD jn Q [1,1,0,1] (A2v jn Q) A8
def XC(c:OA)(a:Bool):WP:=jn 10 (Vy jn Q) ((.p c)::us 27 ((.b a)::us 9 []))
def A2w:KP:=⟨[],[(1,[0,1,2,3,4,6,7,8,10,11,12,13,14,15])]⟩
def A2y:EW:=sE f372 Bx jn Q [1,1,1] (rE f372 Q) A8
def Amf:EW:=cE f372 Bx jn Q [1,1,1] (rE f372 Q) A8
def A2z(m1:Nat)(b d:Nat)(g:Int)(e:Sl)(h f:Int):WP:=Dl PR Bx jn (bE f372 [1,1,0,1,0,0]) (AA 0 (A2y jn Q) A8) (rE f372 Q) m1 (us 2 ((pq b d)::us 2 ((.i g)::us 2 ((.l e.a e.n e.c)::(.i h)::(.i f)::us 13 []))))
def Hh:KP:=⟨[(5,[0]),(19,[0,4]),(22,[4]),(24,[])],[(8,[0,1,2,3,6,7,8,9,10]),(9,[0,1,2,3,4,5,6])]⟩
def XF:EW:=sE f373 Hh jn Q [1,1] (rE f373 Q) A8
def XG(m1:Nat):EW:=JG PR Hh jn (bE f373 [1,0,0,0]) (AA 0 (XF jn Q) A8) (rE f373 Q) m1
def XH(m1:Nat):Nat->EW:=AA 1 (XG jn Q m1) (AA 0 (XF jn Q) A8)
def Aun(m1:Nat):EW:=sE f373 Hh jn Q [1,0,0,0,1,0,1,1,1,1,1] (XG jn Q m1) (XH jn Q m1)
def Auo(m1:Nat):Nat->EW:=AA 2 (Aun jn Q m1) (XH jn Q m1)
def Vz(m1:Nat):EW:=cE f373 Hh jn Q [1,0,0,0,1,0,1,1,1,1,1] (XG jn Q m1) (XH jn Q m1)
def A20(m1:Nat)(a:BA):WP:=jn 22 (Vz jn Q m1) (us 4 ((.s a)::us 59 []))
def QJ(m1 m2:Nat)(b:OA)(a:BA):WP:=Dl PR Hh jn (bE f373 [1,0,0,0,1,0,1,1,1,1,0,0,0]) (Auo jn Q m1) (rE f373 Q) m2 ((.p b)::us 3 ((.s a)::us 59 []))
def V1:EW:=cE f373 Hh jn Q [1,1] (rE f373 Q) A8
def A21:WP:=jn 24 (V1 jn Q) (us 64 [])
def QI(m1:Nat)(a:OA):WP:=Dl PR Hh jn (bE f373 [1,0,0,0]) (AA 0 (XF jn Q) A8) (rE f373 Q) m1 ((.p a)::us 63 [])
def Aja:KP:=⟨[(5,[0])],[]⟩
def QK(m1:Nat)(a:OA):WP:=Dl PR Aja jn (bE f374 [1,0,0]) (AA 0 (rE f374 Q) A8) (rE f374 Q) m1 ((.p a)::us 30 [])
def A22:EW:=sE f375 Bx jn Q [1,1,1] (rE f375 Q) A8
def Amg:EW:=cE f375 Bx jn Q [1,1,1] (rE f375 Q) A8
def A23(m1:Nat)(b d:Nat)(e f:Sl)(h g:Int):WP:=Dl PR Bx jn (bE f375 [1,1,0,1,0,0]) (AA 0 (A22 jn Q) A8) (rE f375 Q) m1 (us 2 ((pq b d)::us 2 ((.l e.a e.n e.c)::us 2 ((.l f.a f.n f.c)::(.i h)::(.i g)::us 13 []))))
def Amh:EW:=cE f377 EF jn Q [1,1] (rE f377 Q) A8
def Ajb(m1:Nat):EW:=JG PR AE jn (bE f381 [1,1,1,0,0]) (AA 0 (rE f381 Q) A8) (rE f381 Q) m1
def LY(m1:Nat):EW:=sE f381 AE jn Q [1,1,1,0,0,1] (Ajb jn Q m1) (AA 0 (rE f381 Q) A8)
def A24(m1:Nat):Nat->EW:=AA 1 (LY jn Q m1) (AA 0 (rE f381 Q) A8)
def XI(m1:Nat):Nat->EW:=AA 2 (LY jn Q m1) (A24 jn Q m1)
def Amk(m1:Nat):EW:=cE f381 AE jn Q [1,1,1,0,0,1] (Ajb jn Q m1) (AA 0 (rE f381 Q) A8)
def Aml(m1:Nat):EW:=cE f381 AE jn Q [1,1,1,0,0,0,0,1,0,1,1,1,1,1] (LY jn Q m1) (XI jn Q m1)
def Amj(m1:Nat):EW:=cE f381 AE jn Q [1,1,1,0,0,0,0,1,0,1,1,1] (LY jn Q m1) (XI jn Q m1)
def Ami(m1:Nat):EW:=cE f381 AE jn Q [1,1,1,0,0,0,0,1,0,1] (LY jn Q m1) (XI jn Q m1)
def A25(m1:Nat)(x0:OA)(b:BA)(a c:Int):WP:=Dl PR AE jn (bE f381 [1,1,1,0,0]) (AA 0 (rE f381 Q) A8) (rE f381 Q) m1 ((.p x0)::(.s b)::us 4 ((.i a)::(.i c)::us 71 []))
def Amm:EW:=cE f384 EG jn Q [1,1] (rE f384 Q) A8
def A26(m1:Nat)(x0:OA)(b:Sl)(d e:Int):WP:=Dl PR DQ jn (bE f385 [1,1,1,0,0]) (AA 0 (rE f385 Q) A8) (rE f385 Q) m1 ((.p x0)::us 27 ((.l b.a b.n b.c)::(.i d)::(.i e)::us 21 []))
end
variable{jn:Jn}{Q:VW}{e0 s0 d0:OA}{key1 key2 key4:BA}{m1 t4b t4o l5b l5o:Nat}{i1 t10 low5:Int}{gone8:Sl}
theorem At4:Aw jn PR Aca f348 [.p e0,.s key1] Q=(Ac e0 λb c=>Bo b (c+6) λd=>Bw 352 [.p d,.s key1] λa=>Ac e0 λe f=>Bo e (f+7) λg=>Ey 350 [.p g,.s key1] λh=>Aj h (Q<|.i<|wrap .i64<|a+1)<|Q<|.i a):=by kernel_rfl
theorem Aay:Vt jn Q (us 31 [])=(Q<|.b true):=by kernel_rfl
theorem Oo:Q9 jn Q (m1+1) d0 key1 t10=(Aj (decide<|t10<3) (GC (.int .i64) (.int .u64) PR 351 [.p d0,.i t10,.s key1] λ(c:Int)(e:Int)=>Ac d0 λf g=>Bb f g λd=>CU d.a d.n c λh j=>DX h (j+c.toNat*1) λk=>Aj ((bits .and .u64 k e)==0) (Q<|.b false)<|Q9 jn Q m1 d0 key1<|wrap .i64<|t10+1)<|A2i jn Q):=by kernel_rfl
theorem At6:Aw jn PR Q8 f350 [.p d0,.s key1] Q=(Aj (isNone d0) (Q<|.b false)<|Em λm=>Q9 jn Q m d0 key1 0):=by kernel_rfl
theorem At7:Aw jn PR A2j f351 [.p d0,.i i1,.s key2] Q=(A5 λS=>Ac d0 λb c=>Fg S b c λd=>wcu 117 [.int .u64<|wrap .u64<|wrap .i64<|11+i1,.s key2] λe=>Al true S<|Bw 116 [.int .u64 e,.i<|wrap .i64<|64*(d.n:Int)] λa=>A5 λS=>AV ((64:Int)≠0)<|AV ((64:Int)≠0)<|AV ((0:Int)<=(tmod a (64:Int)))<|Q<|.tuple #[.i<|wrap .i64<|tdiv a 64,.int .u64<|HJ .u64 1<|tmod a 64]):=by kernel_rfl
theorem Aaz:Vu jn Q (us 5 ((.i low5)::us 17 []))=(Q<|.i low5):=by kernel_rfl
theorem Oq{a b c d e:Int}:QB jn Q (m1+1) s0 low5 a b c d e=(Aj (decide<|e<4) (AV ((0:Int)<=e/\e<((4:Nat):Int))<|λw=>∃f:Int,([.i a,.i b,.i c,.i d]:List Value)[e.toNat]? = some (.i f)/\isU (.i f)=false/\(Bw 354 [.p s0,.i f] λg=>QB jn Q m1 s0 (if g<low5 then g else low5) a b c d<|wrap .i64<|e+1) w)<|A2l jn Q low5):=by kernel_rfl
theorem At8:Aw jn PR QA f352 [.p s0,.s key1] Q=(Aj (isNone s0) (Q<|.i 0) (λw=>Ai PR 353 #[.p s0,.s key1] w λe w'=>∃a:Int,∃b:Int,∃c:Int,∃d:Int,e = .returned (.agg #[.i a,.i b,.i c,.i d])/\(Em λm=>QB jn Q m s0 15 a b c d 0) w')):=by kernel_rfl
theorem Aa0:Vv jn Q (us 4 ((pq t4b t4o)::(pq l5b l5o)::us 25 []))=(A0 l5b l5o λa=>A0 l5b (l5o+1) λb=>A0 l5b ((l5o+1)+1) λc=>A0 l5b (((l5o+1)+1)+1) λd=>st t4b t4o (.i a)<|st t4b (t4o+1) (.i b)<|st t4b ((t4o+1)+1) (.i c)<|st t4b (((t4o+1)+1)+1) (.i d)<|A0 t4b t4o λe=>A0 t4b (t4o+1) λf=>A0 t4b ((t4o+1)+1) λg=>A0 t4b (((t4o+1)+1)+1) λh=>Q<|.agg #[.i e,.i f,.i g,.i h]):=by kernel_rfl
theorem Ot{t7:Int}:QD jn Q (m1+1) s0 key1 t4b t4o l5b l5o t7=(Aj (decide<|t7<4) (A5 λS=>Ac s0 λb c=>Dj S b c λd=>Ac s0 λe f=>Dj S e f λg=>wcu 117 [.int .u64<|wrap .u64<|wrap .i64<|t7+1,.s key1] λh=>Al true S<|Bw 116 [.int .u64 h,.i g] λa=>Al true S<|AV ((0:Int)<=t7/\t7<((4:Nat):Int))<|st l5b (l5o+t7.toNat*1) (.i<|wrap .i64<|(wrap .i64<|t7*d)+a)<|QD jn Q m1 s0 key1 t4b t4o l5b l5o<|wrap .i64<|t7+1) (
 A2n jn Q t4b t4o l5b l5o)):=by kernel_rfl
theorem At9:Aw jn PR QC f353 [.p s0,.s key1] Q=(Az [.i 0,.i 0,.i 0,.i 0] 405 λa=>Az [.i 0,.i 0,.i 0,.i 0] 405 λb=>Em λm=>QD jn Q m s0 key1 a 0 b 0 0):=by kernel_rfl
theorem Aua:Aw jn PR Aca f354 [.p s0,.i i1] Q=(Ac s0 λc d=>Bb c (d+1) λb=>AV ((2:Int)≠0)<|CU b.a b.n (wrap .i64<|tdiv i1 2) λe f=>ld (.int .u8) e (f+((wrap .i64<|tdiv i1 (2:Int))).toNat*1) λ(g:Int)=>AV ((2:Int)≠0)<|AV ((0:Int)<=(wrap .i64<|(tmod i1 (2:Int))*(4:Int)))<|Q<|.i<|bits .and .i64 (wrap .i64<|CV .u8 g<|wrap .i64<|(tmod i1 2)*4) 15):=by kernel_rfl
theorem Aub{d:Int}:Aw jn PR A2o f355 [.p s0,.i i1,.i d] Q=(AV ((2:Int)≠0)<|A5 λS=>Ac s0 λg h=>Fg S g (h+1) λe=>AV ((2:Int)≠0)<|Ac s0 λj k=>AV ((2:Int)≠0)<|AV ((0:Int)<=(wrap .i64<|(tmod i1 (2:Int))*(4:Int)))<|AV ((0:Int)<=(wrap .i64<|(tmod i1 (2:Int))*(4:Int)))<|Bb j (k+1) λf=>Al true S<|CU f.a f.n (wrap .i64<|tdiv i1 2) λl m=>ld (.int .u8) l (m+((wrap .i64<|tdiv i1 (2:Int))).toNat*1) λ(o:Int)=>Al true S<|CU e.a e.n (wrap .i64<|tdiv i1 2) λb c=>
 st b (c+((wrap .i64<|tdiv i1 (2:Int))).toNat*1) (.int .u8<|bits .or .u8 (bits .andNot .u8 o<|HJ .u8 15<|wrap .i64<|(tmod i1 2)*4)<|HJ .u8 (wrap .u8 d)<|wrap .i64<|(tmod i1 2)*4)<|Q<|.tuple #[]):=by kernel_rfl
theorem Aa1:Vw jn Q ((.p s0)::us 27 [])=(Ac s0 λa b=>A0 a (b+2) λc=>AV ((2:Int)≠0)<|Ac s0 λd e=>st d (e+2) (.i<|wrap .i64<|tdiv c 2)<|Q<|.tuple #[]):=by kernel_rfl
theorem Ou{a:Int}:QF jn Q (m1+1) s0 a t10=(Aj (decide<|t10<a) (Bw 354 [.p s0,.i t10] λb=>AV ((2:Int)≠0)<|wz 355 [.p s0,.i t10,.i<|wrap .i64<|tdiv b 2]<|QF jn Q m1 s0 a<|wrap .i64<|t10+1)<|A2q jn Q s0):=by kernel_rfl
theorem Auc:Aw jn PR QE f356 [.p s0] Q=(Aj (isNone s0) (Q<|.tuple #[])<|Ac s0 λa b=>A0 a b λc=>Em λm=>QF jn Q m s0 (wrap .i64<|4*c) 0):=by kernel_rfl
theorem Aa2:Vx jn Q ((.p e0)::(.s key1)::us 6 ((.l gone8.a gone8.n gone8.c)::us 53 []))=(Ac e0 λe f=>Bb e f λd=>Bo e (f+1) λg=>Bw 370 [.agg #[.l d.a d.n d.c,.p g],.s key1] λh=>Aj (h==2) (wz 371 [.p e0,.i 1,.s key1,.i 0]<|Q<|.tuple #[.b false,.l gone8.a gone8.n gone8.c])<|wz 371 [.p e0,.i 0,.s key1,.i 0]<|Q<|.tuple #[.b false,.l gone8.a gone8.n gone8.c]):=by kernel_rfl
theorem Ov:QH jn Q (m1+1) e0 key1 gone8=(A5 λS=>Ac e0 λb d=>Dj S b (d+2) λe=>Bw 365 [.p e0] λf=>Al true S<|Aj (decide<|f>=e) (Fv 361 [.p e0] λg j=>Az [.s g] 9 λh=>Bl 9 1 16 [.s Ae] ⟨gone8.a,gone8.n,gone8.c⟩ 1 (λw=>H3 w (some ⟨h,0,none⟩)<|1*1) λi=>QH jn Q m1 e0 key1 i)<|Ai9 jn Q e0 key1 gone8):=by kernel_rfl
theorem Aue:Aw jn PR QG f360 [.p e0,.s key1] Q=(Aj (isNone e0) (Q<|.tuple #[.b false,.l none 0 0])<|Ey 363 [.p e0,.s key1] λc=>Aj c (Ac e0 λd e=>Bo d (e+5) λf=>Gk 192 [.p f,.s key1] λg o=>A5 λS=>Ac e0 λh j=>EK S h (j+5) λk=>Bw 119 [.i g,.i 3] λa=>Al true S<|Ey 161 [.p k,.s key1,.i a] λn=>Q<|.tuple #[.b true,.l none 0 0])<|Em λm=>QH jn Q m e0 key1 ⟨none,0,0⟩):=by kernel_rfl
theorem Aa3{a:Bool}:Vy jn Q ((.p e0)::us 27 ((.b a)::us 9 []))=(Aj a (Fv 373 [.p e0] λc d=>Aj d (Q<|.tuple #[.s c,.b true])<|Wx 374 [.p e0] λe=>Q<|.tuple #[.s e,.b true])<|Wx 374 [.p e0] λf=>Q<|.tuple #[.s f,.b true]):=by kernel_rfl
theorem Auf:Aw jn PR XD f361 [.p e0] Q=(Bw 365 [.p e0] λr=>Aj (r==0) (Q<|.tuple #[.s Ae,.b false])<|A5 λS=>Ac e0 λo q=>Fg S o q λg=>EK S o (q+1) λt=>Ac e0 λu v=>Dj S u (v+3) λw=>Az [.i 0] 3 λx=>Al true S<|Bw 372 [.agg #[.l g.a g.n g.c,.p t],.l (some ⟨x,0,none⟩) 1 1] λh=>Al true S<|Aj (decide<|h>w) (Al true S<|XC jn Q e0 true) (Ac e0 λe f=>Fg S e f λd=>EK S e (f+1) λj=>
 Az [.i 1] 3 λk=>Al true S<|Bw 372 [.agg #[.l d.a d.n d.c,.p j],.l (some ⟨k,0,none⟩) 1 1] λm=>XC jn Q e0<|m==0)):=by kernel_rfl
theorem Aug:Aw jn PR Aca f363 [.p e0,.s key1] Q=(Aj (isNone e0) (Q<|.b false)<|Ac e0 λe f=>Bb e f λd=>Bo e (f+1) λh=>Bw 370 [.agg #[.l d.a d.n d.c,.p h],.s key1] λg=>Aj (g==0) (Q<|.b true)<|Q<|.b<|g==1):=by kernel_rfl
theorem Auh:Aw jn PR Aca f364 [.p e0] Q=(Aj (isNone e0) (Q<|.l none 0 0)<|Ac e0 λe f=>Bb e f λb=>Bo e (f+1) λg=>Az [.i 0,.i 1] 3 λh=>GW 375 [.agg #[.l b.a b.n b.c,.p g],.l (some ⟨h,0,none⟩) 2 2] λd=>Q<|.l d.a d.n d.c):=by kernel_rfl
theorem Aui:Aw jn PR Aca f365 [.p e0] Q=(Aj (isNone e0) (Q<|.i 0)<|Ac e0 λd e=>Bb d e λb=>Bo d (e+1) λf=>Az [.i 0,.i 1] 3 λg=>Bw 372 [.agg #[.l b.a b.n b.c,.p f],.l (some ⟨g,0,none⟩) 2 2] λh=>Q<|.i h):=by kernel_rfl
theorem Auj:Aw jn PR A2w f366 [.p e0,.s key1] Q=(A5 λS=>Aj (isNone e0) (Al true S<|Al true S<|Q<|.b false)<|Ey 363 [.p e0,.s key1] λa=>Al true S<|Aj a (Al true S<|Q<|.b false)<|Ac e0 λc d=>Dj S c (d+2) λe=>Bw 365 [.p e0] λf=>Al true S<|Aj (f==e) (Q<|.b false)<|wz 371 [.p e0,.i 1,.s key1,.i 0]<|Q<|.b true):=by kernel_rfl
theorem Auk:Aw jn PR Aca f367 [.p e0,.s key1] Q=(Ey 363 [.p e0,.s key1] λa=>Aj (!a) (Q<|.b false)<|wz 376 [.p e0,.s key1]<|Q<|.b true):=by kernel_rfl
theorem Aul:Aw jn PR Aca f368 [.p e0] Q=(Aj (isNone e0) (Q<|.i 0)<|Ac e0 λa b=>A0 a (b+2) λc=>Q<|.i c):=by kernel_rfl
theorem Aum{d:Int}{b:Int}:Aw jn PR Aca f371 [.p e0,.i d,.s key2,.i b] Q=(Ac e0 λf g=>Bb f g λe=>Bo f (g+1) λh=>wz 378 [.agg #[.l e.a e.n e.c,.p h],.i d,.s key2]<|Ac e0 λj k=>Bo j (k+5) λm=>Ey 161 [.p m,.s key2,.i b] λo=>Q<|.tuple #[]):=by kernel_rfl
theorem Ow:Vz jn Q m1 (us 4 ((.s key4)::us 59 []))=(Q<|.tuple #[.s key4,.b true]):=by kernel_rfl
theorem Oy{m2:Nat}:QJ jn Q m1 (m2+1) e0 key4=(A5 λS=>Ac e0 λf g=>Fg S f g λb=>EK S f (g+1) λo=>Ac e0 λq r=>Dj S q (r+4) λt=>Az [.i 2] 3 λu=>Al true S<|Bw 372 [.agg #[.l b.a b.n b.c,.p o],.l (some ⟨u,0,none⟩) 1 1] λv=>Al true S<|Aj (decide<|v>t) (A5 λS=>Ac e0 λh j=>Fg S h j λd=>EK S h (j+1) λw=>Ac e0 λk m=>Bb k m λe=>Bo k (m+1) λx=>Al true S<|Wx 379 [.agg #[.l e.a e.n e.c,.p x],.i 2] λy=>
 Al true S<|wz 380 [.agg #[.l d.a d.n d.c,.p w],.s y]<|QJ jn Q m1 m2 e0 key4)<|A20 jn Q m1 key4):=by kernel_rfl
theorem Aa7:V1 jn Q (us 64 [])=(Q<|.tuple #[.s Ae,.b false]):=by kernel_rfl
theorem Ox:QI jn Q (m1+1) e0=(Ac e0 λu v=>Bb u v λg=>Bo u (v+1) λy=>Az [.i 0] 3 λz=>Bw 372 [.agg #[.l g.a g.n g.c,.p y],.l (some ⟨z,0,none⟩) 1 1] λA=>Aj (decide<|A>0) (Ac e0 λw x=>Bb w x λh=>Bo w (x+1) λj=>Wx 379 [.agg #[.l h.a h.n h.c,.p j],.i 0] λb=>Ac e0 λk o=>Bo k (o+5) λq=>Gk 192 [.p q,.s b] λr B=>Aj (decide<|r>1) (wz 371 [.p e0,.i 1,.s b,.i 0]<|
 QI jn Q m1 e0)<|wz 376 [.p e0,.s b]<|Ac e0 λe f=>Bb e f λd=>Bo e (f+1) λt=>wz 378 [.agg #[.l d.a d.n d.c,.p t],.i 2,.s b]<|Em λm=>QJ jn Q m1 m e0 b)<|A21 jn Q):=by kernel_rfl
theorem Aup:Aw jn PR Hh f373 [.p e0] Q=(Em λm=>QI jn Q m e0):=by kernel_rfl
theorem Aa8:QK jn Q (m1+1) e0=(Ac e0 λe f=>Bb e f λd=>Bo e (f+1) λh=>Wx 379 [.agg #[.l d.a d.n d.c,.p h],.i 1] λb=>Ac e0 λj k=>Bo j (k+5) λm=>Gk 192 [.p m,.s b] λg o=>Aj (g==0) (wz 376 [.p e0,.s b]<|Q<|.s b)<|wz 371 [.p e0,.i 1,.s b,.i<|wrap .i64<|g-1]<|QK jn Q m1 e0):=by kernel_rfl
theorem Auq:Aw jn PR Aja f374 [.p e0] Q=(Em λm=>QK jn Q m e0):=by kernel_rfl
theorem Aur:Aw jn PR Aca f376 [.p e0,.s key1] Q=(Ac e0 λd e=>Bb d e λb=>Bo d (e+1) λf=>wz 380 [.agg #[.l b.a b.n b.c,.p f],.s key1]<|Ac e0 λg h=>Bo g (h+5) λi=>Gk 159 [.p i,.s key1] λj k=>Q<|.tuple #[]):=by kernel_rfl
end Go.Proofs.YtjipofkjmmpjdaaGreat
namespace Go.Proofs.YtjipofkjmmpjdaaGreat
open Go.Hb
section
variable(jn:Jn)(Q:VW)
noncomputable def Bds(l:List Nat):Code:=W4 l (AC f75)
def A7m(Q:VW):EW:=Bg PR f75 Q
def Tx(C:CI)(a:Jn)(Q:VW):EW:=@AD (extOf C) PR J0 a (Bds [1,1]) (A7m Q) A8 (A7m Q)
def Bbl(C:CI)(c:Jn)(Q:VW)(b a:Int):WP:=c 8 (Tx C c Q) ((.i b)::(.i a)::us 26 [])
noncomputable def Ax4(l:List Nat):Code:=W4 l (AC f246)
def Tv(Q:VW):EW:=Bg PR f246 Q
def Akz(C:CI)(a:Jn)(Q:VW):EW:=@IV (extOf C) PR DR a (Ax4 [1,1,1,1,1]) (Tv Q) A8 (Tv Q)
def N0(C:CI)(a:Jn)(Q:VW):EW:=@AD (extOf C) PR DR a (Ax4 [1,1,1,1,1]) (Tv Q) A8 (Tv Q)
def H8(C:CI)(e:Jn)(Q:VW)(f:OA)(d:BA)(b:Sl):WP:=e 40 (N0 C e Q) ((.p f)::(.s d)::us 4 ((.l b.a b.n b.c)::us 93 []))
def Nz(C:CI)(a:Jn)(Q:VW):EW:=@AD (extOf C) PR DR a (Ax4 [1,1,1,1,0,1,0,1]) (Akz C a Q) (AA 0 (Akz C a Q) A8) (Tv Q)
def YH(C:CI)(e:Jn)(Q:VW)(f:OA)(a:BA)(c:Int)(d:Bool):WP:=e 24 (Nz C e Q) ((.p f)::(.s a)::us 14 ((.i c)::us 9 ((.b d)::us 73 [])))
noncomputable def Bdn(l:List Nat):Code:=W4 l (AC f75)
def A67(Q:VW):EW:=Bg PR f75 Q
def Ac9:EW:=@AD (Bn) PR J0 jn (Bdn [1,1]) (A67 Q) A8 (A67 Q)
def Bag(b a:Int):WP:=jn 8 (Ac9 jn Q) ((.i b)::(.i a)::us 26 [])
noncomputable def Awn(l:List Nat):Code:=W4 l (AC f246)
def SH(Q:VW):EW:=Bg PR f246 Q
def Aj7:EW:=@IV (Bn) PR DR jn (Awn [1,1,1,1,1]) (SH Q) A8 (SH Q)
def Wc:EW:=@AD (Bn) PR DR jn (Awn [1,1,1,1,1]) (SH Q) A8 (SH Q)
def H2(e:OA)(d:BA)(b:Sl):WP:=jn 40 (Wc jn Q) ((.p e)::(.s d)::us 4 ((.l b.a b.n b.c)::us 93 []))
def Wb:EW:=@AD (Bn) PR DR jn (Awn [1,1,1,1,0,1,0,1]) (Aj7 jn Q) (AA 0 (Aj7 jn Q) A8) (SH Q)
def Yw(e:OA)(a:BA)(c:Int)(d:Bool):WP:=jn 24 (Wb jn Q) ((.p e)::(.s a)::us 14 ((.i c)::us 9 ((.b d)::us 73 [])))
end
variable{jn:Jn}{Q:VW}{e0:OA}{key1:BA}{C:CI}{reads0 writes1 t16:Int}{gone6:Sl}{t26:Bool}
theorem Ahn:Tx C jn Q ((.i reads0)::(.i writes1)::us 26 [])=(A5 λS=>@Gn (extOf C) [
 (Ms PR 182 (.i reads0) λa=>Ms PR 182 (.i writes1) λc=>Az [.chan<|some a,.i 0,.s Ae,.i 0,.b false,.chan<|some c,.i 0,.s Ae,.i 0,.b false,.i 0,.i 0] 188 λd=>Q<|.tuple #[pq d 0,.i 0]),
 (Ms PR 182 (.i writes1) λe=>Ms PR 182 (.i reads0) λf=>Az [.chan<|some f,.i 0,.s Ae,.i 0,.b false,.chan<|some e,.i 0,.s Ae,.i 0,.b false,.i 0,.i 0] 188 λg=>Q<|.tuple #[pq g 0,.i 0])]):=by kernel_rfl
theorem A6p:@Aw (extOf C) jn PR J0 f75 [.i reads0,.i writes1] Q=(Aj (decide<|reads0<0) (Q<|.tuple #[.p none,.i 1])<|Aj (decide<|reads0>256) (Q<|.tuple #[.p none,.i 1])<|Aj (decide<|writes1<1) (Q<|.tuple #[.p none,.i 1])<|Aj (decide<|writes1>256) (Q<|.tuple #[.p none,.i 1])<|Bbl C jn Q reads0 writes1):=by kernel_rfl
theorem Ad5:N0 C jn Q ((.p e0)::(.s key1)::us 4 ((.l gone6.a gone6.n gone6.c)::us 93 []))=(Ac e0 λe f=>Bb e f λd=>Bo e (f+1) λg=>@HT (extOf C) PR 257 [.agg #[.l d.a d.n d.c,.p g],.i 1,.s key1]<|Q<|.tuple #[.b false,.l gone6.a gone6.n gone6.c]):=by kernel_rfl
theorem Ad4:Nz C jn Q ((.p e0)::(.s key1)::us 14 ((.i t16)::us 9 ((.b t26)::us 73 [])))=(Aj t26 (Ac e0 λB6 O7=>Bb B6 O7 λX8=>Bo B6 (O7+1) λX9=>@HT (extOf C) PR 257 [.agg #[.l X8.a X8.n X8.c,.p X9],.i 1,.s key1]<|Q (.tuple #[.b true,.l none 0 0])) (Aj (t16==2) (A5 λS=>Ac e0 λB10 O11=>Dj S B10 (O11+2) λX12=>Ac e0 λB13 O14=>Dj S B13 (O14+3) λX15=>Ac e0 λB16 O17=>Fg S B16 O17 λX18=>EK S B16 (O17+1) λX19=>Ac e0 λB20 O21=>Fg S B20 O21 λX22=>
 EK S B20 (O21+1) λX23=>@Gn (extOf C) [
 (Az [.i 3] 3 λB24=>Al true S<|@Gn (extOf C) [
 (@call1 (extOf C) (.int .i64) PR 258 [.agg #[.l X18.a X18.n X18.c,.p X19],.l (some ⟨B24,0,none⟩) 1 1] λ(X25:Int)=>Al true S<|Az [.i 2] 3 λB26=>Al true S<|@call1 (extOf C) (.int .i64) PR 258 [.agg #[.l X22.a X22.n X22.c,.p X23],.l (some ⟨B26,0,none⟩) 1 1] λ(X27:Int)=>Al true S<|AV (X27≠0)<|Ac e0 λB28 O29=>st B28 (O29+3) (.i (if (wrap .i64 (X15+(if (wrap .i64 (tdiv X25 X27))>1 then (wrap .i64 (tdiv X25 X27)) else 1)))<X12 then (wrap .i64 (X15+(if (wrap .i64 (tdiv X25 X27))>1 then (wrap .i64 (tdiv X25 X27)) else 1))) else X12))<|@call1 (extOf C) .slc PR 259 [.p e0,.b false] λ(X30:Sl)=>
 H8 C jn Q e0 key1 X30),
 (Az [.i 2] 3 λB35=>Al true S<|@call1 (extOf C) (.int .i64) PR 258 [.agg #[.l X18.a X18.n X18.c,.p X19],.l (some ⟨B24,0,none⟩) 1 1] λ(X36:Int)=>Al true S<|@call1 (extOf C) (.int .i64) PR 258 [.agg #[.l X22.a X22.n X22.c,.p X23],.l (some ⟨B35,0,none⟩) 1 1] λ(X37:Int)=>Al true S<|AV (X37≠0)<|Ac e0 λB38 O39=>st B38 (O39+3) (.i (if (wrap .i64 (X15+(if (wrap .i64 (tdiv X36 X37))>1 then (wrap .i64 (tdiv X36 X37)) else 1)))<X12 then (wrap .i64 (X15+(if (wrap .i64 (tdiv X36 X37))>1 then (wrap .i64 (tdiv X36 X37)) else 1))) else X12))<|@call1 (extOf C) .slc PR 259 [.p e0,.b false] λ(X40:Sl)=>
 H8 C jn Q e0 key1 X40)]),
 (Az [.i 2] 3 λB41=>Al true S<|Az [.i 3] 3 λB42=>Al true S<|@call1 (extOf C) (.int .i64) PR 258 [.agg #[.l X18.a X18.n X18.c,.p X19],.l (some ⟨B42,0,none⟩) 1 1] λ(X43:Int)=>Al true S<|@call1 (extOf C) (.int .i64) PR 258 [.agg #[.l X22.a X22.n X22.c,.p X23],.l (some ⟨B41,0,none⟩) 1 1] λ(X44:Int)=>Al true S<|AV (X44≠0)<|Ac e0 λB45 O46=>st B45 (O46+3) (.i (if (wrap .i64 (X15+(if (wrap .i64 (tdiv X43 X44))>1 then (wrap .i64 (tdiv X43 X44)) else 1)))<X12 then (wrap .i64 (X15+(if (wrap .i64 (tdiv X43 X44))>1 then (wrap .i64 (tdiv X43 X44)) else 1))) else X12))<|
 @call1 (extOf C) .slc PR 259 [.p e0,.b false] λ(X47:Sl)=>H8 C jn Q e0 key1 X47)]) (Aj (t16==3) (A5 λS=>Ac e0 λB48 O49=>Dj S B48 (O49+3) λX50=>Ac e0 λB51 O52=>Fg S B51 O52 λX53=>EK S B51 (O52+1) λX54=>Ac e0 λB55 O56=>Fg S B55 O56 λX57=>EK S B55 (O56+1) λX58=>@Gn (extOf C) [
 (Az [.i 2] 3 λB59=>Al true S<|@Gn (extOf C) [
 (@call1 (extOf C) (.int .i64) PR 258 [.agg #[.l X53.a X53.n X53.c,.p X54],.l (some ⟨B59,0,none⟩) 1 1] λ(X60:Int)=>Al true S<|Az [.i 3] 3 λB61=>Al true S<|@call1 (extOf C) (.int .i64) PR 258 [.agg #[.l X57.a X57.n X57.c,.p X58],.l (some ⟨B61,0,none⟩) 1 1] λ(X62:Int)=>Al true S<|AV (X62≠0)<|Ac e0 λB63 O64=>st B63 (O64+3) (.i (if (wrap .i64 (X50-(if (wrap .i64 (tdiv X60 X62))>1 then (wrap .i64 (tdiv X60 X62)) else 1)))>0 then (wrap .i64 (X50-(if (wrap .i64 (tdiv X60 X62))>1 then (wrap .i64 (tdiv X60 X62)) else 1))) else 0))<|@call1 (extOf C) .slc PR 259 [.p e0,.b true] λ(X65:Sl)=>
 H8 C jn Q e0 key1 X65),
 (Az [.i 3] 3 λB66=>Al true S<|@call1 (extOf C) (.int .i64) PR 258 [.agg #[.l X53.a X53.n X53.c,.p X54],.l (some ⟨B59,0,none⟩) 1 1] λ(X67:Int)=>Al true S<|@call1 (extOf C) (.int .i64) PR 258 [.agg #[.l X57.a X57.n X57.c,.p X58],.l (some ⟨B66,0,none⟩) 1 1] λ(X68:Int)=>Al true S<|AV (X68≠0)<|Ac e0 λB69 O70=>st B69 (O70+3) (.i (if (wrap .i64 (X50-(if (wrap .i64 (tdiv X67 X68))>1 then (wrap .i64 (tdiv X67 X68)) else 1)))>0 then (wrap .i64 (X50-(if (wrap .i64 (tdiv X67 X68))>1 then (wrap .i64 (tdiv X67 X68)) else 1))) else 0))<|@call1 (extOf C) .slc PR 259 [.p e0,.b true] λ(X71:Sl)=>
 H8 C jn Q e0 key1 X71)]),
 (Az [.i 3] 3 λB72=>Al true S<|Az [.i 2] 3 λB73=>Al true S<|@call1 (extOf C) (.int .i64) PR 258 [.agg #[.l X53.a X53.n X53.c,.p X54],.l (some ⟨B73,0,none⟩) 1 1] λ(X74:Int)=>Al true S<|@call1 (extOf C) (.int .i64) PR 258 [.agg #[.l X57.a X57.n X57.c,.p X58],.l (some ⟨B72,0,none⟩) 1 1] λ(X75:Int)=>Al true S<|AV (X75≠0)<|Ac e0 λB76 O77=>st B76 (O77+3) (.i (if (wrap .i64 (X50-(if (wrap .i64 (tdiv X74 X75))>1 then (wrap .i64 (tdiv X74 X75)) else 1)))>0 then (wrap .i64 (X50-(if (wrap .i64 (tdiv X74 X75))>1 then (wrap .i64 (tdiv X74 X75)) else 1))) else 0))<|
 @call1 (extOf C) .slc PR 259 [.p e0,.b true] λ(X78:Sl)=>H8 C jn Q e0 key1 X78)]) (@call1 (extOf C) .slc PR 260 [.p e0] λ(X79:Sl)=>Ac e0 λB80 O81=>Bb B80 O81 λX82=>Bo B80 (O81+1) λX83=>@HT (extOf C) PR 257 [.agg #[.l X82.a X82.n X82.c,.p X83],.i 0,.s key1]<|Q (.tuple #[.b false,.l X79.a X79.n X79.c]))))):=by kernel_rfl
theorem Ax3:@Aw (extOf C) jn PR DR f246 [.p e0,.s key1] Q=(Aj (isNone e0) (Q<|.tuple #[.b false,.l none 0 0])<|Ac e0 λf g=>Bb f g λe=>Bo f (g+1) λh=>@call1 (extOf C) (.int .i64) PR 256 [.agg #[.l e.a e.n e.c,.p h],.s key1] λ(d:Int)=>Aj (d==0) (YH C jn Q e0 key1 d<|d==0)<|YH C jn Q e0 key1 d<|d==1):=by kernel_rfl
theorem Ag0:Ac9 jn Q ((.i reads0)::(.i writes1)::us 26 [])=(A5 λS=>@Gn (Bn) [
 (Ms PR 182 (.i reads0) λa=>Ms PR 182 (.i writes1) λc=>Az [.chan<|some a,.i 0,.s Ae,.i 0,.b false,.chan<|some c,.i 0,.s Ae,.i 0,.b false,.i 0,.i 0] 188 λd=>Q<|.tuple #[pq d 0,.i 0]),
 (Ms PR 182 (.i writes1) λe=>Ms PR 182 (.i reads0) λf=>Az [.chan<|some f,.i 0,.s Ae,.i 0,.b false,.chan<|some e,.i 0,.s Ae,.i 0,.b false,.i 0,.i 0] 188 λg=>Q<|.tuple #[pq g 0,.i 0])]):=by kernel_rfl
theorem A5o:@Aw (Bn) jn PR J0 f75 [.i reads0,.i writes1] Q=(Aj (decide<|reads0<0) (Q<|.tuple #[.p none,.i 1])<|Aj (decide<|reads0>256) (Q<|.tuple #[.p none,.i 1])<|Aj (decide<|writes1<1) (Q<|.tuple #[.p none,.i 1])<|Aj (decide<|writes1>256) (Q<|.tuple #[.p none,.i 1])<|Bag jn Q reads0 writes1):=by kernel_rfl
theorem Ac8:Wc jn Q ((.p e0)::(.s key1)::us 4 ((.l gone6.a gone6.n gone6.c)::us 93 []))=(Ac e0 λe f=>Bb e f λd=>Bo e (f+1) λg=>@HT (Bn) PR 257 [.agg #[.l d.a d.n d.c,.p g],.i 1,.s key1]<|Q<|.tuple #[.b false,.l gone6.a gone6.n gone6.c]):=by kernel_rfl
theorem Ac7:Wb jn Q ((.p e0)::(.s key1)::us 14 ((.i t16)::us 9 ((.b t26)::us 73 [])))=(Aj t26 (Ac e0 λB6 O7=>Bb B6 O7 λX8=>Bo B6 (O7+1) λX9=>@HT (Bn) PR 257 [.agg #[.l X8.a X8.n X8.c,.p X9],.i 1,.s key1]<|Q (.tuple #[.b true,.l none 0 0])) (Aj (t16==2) (A5 λS=>Ac e0 λB10 O11=>Dj S B10 (O11+2) λX12=>Ac e0 λB13 O14=>Dj S B13 (O14+3) λX15=>Ac e0 λB16 O17=>Fg S B16 O17 λX18=>EK S B16 (O17+1) λX19=>Ac e0 λB20 O21=>Fg S B20 O21 λX22=>
 EK S B20 (O21+1) λX23=>@Gn (Bn) [
 (Az [.i 3] 3 λB24=>Al true S<|@Gn (Bn) [
 (@call1 (Bn) (.int .i64) PR 258 [.agg #[.l X18.a X18.n X18.c,.p X19],.l (some ⟨B24,0,none⟩) 1 1] λ(X25:Int)=>Al true S<|Az [.i 2] 3 λB26=>Al true S<|@call1 (Bn) (.int .i64) PR 258 [.agg #[.l X22.a X22.n X22.c,.p X23],.l (some ⟨B26,0,none⟩) 1 1] λ(X27:Int)=>Al true S<|AV (X27≠0)<|Ac e0 λB28 O29=>st B28 (O29+3) (.i (if (wrap .i64 (X15+(if (wrap .i64 (tdiv X25 X27))>1 then (wrap .i64 (tdiv X25 X27)) else 1)))<X12 then (wrap .i64 (X15+(if (wrap .i64 (tdiv X25 X27))>1 then (wrap .i64 (tdiv X25 X27)) else 1))) else X12))<|@call1 (Bn) .slc PR 259 [.p e0,.b false] λ(X30:Sl)=>
 H2 jn Q e0 key1 X30),
 (Az [.i 2] 3 λB35=>Al true S<|@call1 (Bn) (.int .i64) PR 258 [.agg #[.l X18.a X18.n X18.c,.p X19],.l (some ⟨B24,0,none⟩) 1 1] λ(X36:Int)=>Al true S<|@call1 (Bn) (.int .i64) PR 258 [.agg #[.l X22.a X22.n X22.c,.p X23],.l (some ⟨B35,0,none⟩) 1 1] λ(X37:Int)=>Al true S<|AV (X37≠0)<|Ac e0 λB38 O39=>st B38 (O39+3) (.i (if (wrap .i64 (X15+(if (wrap .i64 (tdiv X36 X37))>1 then (wrap .i64 (tdiv X36 X37)) else 1)))<X12 then (wrap .i64 (X15+(if (wrap .i64 (tdiv X36 X37))>1 then (wrap .i64 (tdiv X36 X37)) else 1))) else X12))<|@call1 (Bn) .slc PR 259 [.p e0,.b false] λ(X40:Sl)=>
 H2 jn Q e0 key1 X40)]),
 (Az [.i 2] 3 λB41=>Al true S<|Az [.i 3] 3 λB42=>Al true S<|@call1 (Bn) (.int .i64) PR 258 [.agg #[.l X18.a X18.n X18.c,.p X19],.l (some ⟨B42,0,none⟩) 1 1] λ(X43:Int)=>Al true S<|@call1 (Bn) (.int .i64) PR 258 [.agg #[.l X22.a X22.n X22.c,.p X23],.l (some ⟨B41,0,none⟩) 1 1] λ(X44:Int)=>Al true S<|AV (X44≠0)<|Ac e0 λB45 O46=>st B45 (O46+3) (.i (if (wrap .i64 (X15+(if (wrap .i64 (tdiv X43 X44))>1 then (wrap .i64 (tdiv X43 X44)) else 1)))<X12 then (wrap .i64 (X15+(if (wrap .i64 (tdiv X43 X44))>1 then (wrap .i64 (tdiv X43 X44)) else 1))) else X12))<|
 @call1 (Bn) .slc PR 259 [.p e0,.b false] λ(X47:Sl)=>H2 jn Q e0 key1 X47)]) (Aj (t16==3) (A5 λS=>Ac e0 λB48 O49=>Dj S B48 (O49+3) λX50=>Ac e0 λB51 O52=>Fg S B51 O52 λX53=>EK S B51 (O52+1) λX54=>Ac e0 λB55 O56=>Fg S B55 O56 λX57=>EK S B55 (O56+1) λX58=>@Gn (Bn) [
 (Az [.i 2] 3 λB59=>Al true S<|@Gn (Bn) [
 (@call1 (Bn) (.int .i64) PR 258 [.agg #[.l X53.a X53.n X53.c,.p X54],.l (some ⟨B59,0,none⟩) 1 1] λ(X60:Int)=>Al true S<|Az [.i 3] 3 λB61=>Al true S<|@call1 (Bn) (.int .i64) PR 258 [.agg #[.l X57.a X57.n X57.c,.p X58],.l (some ⟨B61,0,none⟩) 1 1] λ(X62:Int)=>Al true S<|AV (X62≠0)<|Ac e0 λB63 O64=>st B63 (O64+3) (.i (if (wrap .i64 (X50-(if (wrap .i64 (tdiv X60 X62))>1 then (wrap .i64 (tdiv X60 X62)) else 1)))>0 then (wrap .i64 (X50-(if (wrap .i64 (tdiv X60 X62))>1 then (wrap .i64 (tdiv X60 X62)) else 1))) else 0))<|@call1 (Bn) .slc PR 259 [.p e0,.b true] λ(X65:Sl)=>
 H2 jn Q e0 key1 X65),
 (Az [.i 3] 3 λB66=>Al true S<|@call1 (Bn) (.int .i64) PR 258 [.agg #[.l X53.a X53.n X53.c,.p X54],.l (some ⟨B59,0,none⟩) 1 1] λ(X67:Int)=>Al true S<|@call1 (Bn) (.int .i64) PR 258 [.agg #[.l X57.a X57.n X57.c,.p X58],.l (some ⟨B66,0,none⟩) 1 1] λ(X68:Int)=>Al true S<|AV (X68≠0)<|Ac e0 λB69 O70=>st B69 (O70+3) (.i (if (wrap .i64 (X50-(if (wrap .i64 (tdiv X67 X68))>1 then (wrap .i64 (tdiv X67 X68)) else 1)))>0 then (wrap .i64 (X50-(if (wrap .i64 (tdiv X67 X68))>1 then (wrap .i64 (tdiv X67 X68)) else 1))) else 0))<|@call1 (Bn) .slc PR 259 [.p e0,.b true] λ(X71:Sl)=>
 H2 jn Q e0 key1 X71)]),
 (Az [.i 3] 3 λB72=>Al true S<|Az [.i 2] 3 λB73=>Al true S<|@call1 (Bn) (.int .i64) PR 258 [.agg #[.l X53.a X53.n X53.c,.p X54],.l (some ⟨B73,0,none⟩) 1 1] λ(X74:Int)=>Al true S<|@call1 (Bn) (.int .i64) PR 258 [.agg #[.l X57.a X57.n X57.c,.p X58],.l (some ⟨B72,0,none⟩) 1 1] λ(X75:Int)=>Al true S<|AV (X75≠0)<|Ac e0 λB76 O77=>st B76 (O77+3) (.i (if (wrap .i64 (X50-(if (wrap .i64 (tdiv X74 X75))>1 then (wrap .i64 (tdiv X74 X75)) else 1)))>0 then (wrap .i64 (X50-(if (wrap .i64 (tdiv X74 X75))>1 then (wrap .i64 (tdiv X74 X75)) else 1))) else 0))<|
 @call1 (Bn) .slc PR 259 [.p e0,.b true] λ(X78:Sl)=>H2 jn Q e0 key1 X78)]) (@call1 (Bn) .slc PR 260 [.p e0] λ(X79:Sl)=>Ac e0 λB80 O81=>Bb B80 O81 λX82=>Bo B80 (O81+1) λX83=>@HT (Bn) PR 257 [.agg #[.l X82.a X82.n X82.c,.p X83],.i 0,.s key1]<|Q (.tuple #[.b false,.l X79.a X79.n X79.c]))))):=by kernel_rfl
theorem Awm:@Aw (Bn) jn PR DR f246 [.p e0,.s key1] Q=(Aj (isNone e0) (Q<|.tuple #[.b false,.l none 0 0])<|Ac e0 λf g=>Bb f g λe=>Bo f (g+1) λh=>@call1 (Bn) (.int .i64) PR 256 [.agg #[.l e.a e.n e.c,.p h],.s key1] λ(d:Int)=>Aj (d==0) (Yw jn Q e0 key1 d<|d==0)<|Yw jn Q e0 key1 d<|d==1):=by kernel_rfl
end Go.Proofs.YtjipofkjmmpjdaaGreat
namespace Go.Hb
open Go.Proofs
section
variable{m m' m0:Mp}{wv wr wv' wr':World}{P:Program}{S:World->Prop}
theorem St.fresh(c:m.le m')(a:wr.heap.size<=wr'.heap.size)(g:∀x,x<wr.heap.size->wr'.heap[x]? = wr.heap[x]?)(i:∀x p,wv'.heap[x]? = some p->x<wv.heap.size->wv.heap[x]? = some p)(e:∀b b',m'.f b=some b'->m.f b=some b'\/wr.heap.size<=b')(hs:Sm m wv wr)(j:wr'.os=wr.os/\wr'.output=wr.output:=by exact⟨rfl,rfl⟩):St m wv wr m' wv' wr':=
 ⟨c,a,λx k _=>g x k,λb' ⟨b,o,l,n,d⟩=>by
  rcases e b b' d with h|h
  ·exact .inl ⟨b,o,i b o l<|(hs.dom b).2 (by rw[h];rfl),n,h⟩
  ·exact .inr h,λb b' d=>(e b b' d).elim .inl λh=>.inr<|.inr h,j⟩
theorem Ku{o:Obj}(hs:Sm m wv wr):Sm m wv (wr.alloc o)/\St m wv wr m wv (wr.alloc o):=
 ⟨hs.real (by rw[Bp];omega) λb p b' _ _ a=>CX<|hs.rng _ _ a,St.fresh (.refl m) (by rw[Bp];omega) (λx b=>CX b) (λ_ _ h _=>h) (λ_ _ h=>.inl h) hs⟩
theorem Wa(hs:Sm m wv wr){o o':Obj}{r:Nat}(hr:wr.heap[r]? = some o')(ho:OR (m.push wv.heap.size r none) wv.heap.size o o')(hno:∀b,m.f b≠some r){wr0:World}(hr0:wr0.heap.size<=r)(h0:St m0 wv' wr0 m wv wr):Sm (m.push wv.heap.size r none) (wv.alloc o) wr/\St m0 wv' wr0 (m.push wv.heap.size r none) (wv.alloc o) wr:=by
 refine⟨hs.push hr ho (λb _ _ _=>hno b) (λ_ _ _ h=>by cases h),⟨h0.le.trans (Mp.push_le (hs.none_at (le_refl _))),h0.big,h0.frame,λb' ⟨b,p,hb,hp,hm⟩=>?_,λb b' hm=>?_,h0.env⟩⟩
 ·by_cases e:b=wv.heap.size
  ·subst e;rw[Mp.push_at] at hm;cases hm;exact .inr hr0
  ·have hlt:=BX hb;rw[Bp] at hlt;rw[CX (by omega)] at hb;simp only[Mp.push,if_neg e] at hm;exact h0.grow b' ⟨b,p,hb,hp,hm⟩
 ·by_cases e:b=wv.heap.size
  ·subst e;rw[Mp.push_at] at hm;cases hm;exact .inr (.inr hr0)
  ·simp only[Mp.push,if_neg e] at hm;exact h0.new b b' hm
theorem Jb(hs:Sm m wv wr){f:FuncId}{args b:List Value}(i:AT (VR m) args b){k:CK}(c:k ≠ .any){K d:k.ty->WP}(h:@call1 (extOf BF) k P f args K wv)
  (j:∀a x y wv' wr',K x wv'->CR k a x y->Sm a wv' wr'->St m wv wr a wv' wr'->d y wr'):@call1 Bn k P f b d wr:=by
 have h:BF P f args.toArray wv λe w'=>∃x:k.ty,e = .returned (k.val x)/\K x w':=h;refine(h m b.toArray wr (by simpa using i) hs).mono λu wr' ⟨e,wv',a,v,r,⟨x,l,n⟩,o,p,q,s,t⟩=>?_;subst l;cases o;have g:VF a (k.val x) r:=q.flat (by cases k <;> first|exact absurd rfl c|simp[CK.val]) (by cases k <;> first|exact absurd rfl c|simp[CK.val])
 obtain⟨y,rfl⟩:=g.ck;exact⟨y,p,j _ _ _ _ _ n g s t⟩
theorem YE(hs:Sm m wv wr){f:FuncId}{args b:List Value}(g:AT (VR m) args b){K d:WP}(h:@HT (extOf BF) P f args K wv)(i:∀c wv' wr',K wv'->Sm c wv' wr'->St m wv wr c wv' wr'->d wr'):@HT Bn P f b d wr:=by
 have h:BF P f args.toArray wv λe w'=>e = .returned (.tuple #[])/\K w':=h;refine(h m b.toArray wr (by simpa using g) hs).mono λs wr' ⟨e,wv',c,v,r,⟨j,a⟩,k,l,n,o,p⟩=>?_;subst j;cases k;have:r = .tuple #[]:=by
  obtain⟨q,rfl,hc⟩:=n.tuple;have a:=hc.len;simp at a;rw[a]
 subst this;exact⟨l,i _ _ _ a o p⟩
theorem Akp(hs:Sm m wv wr){cs rs:List Value}{T:TypeId}(h:AT (VF m) cs rs){K c:Nat->WP}(d:Az cs T K wv)(i:∀a b b' wv' wr',K b wv'->a.f b=some b'->a.g b=none->Sm a wv' wr'->St m wv wr a wv' wr'->c b' wr'):Az rs T c wr:=
 Tq hs h K c d λa b wv' b' wr' d e hs j=>i _ _ _ _ _ d e.1 e.2 hs j
theorem Acy{f:FuncId}{A B N O:Array Value}{W w:Int}{T Q:Int->Int->WP}{Y:Nat->WP}{q2:WP}(hS:S wv)(q:m0.le m)(hs:Sm m wv wr)(hA:AT (VF m) A.toList N.toList)(hB:AT (VF m) B.toList O.toList)
  (h:@Gn (extOf BF) [Az [.i W] 3 λb=>Al true S<| @Gn (extOf BF) [@call1 (extOf BF) (.int .i64) P f [.agg A,.l (some ⟨b,0,none⟩) 1 1] λx=>Al true S<| Az [.i w] 3 λb'=>Al true S<| @call1 (extOf BF) (.int .i64) P f [.agg B,.l (some ⟨b',0,none⟩) 1 1] λy=>Al true S<| T x y,Y b],q2] wv)
  (h':∀m' x y wv' wr',T x y wv'->Sm m' wv' wr'->St m wv wr m' wv' wr'->Q x y wr') :
  @Gn Bn [Az [.i W] 3 λb=>Al true (HA m0 S)<| @Gn Bn [@call1 Bn (.int .i64) P f [.agg N,.l (some ⟨b,0,none⟩) 1 1] λx=>Al true (HA m0 S)<| Az [.i w] 3 λb'=>Al true (HA m0 S)<| @call1 Bn (.int .i64) P f [.agg O,.l (some ⟨b',0,none⟩) 1 1] λy=>Al true (HA m0 S)<| Q x y,
    Az [.i w] 3 λb'=>Al true (HA m0 S)<| @call1 Bn (.int .i64) P f [.agg N,.l (some ⟨b,0,none⟩) 1 1] λx=>Al true (HA m0 S)<| @call1 Bn (.int .i64) P f [.agg O,.l (some ⟨b',0,none⟩) 1 1] λy=>Al true (HA m0 S)<| Q x y],
   Az [.i w] 3 λb'=>Al true (HA m0 S)<| Az [.i W] 3 λb=>Al true (HA m0 S)<| @call1 Bn (.int .i64) P f [.agg N,.l (some ⟨b,0,none⟩) 1 1] λx=>Al true (HA m0 S)<| @call1 Bn (.int .i64) P f [.agg O,.l (some ⟨b',0,none⟩) 1 1] λy=>Al true (HA m0 S)<| Q x y] wr:=by
 have h:Az [.i W] 3 (λb=>Al true S<| @Gn (extOf BF) [@call1 (extOf BF) (.int .i64) P f [.agg A,.l (some ⟨b,0,none⟩) 1 1] λx=>Al true S<| Az [.i w] 3 λb'=>Al true S<| @call1 (extOf BF) (.int .i64) P f [.agg B,.l (some ⟨b',0,none⟩) 1 1] λy=>Al true S<| T x y,Y b]) wv:=h;have R:∀{v:Int},AT (VF m) [Value.int .i64 v] [Value.int .i64 v]:=.cons (.atom rfl) .nil;have arg:∀{m1:Mp}{b b':Nat}{X Xr:Array Value},m.le m1->AT (VF m) X.toList Xr.toList->m1.f b=some b'->m1.g b=none->AT (VR m1) [.agg X,.l (some ⟨b,0,none⟩) 1 1] [.agg Xr,.l (some ⟨b',0,none⟩) 1 1]:=λhl hX H D=>
  .cons (.one<|.agg<|AT.imp (λ_ _ h=>h.up hl) hX) (.cons (.one<|.flat<|.slc H<|by unfold Pf;rw[D]) .nil)
 have K:∀{m1:Mp}{b b' r:Nat}{n wr1 C:World},(Al true S<| @Gn (extOf BF) [@call1 (extOf BF) (.int .i64) P f [.agg A,.l (some ⟨b,0,none⟩) 1 1] λx=>Al true S<| Az [.i w] 3 λb'=>Al true S<| @call1 (extOf BF) (.int .i64) P f [.agg B,.l (some ⟨b',0,none⟩) 1 1] λy=>Al true S<| T x y,Y b]) n ->
   m1.f b=some b'->m1.g b=none->Sm m1 n C->St m wv wr m1 n C->wr.heap.size<=r->C.heap[r]? = some (.cells #[.i w] 3 (0,0))->(∀x,m1.f x≠some r) ->
   @call1 Bn (.int .i64) P f [.agg N,.l (some ⟨b',0,none⟩) 1 1] (λx=>Al true (HA m0 S)<| @call1 Bn (.int .i64) P f [.agg O,.l (some ⟨r,0,none⟩) 1 1] λy=>Al true (HA m0 S)<| Q x y) C:=by
  intro m1 b b' r n wr1 C d H D s j Z hr L;obtain⟨_,d⟩:=d;have d:@call1 (extOf BF) (.int .i64) P f [.agg A,.l (some ⟨b,0,none⟩) 1 1] (λx=>Al true S<| Az [.i w] 3 λb'=>Al true S<| @call1 (extOf BF) (.int .i64) P f [.agg B,.l (some ⟨b',0,none⟩) 1 1] λy=>Al true S<| T x y) n:=d;refine Jb s (arg j.le hA H D) (by simp) d λm2 x y E U d k p a=>?_;have k:y=x:=by
   have t:=VF.int (h:=k);exact(Value.int.inj t).2
  subst k;obtain⟨aa,d⟩:=d;refine⟨⟨m2,E,q.trans<|j.le.trans a.le,aa,p⟩,?_⟩;have ab:U.heap[r]? = some (.cells #[.i w] 3 (0,0)):=by
   rw[a.frame r (BX hr)<|λ⟨x,_,_,_,I⟩=>L x I];exact hr
  have V:∀x,m2.f x≠some r:=λx I=>by
   rcases a.new x r I with t|⟨z,_,_,_,t⟩|t
   ·exact L x t
   ·exact L z t
   ·have:=BX hr;omega
  have d:(Al true S<| @call1 (extOf BF) (.int .i64) P f [.agg B,.l (some ⟨E.heap.size,0,none⟩) 1 1] λy=>Al true S<| T _ y) (E.alloc<|.cells #[.i w] 3):=d;obtain⟨ag,d⟩:=d;obtain⟨J,u⟩:=Wa p (o:=.cells #[.i w] 3) ab (.cells (by simp) (λi v hi=>⟨v,hi,by
   cases i with
   | zero=>simp at hi;subst hi;exact .inr (.atom rfl)
   | succ i=>simp at hi⟩) (λ_ _ h=>h) (λcv cr e D=>by simp[Mp.push] at D)<|λ_=>rfl) V Z (j.trans a)
  refine Jb J (arg u.le hB Mp.push_at (by simp[Mp.push])) (by simp) d λm4 x2 y2 M ac d k F G=>?_;have k:y2=x2:=by
   have t:=VF.int (h:=k);exact(Value.int.inj t).2
  subst k;obtain⟨ad,d⟩:=d;exact⟨⟨m4,M,q.trans<|u.le.trans G.le,ad,F⟩,h' _ _ _ _ _ d F<|u.trans G⟩
 refine⟨?_,?_⟩
 ·refine Akp hs R h λm1 b b' n wr1 d H D s j=>?_;refine⟨⟨m1,n,q.trans j.le,d.1,s⟩,?_,?_⟩
  ·have ae:@call1 (extOf BF) (.int .i64) P f [.agg A,.l (some ⟨b,0,none⟩) 1 1] (λx=>Al true S<| Az [.i w] 3 λb'=>Al true S<| @call1 (extOf BF) (.int .i64) P f [.agg B,.l (some ⟨b',0,none⟩) 1 1] λy=>Al true S<| T x y) n:=d.2;refine Jb s (arg j.le hA H D) (by simp) ae λm2 x y E C d k p a=>?_;have k:y=x:=by
    have t:=VF.int (h:=k);exact(Value.int.inj t).2
   subst k;refine⟨⟨m2,E,q.trans<|j.le.trans a.le,d.1,p⟩,?_⟩;refine Akp p (.cons (.atom rfl) .nil) d.2 λm3 c c' af U d H D J u=>?_;refine⟨⟨m3,af,q.trans<|j.le.trans<|a.le.trans u.le,d.1,J⟩,?_⟩;refine Jb J (arg (j.le.trans<|a.le.trans u.le) hB H D) (by simp) d.2 λm4 x y M ac d k F G=>?_;have k:y=x:=by
    have t:=VF.int (h:=k);exact(Value.int.inj t).2
   subst k;exact⟨⟨m4,M,q.trans<|j.le.trans<|a.le.trans<|u.le.trans G.le,d.1,F⟩,h' _ _ _ _ _ d.2 F<|j.trans<|a.trans<|u.trans G⟩
  ·show(Al true (HA m0 S) _) (wr1.alloc<|.cells #[.i w] 3);obtain⟨p,a⟩:=Ku (o:=.cells #[.i w] 3) s;exact⟨⟨m1,n,q.trans j.le,d.1,p⟩,K (wr1:=wr1) d H D p (j.trans a) j.big En λx I=>by have:=s.rng _ _ I;omega⟩
 ·show(Al true (HA m0 S) _) (wr.alloc<|.cells #[.i w] 3);obtain⟨s,j⟩:=Ku (o:=.cells #[.i w] 3) hs;refine⟨⟨m,wv,q,hS,s⟩,?_⟩;refine Akp s R h λm1 b b' n wr1 d H D p a=>?_;refine⟨⟨m1,n,q.trans a.le,d.1,p⟩,K (wr1:=wr1) d H D p (j.trans a) (le_refl _) ?_ λx I=>?_⟩
  ·rw[a.frame wr.heap.size (by rw[Bp];omega) (λ⟨x,_,_,_,I⟩=>by have:=hs.rng _ _ I;omega)];exact En
  ·rcases a.new x _ I with t|⟨z,_,_,_,t⟩|t
   ·have:=hs.rng _ _ t;omega
   ·have:=hs.rng _ _ t;omega
   ·rw[Bp] at t;omega
end
end Go.Hb
namespace Go.Hb
abbrev L2:=Nat->Option Obj
abbrev HP:=L2->Prop
def EY(h g:L2):Prop:=∀b o,h b=some o->g b=some o
def Apd(h g:L2):Prop:=∀b,h b=none\/g b=none
def stars:List HP->HP
 | [],_=>True
 | p::l,h=>∃a b,EY a h/\EY b h/\Apd a b/\p a/\stars l b
def D4(w:World):L2:=λb=>w.heap[b]?
structure Ab(W0 w:World)(L:List HP):Prop where
 os:w.os=W0.os
 out:w.output=W0.output
 st:stars L (D4 w)
theorem EY.refl(h:L2):EY h h:=λ_ _ h=>h
theorem EY.trans{f g h:L2}(a:EY f g)(b:EY g h):EY f h:=λx o c=>b x o (a x o c)
theorem Apd.sub{f g a c:L2}(h:Apd f g)(e:EY a f)(i:EY c g):Apd a c:=λb=>by
 rcases h b with h|h
 ·left;cases d:a b with
  | none=>rfl
  | some o=>rw[e b o d] at h;cases h
 ·right;cases d:c b with
  | none=>rfl
  | some o=>rw[i b o d] at h;cases h
theorem Lr{L:List HP}{h g:L2}(hs:stars L h)(f:EY h g):stars L g:=by
 cases L with
 | nil=>trivial
 | cons p L=>
  obtain⟨i,j,a,b,c,d,e⟩:=hs;exact⟨i,j,a.trans f,b.trans f,c,d,e⟩
def Lu(f g:L2):L2:=λb=>match f b with
 | some o=>some o
 | none=>g b
theorem Th{p q:HP}{L:List HP}{h:L2}(hs:stars (p::q::L) h):stars (q::p::L) h:=by
 obtain⟨l,v,a,b,c,n,r,m,d,e,f,s,t⟩:=hs;refine⟨r,Lu l m,d.trans b,λx o g=>?_,λx=>?_,s,l,m,λx o g=>?_,λx o g=>?_,c.sub (EY.refl _) e,n,t⟩
 ·unfold Lu at g;split at g
  ·rename_i u j;cases g;exact a _ _ j
  ·exact b _ _ (e _ _ g)
 ·unfold Lu;rcases(c.sub (EY.refl _) d) x with i|i
  ·rw[i];rcases f x with k|k
   ·exact .inl k
   ·exact .inr k
  ·exact .inl i
 ·unfold Lu;rw[g]
 ·unfold Lu;split
  ·rename_i u j;rcases(c.sub (EY.refl _) e) x with i|i
   ·rw[j] at i;cases i
   ·rw[g] at i;cases i
  ·exact g
theorem Ahb{L M:List HP}(i:L.Perm M):∀{h:L2},stars L h->stars M h:=by
 induction i with
 | nil=>exact λh=>h
 | cons x _ j=>exact λ⟨k,m,a,b,c,d,e⟩=>⟨k,m,a,b,c,d,j e⟩
 | swap x y l=>exact λh=>Th h
 | trans _ _ f g=>exact λh=>g (f h)
theorem EM{a:Type _}:∀{l:List a}{i:Nat}(h:i<l.length),(l[i]::l.eraseIdx i).Perm l
 | [],i,h=>by simp at h
 | x::l,0,h=>by simp
 | x::l,i+1,h=>by
  simp only[List.getElem_cons_succ,List.eraseIdx_cons_succ];exact(List.Perm.swap x _ _).trans (List.Perm.cons x<|EM<|by simpa using h)
section
variable{W0 w:World}{L:List HP}
theorem Ab.perm{M:List HP}(h:Ab W0 w L)(a:L.Perm M):Ab W0 w M:=⟨h.os,h.out,Ahb a h.st⟩
theorem Ab.drop{p:HP}(h:Ab W0 w (p::L)):Ab W0 w L:=by
 obtain⟨f,g,a,b,c,d,e⟩:=h.st;exact⟨h.os,h.out,Lr e b⟩
theorem Ab.focus{q:Nat}{p:HP}(h:Ab W0 w L)(b:L[q]? = some p):Ab W0 w (p::L.eraseIdx q):=by
 obtain⟨a,rfl⟩:=List.getElem?_eq_some_iff.1 b;exact h.perm (EM a).symm
theorem Ab.back{q:Nat}{p p':HP}(d:L[q]? = some p')(h:Ab W0 w (p::L.eraseIdx q)):Ab W0 w (L.set q p):=by
 have b:=(List.getElem?_eq_some_iff.1 d).1;have a:q<(L.set q p).length:=by simpa using b
 have c:=EM a;rw[List.getElem_set_self,List.eraseIdx_set_eq] at c;exact h.perm c
theorem Ab.turn{q:Nat}{p p':HP}(h:Ab W0 w L)(f:L[q]? = some p)(i:∀g,p g->p' g):Ab W0 w (L.set q p'):=by
 obtain⟨j,k,a,b,c,d,e⟩:=(h.focus f).st;exact Ab.back f ⟨h.os,h.out,j,k,a,b,c,i _ d,e⟩
theorem Ab.get{q:Nat}{p:HP}(h:Ab W0 w L)(f:L[q]? = some p):∃g,EY g (D4 w)/\p g:=by
 obtain⟨i,j,a,b,c,d,e⟩:=(h.focus f).st;exact⟨i,a,d⟩
theorem Ab.drew(h:Ab W0 w L):Ab W0 w.drew L:=⟨h.os,h.out,h.st⟩
theorem Ab.pure{q:Nat}{p:HP}{c:Prop}(h:Ab W0 w L)(a:L[q]? = some p)(hc:∀g,p g->c):c:=by
 obtain⟨g,_,b⟩:=h.get a;exact hc g b
theorem Ab.ex{q:Nat}{k:Type}{p:k->HP}(h:Ab W0 w L)(f:L[q]? = some (λg=>∃x,p x g)):∃x,Ab W0 w (L.set q<|p x):=by
 obtain⟨i,j,a,b,c,⟨x,d⟩,e⟩:=(h.focus f).st;exact⟨x,Ab.back f ⟨h.os,h.out,i,j,a,b,c,d,e⟩⟩
def A55(p q:HP):HP:=λh=>∃a b,EY a h/\EY b h/\Apd a b/\p a/\q b
theorem Ab.split{p q:HP}(h:Ab W0 w (A55 p q::L)):Ab W0 w (p::q::L):=by
 obtain⟨u,l,a,b,c,⟨n,m,d,e,f,r,s⟩,g⟩:=h.st;refine⟨h.os,h.out,n,Lu m l,d.trans a,λx o i=>?_,λx=>?_,r,m,l,λx o i=>?_,λx o i=>?_,c.sub e<|EY.refl _,s,g⟩
 ·unfold Lu at i;split at i
  ·rename_i t k;cases i;exact a _ _ (e _ _ k)
  ·exact b _ _ i
 ·unfold Lu;rcases f x with j|j
  ·exact .inl j
  ·rw[j];exact c.sub d (EY.refl _) x
 ·unfold Lu;rw[i]
 ·unfold Lu;split
  ·rename_i t k;rcases(c.sub e<|EY.refl _) x with j|j
   ·rw[k] at j;cases j
   ·rw[i] at j;cases j
  ·exact i
theorem Ab.join{p q:HP}(h:Ab W0 w (p::q::L)):Ab W0 w (A55 p q::L):=by
 obtain⟨k,u,a,b,c,m,l,n,d,e,f,r,s⟩:=h.st;refine⟨h.os,h.out,Lu k l,n,λx o g=>?_,e.trans b,λx=>?_,⟨k,l,λx o g=>?_,λx o g=>?_,c.sub (EY.refl _) d,m,r⟩,s⟩
 ·unfold Lu at g;split at g
  ·rename_i t j;cases g;exact a _ _ j
  ·exact b _ _ (d _ _ g)
 ·unfold Lu;rcases(c.sub (EY.refl _) e) x with i|i
  ·rw[i];exact f x
  ·exact .inr i
 ·unfold Lu;rw[g]
 ·unfold Lu;split
  ·rename_i t j;rcases(c.sub (EY.refl _) d) x with i|i
   ·rw[j] at i;cases i
   ·rw[g] at i;cases i
  ·exact g
def blk(b:Nat)(cs:List Value):HP:=λh=>∃T lo hi,h b=some (.cells cs.toArray T (lo,hi))/\∀i,i<cs.length->¬(lo<=i/\i<hi)
def old(W:World):HP:=λh=>EY (D4 W) h
theorem Ayr{w:World}{b o:Nat}{cs:List Value}{T lo hi:Nat}(h:w.heap[b]? = some (.cells cs.toArray T (lo,hi))):w.cell? ⟨b,o,none⟩=cs[o]?:=by
 unfold World.cell?;rw[h];simp
theorem Ab.cell{q b o:Nat}{cs:List Value}(h:Ab W0 w L)(a:L[q]? = some (blk b cs)):w.cell? ⟨b,o,none⟩=cs[o]?:=by
 obtain⟨g,c,T,lo,hi,d,_⟩:=h.get a;exact Ayr (c _ _ d)
theorem Ab.frozen{q b o:Nat}{cs:List Value}(h:Ab W0 w L)(c:L[q]? = some (blk b cs))(d:o<cs.length):w.frozen? ⟨b,o,none⟩=false:=by
 obtain⟨g,e,T,lo,hi,f,i⟩:=h.get c;unfold World.frozen?;have j:w.heap[b]? = some (.cells cs.toArray T (lo,hi)):=e _ _ f;simp only[j];have:=i o d;cases a:(decide (lo<=o) && decide (o<hi)) with
 | false=>rfl
 | true=>simp only[Bool.and_eq_true,decide_eq_true_eq] at a;exact absurd a this
theorem Ab.cell_old{q:Nat}{W:World}{a:Addr}{v:Value}(h:Ab W0 w L)(d:L[q]? = some (old W))(b:W.cell? a=some v):w.cell? a=some v:=by
 obtain⟨g,e,f⟩:=h.get d;unfold World.cell? at b ⊢;cases c:W.heap[a.block]? with
 | none=>rw[c] at b;cases b
 | some o=>
  have:w.heap[a.block]? = some o:=e _ _ (f _ _ c);rw[this];rw[c] at b;exact b
theorem Ab.set{q b o:Nat}{cs:List Value}{v:Value}(h:Ab W0 w L)(k:L[q]? = some (blk b cs)):Ab W0 (w.setCell ⟨b,o,none⟩ v) (L.set q<|blk b<|cs.set o v):=by
 obtain⟨s,l,m,n,hc,⟨T,lo,hi,f,p⟩,r⟩:=(h.focus k).st;apply Ab.back k;have g:w.heap[b]? = some (.cells cs.toArray T (lo,hi)):=m _ _ f;have e:D4 (w.setCell ⟨b,o,none⟩ v) b=some (.cells (cs.set o v).toArray T (lo,hi)):=by
  simp[D4,World.setCell,Array.getElem?_modify,g]
 refine⟨h.os,h.out,λx=>if x=b then some (.cells (cs.set o v).toArray T (lo,hi)) else none,l,λx y d=>?_,λx y d=>?_,λx=>?_,⟨T,lo,hi,by simp,λi j=>p i<|by simpa using j⟩,r⟩
 ·simp only at d;split at d
  ·rename_i a;subst a;cases d;exact e
  ·cases d
 ·have a:x≠b:=by
   intro a;subst a
   rcases hc x with c|c
   ·rw[f] at c;cases c
   ·rw[d] at c;cases c
  have:=n _ _ d;simp only[D4,World.setCell,Array.getElem?_modify] at this ⊢;rw[if_neg<|Ne.symm a];exact this
 ·simp only
  by_cases a:x=b
  ·subst a;rcases hc x with c|c
   ·rw[f] at c;cases c
   ·exact .inr c
  ·left;rw[if_neg a]
theorem Ab.alloc{cs:List Value}{T:TypeId}(h:Ab W0 w L):Ab W0 (w.alloc<|.cells cs.toArray T) (blk w.heap.size cs::L):=by
 have c:EY (D4 w) (D4<|w.alloc<|.cells cs.toArray T):=by
  intro x y b;simp only[D4,World.alloc,Array.getElem?_push] at b ⊢;have d:x<w.heap.size:=(Array.getElem?_eq_some_iff.1 b).1;rw[if_neg<|by omega];exact b
 refine⟨h.os,h.out,λx=>if x=w.heap.size then some (.cells cs.toArray T (0,0)) else none,D4 w,λx y b=>?_,c,λx=>?_,⟨T,0,0,by simp,λi _=>by omega⟩,h.st⟩
 ·simp only at b;split at b
  ·rename_i a;subst a;cases b;show(w.heap.push _)[w.heap.size]? = _;simp
  ·cases b
 ·simp only
  by_cases a:x=w.heap.size
  ·right;subst a;simp[D4]
  ·left;rw[if_neg a]
theorem Bcx{k:CK}{x:k.ty}(a:k = .any->isU (k.val x)=false):k.un (k.val x)=some x:=by
 cases k with
 | int k=>cases k <;> rfl
 | any=>have h:=a rfl;simp only[CK.un,CK.val] at h ⊢;rw[h];rfl
 | _=>rfl
theorem Mm{k:CK}{b o:Nat}{x:k.ty}{K:k.ty->WP}(hc:w.cell? ⟨b,o,none⟩=some (k.val x))(a:k ≠ .any)(c:K x w):ld k b o K w:=by
 unfold ld;rw[hc];simp only[bind_some,Bcx<|λh=>absurd h a];exact c
theorem Bck(q:Nat){k:CK}{b o:Nat}{cs:List Value}{x:k.ty}{K:k.ty->WP}(h:Ab W0 w L)(a:L[q]? = some (blk b cs))(hc:cs[o]? = some (k.val x))(c:K x w)
  (d:k ≠ .any:=by simp):ld k b o K w:=Mm (by rw[h.cell a];exact hc) d c
theorem Jf(q:Nat){b o:Nat}{cs:List Value}{v:Value}{K:WP}(h:Ab W0 w L)(a:L[q]? = some (blk b cs))(c:o<cs.length)(d:∀w',Ab W0 w' (L.set q<|blk b<|cs.set o v)->K w'):st b o v K w:=by
 refine⟨?_,h.frozen a c,d _<|h.set a⟩;rw[h.cell a,List.getElem?_eq_getElem c];rfl
theorem Ak{cs:List Value}{T:TypeId}{K:Nat->WP}(h:Ab W0 w L)(a:∀b w',Ab W0 w' (blk b cs::L)->K b w'):Az cs T K w:=a _ _ h.alloc
theorem Aa{b o:Nat}{K:Nat->Nat->WP}(a:K b o w):Ac (some ⟨b,o,none⟩) K w:=⟨_,_,rfl,a⟩
theorem A1{c:Prop}{K:WP}(hc:c)(a:K w):AV c K w:=⟨hc,a⟩
theorem Zb{K:(World->Prop)->WP}(S:World->Prop)(a:S w.drew)(b:K S w.drew):A5 K w:=⟨S,a,b⟩
theorem BJ{S:World->Prop}{K:WP}(a:S w)(b:K w):Al true S K w:=⟨a,b⟩
theorem HF{k:CK}{b o:Nat}{S:World->Prop}(x:k.ty){K:k.ty->WP}(hc:∀w',S w'->w'.cell? ⟨b,o,none⟩=some (k.val x))(a:K x w):TK S k b o K w:=⟨x,hc,a⟩
theorem Am{b:Bool}{K M:WP}(a:b=true)(c:K w):Aj b K M w:=by subst a;exact c
theorem Ad{b:Bool}{K M:WP}(a:b=false)(c:M w):Aj b K M w:=by subst a;exact c
theorem As{b:Bool}{K M:WP}(a:b=true->K w)(c:b=false->M w):Aj b K M w:=by
 cases b
 ·exact c rfl
 ·exact a rfl
end
end Go.Hb
namespace Go.Hb
def Lp(sz:Nat)(s:Sl)(cs:List Value):HP:=λh=>
 (cs.length=s.n*sz/\s.n<=s.c)/\((s.a=none/\s.n=0/\s.c=0)\/∃b o pre tl,s.a=some ⟨b,o,none⟩/\pre.length=o/\blk b (pre++cs++tl) h/\(s.c-s.n)*sz<=tl.length)
theorem Kt{L:List HP}{q:Nat}{p:HP}(h:q<L.length):(L.set q p)[q]? = some p:=by simp[h]
section
variable{W0 w:World}{L:List HP}
theorem IY{sz:Nat}{s:Sl}{cs:List Value}{q:Nat}(h:Ab W0 w L)(a:L[q]? = some (Lp sz s cs)):cs.length=s.n*sz/\s.n<=s.c:=
 h.pure a λ_ b=>b.1
theorem Ab.openS{sz:Nat}{s:Sl}{cs:List Value}{q:Nat}{b o:Nat}(h:Ab W0 w L)(i:L[q]? = some (Lp sz s cs))(d:s.a=some ⟨b,o,none⟩) :
  ∃pre tl,pre.length=o/\cs.length=s.n*sz/\s.n<=s.c/\(s.c-s.n)*sz<=tl.length/\Ab W0 w (L.set q<|blk b<|pre++cs++tl):=by
 obtain⟨j,k,a,b',c,⟨⟨l,m⟩,f⟩,e⟩:=(h.focus i).st;rcases f with⟨f,_⟩|⟨b1,u,pre,tl,g,p,r,t⟩
 ·rw[f] at d;cases d
 ·rw[g] at d;cases d;exact⟨pre,tl,p,l,m,t,Ab.back i ⟨h.os,h.out,j,k,a,b',c,r,e⟩⟩
theorem Ab.shutS{sz:Nat}{s:Sl}{cs pre tl:List Value}{q:Nat}{b o:Nat}(h:Ab W0 w L)(d:L[q]? = some (blk b<|pre++cs++tl))(e:s.a=some ⟨b,o,none⟩)(f:pre.length=o)
  (g:cs.length=s.n*sz) (i:s.n<=s.c) (j:(s.c-s.n)*sz<=tl.length):Ab W0 w (L.set q<|Lp sz s cs):=
 h.turn d λ_ k=>⟨⟨g,i⟩,.inr ⟨b,o,pre,tl,e,f,k,j⟩⟩
theorem A9s(q:Nat){sz:Nat}{s:Sl}{cs:List Value}{i:Int}{K:Nat->Nat->WP}(h:Ab W0 w L)(e:L[q]? = some (Lp sz s cs))(f:0<=i)(j:i<(s.n:Int))
  (k:∀b o,s.a=some ⟨b,o,none⟩->K b o w):CU s.a s.n i K w:=by
 obtain⟨g,_,⟨l,m⟩,d⟩:=h.get e;rcases d with⟨_,d,_⟩|⟨b,o,pre,tl,c,_⟩
 ·omega
 ·exact⟨b,o,c,⟨f,j⟩,k b o c⟩
theorem Tf{q sz:Nat}{s:Sl}{cs:List Value}{b o j:Nat}(h:Ab W0 w L)(d:L[q]? = some (Lp sz s cs))(e:s.a=some ⟨b,o,none⟩)(i:j<cs.length):w.cell? ⟨b,o+j,none⟩=cs[j]?:=by
 obtain⟨pre,tl,f,_,_,_,g⟩:=h.openS d e;have c:=(List.getElem?_eq_some_iff.1 d).1;rw[g.cell (q:=q)<|Kt c];subst f;rw[append_assoc,List.getElem?_append_right<|by omega,List.getElem?_append_left<|by simp;omega]
 simp
theorem Ba5(q:Nat){sz:Nat}{s:Sl}{cs:List Value}{b o p j:Nat}{v:Value}{K:WP}(h:Ab W0 w L)(g:L[q]? = some (Lp sz s cs))(i:s.a=some ⟨b,o,none⟩)
  (e:p=o+j) (x:j<cs.length) (l:∀w',Ab W0 w' (L.set q<|Lp sz s<|cs.set j v)->K w'):st b p v K w:=by
 subst e;obtain⟨pre,tl,e,m,n,r,t⟩:=h.openS g i;have c:=(List.getElem?_eq_some_iff.1 g).1;have f:(L.set q<|blk b<|pre++cs++tl)[q]? = some (blk b<|pre++cs++tl):=by simp[c]
 refine Jf q t f (by simp;omega) λw' k=>l w' ?_;subst e;have d:(pre++cs++tl).set (pre.length+j) v=pre++cs.set j v++tl:=by
  rw[append_assoc,List.set_append_right _ _<|by omega,List.set_append_left _ _<|by simp;omega];simp
 rw[d] at k;have u:=k.shutS (q:=q) (s:=s) (sz:=sz) (Kt<|by simpa using c) i rfl (by simpa using m) n r;simpa using u
def Ahu(W:World)(sz:Nat)(s:Sl)(cs:List Value):Prop:=
 cs.length=s.n*sz/\((s.a=none/\s.n=0)\/∃b o,s.a=some ⟨b,o,none⟩/\∀j,j<cs.length->W.cell? ⟨b,o+j,none⟩=cs[j]?)
theorem Yz{w:World}{b:Nat}:∀(cs:List Value)(o:Nat),(∀j,j<cs.length->w.cell? ⟨b,o+j,none⟩=cs[j]?)->T5 w b o cs.length=some cs
 | [],_,_=>rfl
 | c::cs,o,h=>by
  have a:=h 0 (by simp);have d:=Yz cs (o+1) λj e=>by
   have:=h (j+1) (by simpa using e);rw[show o+1+j=o+(j+1) by omega,this];simp
  simp only[List.length_cons,T5];rw[show w.cell? ⟨b,o,none⟩=some c by simpa using a];simp only[d]
theorem Bal(q:Nat){sz:Nat}{s:Sl}{cs:List Value}(h:Ab W0 w L)(d:L[q]? = some (Lp sz s cs)):H3 w s.a (s.n*sz)=some cs:=by
 have e:=(IY h d).1;obtain⟨g,_,_,f⟩:=h.get d;rcases f with⟨c,i,_⟩|⟨b,o,pre,tl,c,_⟩
 ·rw[c];have:cs=[]:=List.length_eq_zero_iff.1 (by rw[e,i];simp)
  simp[H3,this]
 ·rw[c,<- e];exact Yz cs o λj j=>Tf h d c j
theorem Bak(q:Nat){b:Nat}{cs:List Value}{n:Nat}(h:Ab W0 w L)(a:L[q]? = some (blk b cs))(c:n=cs.length):H3 w (some ⟨b,0,none⟩) n=some cs:=by
 subst c;exact Yz cs 0 λj _=>by rw[h.cell a];simp
theorem QX(q:Nat){b:Nat}:∀(vs:List Value)(w:World)(L:List HP)(pre mid tl:List Value)(K:WP),Ab W0 w L->L[q]? = some (blk b<|pre++mid++tl)->mid.length=vs.length ->
  (∀w',Ab W0 w' (L.set q<|blk b<|pre++vs++tl)->K w')->T7 vs b pre.length K w
 | [],w,L,pre,mid,tl,K,h,c,d,e=>by
  have:mid=[]:=List.length_eq_zero_iff.1 (by simpa using d);subst this;refine e w ?_;have:=h.turn c λ_ i=>i;exact this
 | v::vs,w,L,pre,m::mid,tl,K,h,c,d,e=>by
  have f:=(List.getElem?_eq_some_iff.1 c).1;refine Jf q h c (by simp) λw' g=>?_;have a:(pre++(m::mid)++tl).set pre.length v=(pre++[v])++mid++tl:=by
   rw[append_assoc,List.set_append_right _ _<|by omega];simp
  rw[a] at g;have:=QX q vs w' _ (pre++[v]) mid tl K g (Kt f) (by simpa using d) (λj k=>e j<|by simpa using k);simpa using this
theorem Ab.killS{sz:Nat}{s:Sl}{cs:List Value}{M:List HP}(h:Ab W0 w (Lp sz s cs::M)):Ab W0 (K9 w s.a) M:=by
 obtain⟨p,q,r,k,hc,⟨_,l⟩,m⟩:=h.st;rcases l with⟨n,_⟩|⟨b,o,pre,tl,f,_,c,_⟩
 ·rw[n];exact h.drop
 ·rw[f];obtain⟨T,lo,hi,g,_⟩:=c;refine⟨h.os,h.out,Lr m λx y j=>?_⟩;have i:x≠b:=by
   intro e;subst e
   rcases hc x with d|d
   ·rw[g] at d;cases d
   ·rw[j] at d;cases d
  have:=k x y j;show(Fb w b).heap[x]? = some y;simp only[Fb,Array.getElem?_modify];rw[if_neg<|Ne.symm i];exact this
theorem Agf{w:World}{a:OA}:(K9 w a).heap.size=w.heap.size:=by cases a <;> simp[K9,Fb]
theorem Ao1(q:Nat){e sz y:Nat}{z:List Value}{s:Sl}{cs:List Value}{n:Nat}{new:World->Option (List Value)}{vs:List Value}{K:Sl->WP}(h:Ab W0 w L)(j:L[q]? = some (Lp sz s cs))
  (A:new w=some vs) (E:Mv vs=true) (k:vs.length=n*sz) (Z:z.length=sz) (F:(s.n+n)*y<=140737488355328) (B:0<sz)
  (G:∀s' w',s'.n=s.n+n->s'.n<=s'.c->(s'.c=s.c/\s'.a=s.a\/s.n+n>s.c)->Ab W0 w' (L.set q<|Lp sz s'<|cs++vs)->K s' w'):Bl e sz y z s n new K w:=by
 have t:=(List.getElem?_eq_some_iff.1 j).1;obtain⟨H,hn⟩:=IY h j;refine⟨vs,A,⟨E,k,B⟩,?_⟩
 by_cases m:s.n+n<=s.c
 ·rw[if_pos m];cases d:s.a with
  | none=>
   obtain⟨g,_,_,l⟩:=h.get j;rcases l with⟨_,u,v⟩|⟨b,o,pre,tl,f,_⟩
   ·have I:n=0:=by omega
    subst I;have R:vs=[]:=List.length_eq_zero_iff.1 (by simpa using k);subst R;show K ⟨none,s.n+0,s.c⟩ w;refine G _ w rfl (by simp;omega) (.inl ⟨rfl,d.symm⟩) ?_
    refine h.turn j λg C=>?_;obtain⟨⟨J,x⟩,D⟩:=C;refine⟨⟨by simpa using J,by simpa using x⟩,.inl ⟨rfl,by simpa using u,v⟩⟩
   ·rw[f] at d;cases d
  | some a=>
   obtain⟨b,o,M⟩:∃b o,a=⟨b,o,none⟩:=by
    obtain⟨g,_,_,l⟩:=h.get j;rcases l with⟨l,_⟩|⟨b,o,pre,tl,f,_⟩
    ·rw[l] at d;cases d
    ·rw[f] at d;cases d;exact⟨b,o,rfl⟩
   subst M;obtain⟨pre,tl,S,_,_,P,Q⟩:=h.openS j d;subst S;have U:n*sz<=tl.length:=Nat.le_trans (Nat.mul_le_mul_right _<|by omega) P;have r:pre++cs++tl=(pre++cs)++tl.take (n*sz)++tl.drop (n*sz):=by simp
   rw[r] at Q;show T7 vs b (pre.length+s.n*sz) _ w;have:=QX (W0:=W0) q vs w _ (pre++cs) (tl.take<|n*sz) (tl.drop<|n*sz) (K ⟨s.a,s.n+n,s.c⟩) Q (Kt t) (by simp[k];omega) (λw' x=>by
    refine G _ w' rfl (by simpa using m) (.inl ⟨rfl,rfl⟩) ?_;have D:=x.shutS (q:=q) (s:=⟨s.a,s.n+n,s.c⟩) (sz:=sz) (pre:=pre) (cs:=cs++vs) (tl:=tl.drop (n*sz)) (b:=b) (o:=pre.length) (by have:=Kt (L:=L.set q (blk b<|pre++cs++List.take (n*sz) tl++List.drop (n*sz) tl)) (q:=q) (p:=blk b (pre++cs++vs++tl.drop (n*sz))) (by simpa using t);simpa using this) d rfl
     (by simp[H,k,add_mul]) (by simpa using m) (by
      simp only[List.length_drop];have V:(s.c-(s.n+n))*sz+n*sz=(s.c-s.n)*sz:=by rw[<- add_mul];congr 1;omega
      omega)
    simpa using D)
   rw[d] at this;simpa[H] using this
 ·rw[if_neg m];refine⟨λc hc=>growslice_fits (by omega) F,?_,cs,Bal q h j,?_⟩
  ·unfold A7c;cases d:s.a with
   | none=>
    obtain⟨g,_,_,l⟩:=h.get j;rcases l with⟨_,u,v⟩|⟨b,o,pre,tl,f,_⟩
    ·exact⟨u,v⟩
    ·rw[f] at d;cases d
   | some a=>
    obtain⟨g,C,_,l⟩:=h.get j;rcases l with⟨l,_⟩|⟨b,o,pre,tl,f,W,⟨T,lo,hi,N,X⟩,P⟩
    ·rw[l] at d;cases d
    ·rw[f] at d;cases d
     refine⟨_,T,lo,hi,C _ _ N,?_,λi O=>X i<|by simpa using O⟩;subst W;simp only[List.size_toArray,List.length_append];have V:s.c*sz=s.n*sz+(s.c-s.n)*sz:=by rw[<- add_mul];congr 1;omega
     omega
  ·refine G _ _ rfl (le_refl _) (.inr<|by omega) ?_;have J:=(h.focus j).killS;have x:=J.alloc (cs:=cs++vs) (T:=e);rw[Agf] at x;have D:=Ab.back (q:=q) j x;have Y:=D.turn (q:=q) (p':=Lp sz ⟨some ⟨w.heap.size,0,none⟩,s.n+n,s.n+n⟩ (cs++vs)) (Kt t) λg C=>
    ⟨⟨by simp[H,k,add_mul],le_refl _⟩,.inr ⟨_,0,[],[],rfl,rfl,by simpa using C,by simp⟩⟩
   simpa using Y
theorem Bdm{sz:Nat}(h:Ab W0 w L):Ab W0 w (Lp sz ⟨none,0,0⟩ []::L):=
 ⟨h.os,h.out,λ_=>none,D4 w,(λ_ _ a=>by cases a),EY.refl _,λ_=>.inl rfl,⟨⟨by simp,by simp⟩,.inl ⟨rfl,rfl,rfl⟩⟩,h.st⟩
theorem EJ{e by_ sz:Nat}{z:List Value}{l c:Int}{K:Sl->WP}(h:Ab W0 w L)(hz:z.length=sz)(h0:0<=l)(h1:l<=c)(h2:c<=4611686018427387904)(h3:(by_:Int)*c<=281474976710656)
  (hK:∀s w',s.n=l.toNat->s.c=c.toNat->s.a≠none->Ab W0 w' (Lp sz s (CH z l.toNat)::L)->K s w'):Ij e by_ z l c K w:=by
 refine⟨⟨h0,h1,h2,h3⟩,?_⟩;refine Ak h λb w' h'=>hK _ w' rfl rfl (by simp) ?_;have hsplit:CH z c.toNat=CH z l.toNat++CH z (c.toNat-l.toNat):=by
  have:∀a b,CH z (a+b)=CH z a++CH z b:=by
   intro a b
   induction a with
   | zero=>simp[CH]
   | succ a ih=>rw[Nat.succ_add];simp[CH,ih]
  rw[<- this];congr 1;omega
 rw[hsplit] at h';exact h'.turn (q:=0) rfl λg hg=>⟨⟨by rw[FX,hz],by simp;omega⟩,.inr ⟨b,0,[],CH z (c.toNat-l.toNat),rfl,rfl,by simpa using hg,by rw[FX,hz];exact le_refl _⟩⟩
variable{P:Program}{f:FuncId}{args:List Value}
theorem Av{K:WP}{R:Ending->World->Prop}(a:Ai P f args.toArray w R)(hR:∀e w',R e w'->e = .returned (.tuple #[])/\K w'):HT P f args K w:=a.mono hR
theorem Ao{k:CK}{K:k.ty->WP}{R:Ending->World->Prop}(a:Ai P f args.toArray w R)(hR:∀e w',R e w'->∃x,e = .returned (k.val x)/\K x w'):call1 k P f args K w:=a.mono hR
theorem AJ{k l:CK}{K:k.ty->l.ty->WP}{R:Ending->World->Prop}(a:Ai P f args.toArray w R)(hR:∀e w',R e w'->∃x y,e = .returned (.tuple #[k.val x,l.val y])/\K x y w') :
  GC k l P f args K w:=a.mono hR
end
end Go.Hb
namespace Go.Hb
def upd{c:Type}(f:Nat->c)(a:Nat)(b:c):Nat->c:=λx=>if x=a then b else f x
theorem Gd{c:Type}(f:Nat->c)(a:Nat)(b:c):upd f a b a=b:=by simp[upd]
theorem Bt{c:Type}{f:Nat->c}{a:Nat}{b:c}{x:Nat}(h:x≠a):upd f a b x=f x:=by simp[upd,h]
def E4(a b:Nat->Nat):List Nat->Prop
 | []=>True
 | [_]=>True
 | x::y::t=>a x=y/\b y=x/\E4 a b (y::t)
variable{nx pv nx' pv':Nat->Nat}
theorem E4.mono:∀{w:List Nat},E4 nx pv w->(∀x∈w.dropLast,nx' x=nx x)->(∀y∈w.tail,pv' y=pv y)->E4 nx' pv' w
 | [],_,_,_=>trivial
 | [_],_,_,_=>trivial
 | x::y::t,⟨d,e,f⟩,b,c=>by
  refine⟨by rw[b x<|by simp];exact d,by rw[c y<|by simp];exact e,f.mono (λz a=>b z ?_) λz a=>c z ?_⟩
  ·simp only[List.dropLast_cons_cons];exact List.mem_cons_of_mem _ a
  ·simp only[tail_cons];exact List.mem_cons_of_mem _ a
theorem E4.append:∀{a b:List Nat}{x:Nat},E4 nx pv (a++x::b)↔E4 nx pv (a++[x])/\E4 nx pv (x::b)
 | [],b,x=>by simp[E4]
 | [y],b,x=>by simp[E4,and_assoc]
 | y::z::t,b,x=>by
  have:=E4.append (a:=z::t) (b:=b) (x:=x);simp only[cons_append,E4] at this ⊢;rw[this];simp[and_assoc]
def Ea(b c:Nat->Nat)(a:List Nat):Prop:=E4 b c (0::(a++[0]))
theorem Y9{a:List Nat}(h:Ea nx pv a):nx 0=a.headD 0:=by
 cases a with
 | nil=>exact h.1
 | cons x t=>exact h.1
theorem Adw{a:List Nat}(h:Ea nx pv a):pv 0=a.getLastD 0:=by
 rcases List.eq_nil_or_concat a with rfl|⟨l,x,rfl⟩
 ·exact h.2.1
 ·have e:0::((l++[x])++[0])=(0::l)++x::[0]:=by simp
  unfold Ea at h;simp only[List.concat_eq_append] at h ⊢;rw[e,E4.append] at h;rw[h.2.2.1];simp[List.getLastD_eq_getLast?]
theorem Kv{a b:List Nat}{x:Nat}(h:Ea nx pv (a++x::b)):nx x=b.headD 0/\pv x=a.getLastD 0:=by
 have e:0::((a++x::b)++[0])=(0::a)++x::(b++[0]):=by simp
 unfold Ea at h;rw[e,E4.append] at h;refine⟨?_,?_⟩
 ·cases b with
  | nil=>exact h.2.1
  | cons y t=>exact h.2.1
 ·rcases List.eq_nil_or_concat a with rfl|⟨l,y,rfl⟩
  ·exact h.1.2.1
  ·have c:0::(l++[y])++[x]=(0::l)++y::[x]:=by simp
   simp only[List.concat_eq_append] at h ⊢;rw[c,E4.append] at h;rw[h.1.2.2.1];simp[List.getLastD_eq_getLast?]
theorem Aha{f g:List Nat}{x:Nat}(h:Ea nx pv (f++g))(q:x∉0::(f++g))(r:(0::(f++g)).Nodup) :
  Ea (upd (upd nx x<|g.headD 0) (f.getLastD 0) x) (upd (upd pv x<|f.getLastD 0) (g.headD 0) x) (f++x::g):=by
 obtain⟨p,A,hA⟩:∃p A,0::f=A++[p]:=⟨(0::f).getLast<|by simp,(0::f).dropLast,(List.dropLast_concat_getLast<|by simp).symm⟩;obtain⟨n,B,hB⟩:∃n B,g++[0]=n::B:=by
  cases g with
  | nil=>exact⟨0,[],rfl⟩
  | cons y t=>exact⟨y,t++[0],rfl⟩
 have F:f.getLastD 0=p:=by
  have:=congrArg (λl=>l.getLastD 0) hA;simp only[List.getLastD_cons] at this;rw[this];simp[List.getLastD_eq_getLast?]
 have v:g.headD 0=n:=by
  cases g with
  | nil=>simp at hB;simp[hB.1]
  | cons y t=>simp at hB;simp[hB.1]
 rw[F,v];have s:0::((f++g)++[0])=A++p::(n::B):=by
  have:0::((f++g)++[0])=(0::f)++(g++[0]):=by simp
  rw[this,hA,hB];simp
 have w:0::((f++x::g)++[0])=A++p::(x::(n::B)):=by
  have:0::((f++x::g)++[0])=(0::f)++x::(g++[0]):=by simp
  rw[this,hA,hB];simp
 unfold Ea at h ⊢;rw[s] at h;rw[w];obtain⟨z,u⟩:=E4.append.1 h;obtain⟨_,_,hc⟩:=u;have k:(A++p::(n::B).dropLast).Nodup:=by
  have:(0::((f++g)++[0])).dropLast=0::(f++g):=by
   rw[show 0::((f++g)++[0])=(0::(f++g))++[0] by simp,dropLast_concat]
  rw[s,List.dropLast_append_of_ne_nil<|by simp] at this;rw[<- this] at r;simpa using r
 have c:((A++p::(n::B)).tail).Nodup:=by
  rw[<- s];simp only[tail_cons];rw[nodup_append];simp only[nodup_cons] at r;exact⟨r.2,by simp,λa z b u=>by simp at u;subst u;intro C;subst C;exact r.1 z⟩
 have j:x∉A++p::(n::B):=by
  rw[<- s];simp only[mem_cons,mem_append,not_or] at q ⊢;exact⟨q.1,⟨⟨q.2.1,q.2.2⟩,q.1,by simp⟩⟩
 have D:x≠p:=λe=>j (by simp[e]);have E:x≠n:=λe=>j (by simp[e]);rw[E4.append];refine⟨z.mono (λy d=>?_)<|λy d=>?_,?_⟩
 ·rw[dropLast_concat] at d;have m:y≠p:=by
   intro e;subst e
   rw[nodup_append] at k;exact k.2.2 y d y (by simp) rfl
  have i:y≠x:=by rintro rfl;exact j (by simp[d])
  rw[Bt m,Bt i]
 ·have o:y≠n:=by
   rintro rfl;cases A with
   | nil=>simp at d
   | cons a G=>
    simp only[cons_append,tail_cons] at d c;rw[nodup_append] at c;rcases mem_append.1 d with d|d
    ·exact c.2.2 y d y (by simp) rfl
    ·simp at d;subst d;simp at c
  have i:y≠x:=by
   rintro rfl;exact j (by
    have:=List.mem_of_mem_tail d;rcases mem_append.1 this with h|h
    ·simp[h]
    ·simp at h;simp[h])
  rw[Bt o,Bt i]
 refine⟨Gd _ _ _,?_,?_⟩
 ·rw[Bt E,Gd]
 refine⟨?_,Gd _ _ _,hc.mono (λy d=>?_)<|λy d=>?_⟩
 ·rw[Bt D,Gd]
 ·have m:y≠p:=by
   rintro rfl;rw[nodup_append] at k;simp only[nodup_cons] at k;exact k.2.1.1 d
  have i:y≠x:=by
   rintro rfl;exact j (by have:=(List.dropLast_sublist _).subset d;simp at this;rcases this with h|h <;> simp[h])
  rw[Bt m,Bt i]
 ·simp only[tail_cons] at d;have o:y≠n:=by
   rintro rfl;cases A with
   | nil=>
    simp only[List.nil_append,tail_cons,nodup_cons] at c;exact c.1 d
   | cons a G=>
    simp only[cons_append,tail_cons] at c;rw[nodup_append] at c;simp only[nodup_cons] at c;exact c.2.1.2.1 d
  have i:y≠x:=by rintro rfl;exact j (by simp[d])
  rw[Bt o,Bt i]
theorem Adx{d f:List Nat}{x:Nat}(h:Ea nx pv (d++x::f))(o:(0::(d++x::f)).Nodup) :
  Ea (upd nx (d.getLastD 0)<|f.headD 0) (upd pv (f.headD 0)<|d.getLastD 0) (d++f):=by
 obtain⟨p,A,hA⟩:∃p A,0::d=A++[p]:=⟨(0::d).getLast<|by simp,(0::d).dropLast,(List.dropLast_concat_getLast<|by simp).symm⟩;obtain⟨n,B,hB⟩:∃n B,f++[0]=n::B:=by
  cases f with
  | nil=>exact⟨0,[],rfl⟩
  | cons y t=>exact⟨y,t++[0],rfl⟩
 have z:d.getLastD 0=p:=by
  have:=congrArg (λl=>l.getLastD 0) hA;simp only[List.getLastD_cons] at this;rw[this];simp[List.getLastD_eq_getLast?]
 have s:f.headD 0=n:=by
  cases f with
  | nil=>simp at hB;simp[hB.1]
  | cons y t=>simp at hB;simp[hB.1]
 rw[z,s];have u:0::((d++f)++[0])=A++p::(n::B):=by
  have:0::((d++f)++[0])=(0::d)++(f++[0]):=by simp
  rw[this,hA,hB];simp
 have v:0::((d++x::f)++[0])=A++p::(x::(n::B)):=by
  have:0::((d++x::f)++[0])=(0::d)++x::(f++[0]):=by simp
  rw[this,hA,hB];simp
 unfold Ea at h ⊢;rw[v] at h;rw[u];obtain⟨r,q⟩:=E4.append.1 h;obtain⟨_,_,_,_,hc⟩:=q;have i:(0::(d++f)).Nodup:=by
  simp only[nodup_cons,mem_append,mem_cons,not_or,nodup_append] at o ⊢;exact⟨⟨o.1.1,o.1.2.2⟩,o.2.1,o.2.2.1.2,λa r b q=>o.2.2.2 a r b<|.inr q⟩
 have j:(A++p::(n::B).dropLast).Nodup:=by
  have:(0::((d++f)++[0])).dropLast=0::(d++f):=by
   rw[show 0::((d++f)++[0])=(0::(d++f))++[0] by simp,dropLast_concat]
  rw[u,List.dropLast_append_of_ne_nil<|by simp] at this;rw[<- this] at i;simpa using i
 have c:((A++p::(n::B)).tail).Nodup:=by
  rw[<- u];simp only[tail_cons];rw[nodup_append];simp only[nodup_cons] at i;exact⟨i.2,by simp,λa r b q=>by simp at q;subst q;intro w;subst w;exact i.1 r⟩
 rw[E4.append];refine⟨r.mono (λy g=>?_)<|λy g=>?_,Gd _ _ _,Gd _ _ _,hc.mono (λy g=>?_)<|λy g=>?_⟩
 ·rw[dropLast_concat] at g;have k:y≠p:=by
   intro e;subst e
   rw[nodup_append] at j;exact j.2.2 y g y (by simp) rfl
  rw[Bt k]
 ·have m:y≠n:=by
   rintro rfl;cases A with
   | nil=>simp at g
   | cons a C=>
    simp only[cons_append,tail_cons] at g c;rw[nodup_append] at c;rcases mem_append.1 g with g|g
    ·exact c.2.2 y g y (by simp) rfl
    ·simp at g;subst g;simp at c
  rw[Bt m]
 ·have k:y≠p:=by
   rintro rfl;rw[nodup_append] at j;simp only[nodup_cons] at j;exact j.2.1.1 g
  rw[Bt k]
 ·simp only[tail_cons] at g;have m:y≠n:=by
   rintro rfl;cases A with
   | nil=>
    simp only[List.nil_append,tail_cons,nodup_cons] at c;exact c.1 g
   | cons a C=>
    simp only[cons_append,tail_cons] at c;rw[nodup_append] at c;simp only[nodup_cons] at c;exact c.2.1.2.1 g
  rw[Bt m]
end Go.Hb
namespace Go.Hb
theorem Ab0{k:Nat}:∀{rows:List (List Value)},(∀r∈rows,r.length=k)->rows.flatten.length=rows.length*k
 | [],_=>by simp
 | r::rows,h=>by
  simp only[flatten_cons,List.length_append,List.length_cons];rw[h r<|.head _,Ab0 λx a=>h x<|.tail _ a,add_mul,Nat.one_mul,Nat.add_comm]
theorem flat_get{k:Nat}:∀{rows:List (List Value)}{i j:Nat},(∀r∈rows,r.length=k)->j<k->rows.flatten[i*k+j]? = (rows[i]?).bind (·[j]?)
 | [],i,j,_,_=>by simp
 | r::rows,0,j,h,a=>by
  have:=h r (.head _);simp only[flatten_cons,Nat.zero_mul,Nat.zero_add,List.getElem?_cons_zero,bind_some];rw[List.getElem?_append_left<|by omega]
 | r::rows,i+1,j,h,a=>by
  have:=h r (.head _);simp only[flatten_cons,List.getElem?_cons_succ];rw[List.getElem?_append_right<|by rw[add_mul];omega,<- flat_get (λx b=>h x<|.tail _ b) a]
  congr 1;rw[add_mul];omega
theorem flat_set{k:Nat}:∀{rows:List (List Value)}{i j:Nat}{v:Value}{r:List Value},(∀r∈rows,r.length=k)->j<k->rows[i]? = some r->rows.flatten.set (i*k+j) v=(rows.set i<|r.set j v).flatten
 | [],i,j,_,_,_,_,a=>by simp at a
 | b::rows,0,j,v,r,h,c,a=>by
  have:=h b (.head _);simp only[List.getElem?_cons_zero,Option.some.injEq] at a;subst a;simp only[flatten_cons,Nat.zero_mul,Nat.zero_add,List.set_cons_zero];rw[List.set_append_left _ _<|by omega]
 | b::rows,i+1,j,v,r,h,c,a=>by
  have:=h b (.head _);simp only[List.getElem?_cons_succ] at a;simp only[flatten_cons,List.set_cons_succ];rw[List.set_append_right _ _<|by rw[add_mul];omega,<- flat_set (λx d=>h x<|.tail _ d) c a]
  congr 2;rw[add_mul];omega
structure Lk where
 v:Value
 prev:Nat
 next:Nat
 there:Bool
def Lk.cells(l:Lk):List Value:=[l.v,.i l.prev,.i l.next,.bool l.there]
instance:Inhabited Lk:=⟨⟨unk,0,0,false⟩⟩
def Er(ls:List Lk)(h:Nat):Nat:=(ls.getD h default).next
def Es(ls:List Lk)(h:Nat):Nat:=(ls.getD h default).prev
def Fp(ls:List Lk)(h p:Nat):List Lk:=ls.set h { ls.getD h default with prev:=p }
def Fo(ls:List Lk)(h n:Nat):List Lk:=ls.set h { ls.getD h default with next:=n }
theorem Fl{ls:List Lk}{h x:Nat}{l:Lk}(a:h<ls.length):(ls.set h l).getD x default=if x=h then l else ls.getD x default:=by
 rw[List.getD_eq_getElem?_getD,List.getElem?_set]
 by_cases e:h=x
 ·subst e;simp[a]
 ·rw[if_neg e,if_neg<|Ne.symm e,List.getD_eq_getElem?_getD]
theorem C6(ls:List Lk)(h p:Nat):(Fp ls h p).length=ls.length:=by simp[Fp]
theorem BW(ls:List Lk)(h p:Nat):(Fo ls h p).length=ls.length:=by simp[Fo]
theorem Lc{ls:List Lk}{h n:Nat}(a:h<ls.length):Er (Fo ls h n)=upd (Er ls) h n:=by
 funext x;unfold Er Fo upd;rw[Fl a];split <;> rfl
theorem Lh{ls:List Lk}{h n:Nat}(a:h<ls.length):Es (Fo ls h n)=Es ls:=by
 funext x;unfold Es Fo;rw[Fl a];split
 ·rename_i e;subst e;rfl
 ·rfl
theorem Ld{ls:List Lk}{h n:Nat}(a:h<ls.length):Er (Fp ls h n)=Er ls:=by
 funext x;unfold Er Fp;rw[Fl a];split
 ·rename_i e;subst e;rfl
 ·rfl
theorem Li{ls:List Lk}{h n:Nat}(a:h<ls.length):Es (Fp ls h n)=upd (Es ls) h n:=by
 funext x;unfold Es Fp upd;rw[Fl a];split <;> rfl
def DF(ls:List Lk)(x:Nat):Value×Bool:=((ls.getD x default).v,(ls.getD x default).there)
theorem IG{ls:List Lk}{h n:Nat}(a:h<ls.length):DF (Fo ls h n)=DF ls:=by
 funext x;unfold DF Fo;rw[Fl a];split
 ·rename_i e;subst e;rfl
 ·rfl
theorem IH{ls:List Lk}{h n:Nat}(a:h<ls.length):DF (Fp ls h n)=DF ls:=by
 funext x;unfold DF Fp;rw[Fl a];split
 ·rename_i e;subst e;rfl
 ·rfl
structure JW(ls:List Lk)(free:List Nat)(row:List (Nat×Value)):Prop where
 pos:0<ls.length
 all:∀h,(h∈row.map (·.1)\/h∈free)↔(0<h/\h<ls.length)
 nodup:(row.map (·.1)++free).Nodup
 stands:Ea (Er ls) (Es ls) (row.map (·.1))
 vals:∀e∈row,DF ls e.1=(e.2,true)
 gone:∀h∈free,(DF ls h).2=false
 zero:(DF ls 0).2=false
end Go.Hb
