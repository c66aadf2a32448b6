import Derived.WalkKit
import Derived.OrdersHeld
import Derived.Laws.StructEq
import Derived.Deep.LoopGhost
import Derived.ProofKit
import Derived.OpenShut
import Derived.JoinedOf
import Derived.ChangeSame
import Derived.SizedLaws
import Derived.ChangeArms
import Derived.ChangeMaps5
import Derived.Lib.Strings
set_option linter.unusedVariables false
set_option linter.unusedSimpArgs false
set_option linter.unnecessarySimpa false
set_option linter.unusedSectionVars false
set_option maxRecDepth 100000
namespace Go.Hb
abbrev WP:=World->Prop
abbrev VW:=Value->WP
abbrev BA:=ByteArray
def JC:Nat->List Bool->List Bool
 |0,l=>l
 |n+1,l=>true::JC n l
abbrev pq(b o:Nat):Value:=.pointer (some ⟨b,o,none⟩)
abbrev _root_.Go.Value.i(x:Int):Value:=.int .i64 x
abbrev _root_.Go.Value.s(x:ByteArray):Value:=.string x
abbrev _root_.Go.Value.p(x:Option Addr):Value:=.pointer x
abbrev _root_.Go.Value.b(x:Bool):Value:=.bool x
abbrev _root_.Go.Value.l(a:Option Addr)(n c:Nat):Value:=.slice a n c
abbrev OA:=Option Addr
abbrev FA:=List Value
abbrev EW:=FA->WP
def unk:Value:=.complex .f32 0 0
def gt:FA->Nat->Value
 | [],_=>unk
 | v::_,0=>v
 | _::ρ,t+1=>gt ρ t
def pt:FA->Nat->Value->FA
 | [],_,_=>[]
 | _::ρ,0,v=>v::ρ
 | u::ρ,t+1,v=>u::pt ρ t v
def ptO(ρ:FA):Option Nat->Value->FA
 | none,_=>ρ
 | some t,v=>pt ρ t v
def ev(ρ:FA):Operand->Value
 | .tmp t=>gt ρ t
 | .const v=>v
 | .global g=>.pointer (some ⟨g,0,none⟩)
 | .func f=>.func (.func f) #[] #[]
def CV:Value->Bool
 | .complex _ _ _=>true
 | _=>false
inductive CK where
 | int (k:IntKind)|bool|str|ptr|slc|any
structure Sl where
 a:OA
 n:Nat
 c:Nat
abbrev CK.ty:CK->Type
 | .int _=>Int
 | .bool=>Bool
 | .str=>BA
 | .ptr=>OA
 | .slc=>Sl
 | .any=>Value
def CK.val:(k:CK)->k.ty->Value
 | .int k,n=>.int k n
 | .bool,b=>.bool b
 | .str,s=>.string s
 | .ptr,p=>.pointer p
 | .slc,s=>.slice s.a s.n s.c
 | .any,v=>v
def kEq:IntKind->IntKind->Bool
 | .i8,.i8|.i16,.i16|.i32,.i32|.i64,.i64|.u8,.u8|.u16,.u16|.u32,.u32|.u64,.u64=>true
 | _,_=>false
def CK.un:(k:CK)->Value->Option k.ty
 | .int k,v=>match v with
  | .int k' n=>cond (kEq k k') (some n) none
  | _=>none
 | .bool,v=>match v with
  | .bool b=>some b
  | _=>none
 | .str,v=>match v with
  | .string b=>some b
  | _=>none
 | .ptr,v=>match v with
  | .pointer b=>some b
  | _=>none
 | .slc,v=>match v with
  | .slice a n c=>some ⟨a,n,c⟩
  | _=>none
 | .any,v=>cond (CV v) none (some v)
def A39:List (Option (List CK))->Option (List CK)
 | []=>some []
 | some a::l=>match A39 l with
  | some b=>some (a++b)
  | none=>none
 | none::_=>none
def A2x(l:List CK):Nat->List CK
 | 0=>[]
 | n+1=>l++A2x l n
def cks(P:Program):Nat->TypeId->Option (List CK)
 | 0,_=>none
 | d+1,t=>match P.underlying t with
  | some (.int k)=>some [.int k]
  | some .bool=>some [.bool]
  | some .string=>some [.str]
  | some (.pointer _)=>some [.ptr]
  | some (.slice _)=>some [.slc]
  | some (.interface _)=>some [.any]
  | some (.func ..)=>some [.any]
  | some (.map ..)=>some [.any]
  | some (.struct fs)=>A39 (fs.toList.map λf=>cks P d f.type)
  | some (.array n e)=>match cks P d e with
   | some l=>some (A2x l n)
   | none=>none
  | _=>none
def Lp(P:Program)(t:TypeId):Bool:=
 match P.underlying t with
 | some (.struct _)|some (.array _ _)=>true
 | _=>false
def FE(P:Program)(t:TypeId):Nat:=
 match P.info? t with
 | some i=>i.size
 | none=>0
def Dr:WP:=λ_=>False
def ld(k:CK)(b o:Nat)(K:k.ty->WP):WP:=λw=>
 match (w.cell? ⟨b,o,none⟩).bind k.un with
 | some x=>K x w
 | none=>False
def Ot(b o:Nat)(N:WP)(K:TypeId->VW):WP:=λw=>
 match w.cell? ⟨b,o,none⟩ with
 | some .nilIface=>N w
 | some (.iface t v)=>K t v w
 | _=>False
def lds:List CK->Nat->Nat->(List Value->WP)->WP
 | [],_,_,K=>K []
 | k::ks,b,o,K=>ld k b o λx=>lds ks b (o+1) λvs=>K (k.val x::vs)
def st(b o:Nat)(v:Value)(K:WP):WP:=λw=>
 (w.cell? ⟨b,o,none⟩).isSome=true/\w.frozen? ⟨b,o,none⟩=false/\K (w.setCell ⟨b,o,none⟩ v)
def sts:List Value->Nat->Nat->WP->WP
 | [],_,_,K=>K
 | v::vs,b,o,K=>st b o v (sts vs b (o+1) K)
def A1(cells:List Value)(T:TypeId)(K:Nat->WP):WP:=λw=>K w.heap.size (w.alloc (.cells cells.toArray T))
def Ad(p:OA)(K:Nat->Nat->WP):WP:=λw=>∃b o,p=some ⟨b,o,none⟩/\K b o w
def Bw(c:Prop)(K:WP):WP:=λw=>c/\K w
def Aj(b:Bool)(K L:WP):WP:=match b with
 | true=>K
 | false=>L
def DL:Value->List Value
 | .agg cs=>cs.toList
 | v=>[v]
def SW:List Value->Bool
 | []=>true
 | v::l=>match v with
  | .agg _=>false
  | .tuple _=>false
  | _=>SW l
def HF(k:IntKind)(x y:Int):Int:=k.wrap (x*2 ^ (min y.toNat k.bits))
def Dq(k:IntKind)(x y:Int):Int:=x.fdiv (2 ^ (min y.toNat k.bits))
def Vr(x y:BA):Bool:=x.toList==y.toList
def sLt(x y:BA):Bool:=Op.bytesLess x.toList y.toList
def A62(op:BinOp)(k:IntKind)(a b:Int)(K:Value->Prop):Prop:=
 match op with
 | .add=>K (.int k (k.wrap (a+b)))
 | .sub=>K (.int k (k.wrap (a-b)))
 | .mul=>K (.int k (k.wrap (a*b)))
 | .quo=>b≠0/\K (.int k (k.wrap (a.tdiv b)))
 | .rem=>b≠0/\K (.int k (a.tmod b))
 | .and=>K (.int k (bits .and k a b))
 | .or=>K (.int k (bits .or k a b))
 | .xor=>K (.int k (bits .xor k a b))
 | .andNot=>K (.int k (bits .andNot k a b))
 | .eql=>K (.bool (a==b))
 | .neq=>K (.bool (a != b))
 | .lss=>K (.bool (decide (a<b)))
 | .leq=>K (.bool (decide (a<=b)))
 | .gtr=>K (.bool (decide (a>b)))
 | .geq=>K (.bool (decide (a>=b)))
 | _=>False
def A9n(op:BinOp)(a b:BA)(K:Value->Prop):Prop:=
 match op with
 | .add=>a.size+b.size<=9223372036854775807/\K (.string (a++b))
 | .eql=>K (.bool (Vr a b))
 | .neq=>K (.bool (!Vr a b))
 | .lss=>K (.bool (sLt a b))
 | .leq=>K (.bool (sLt a b || Vr a b))
 | .gtr=>K (.bool !(sLt a b || Vr a b))
 | .geq=>K (.bool !sLt a b)
 | _=>False
def As5(P:Program)(t:TypeId):Bool:=match P.underlying t with
 | some (.pointer _)=>true
 | _=>false
def Jv(P:Program)(t:TypeId):Bool:=match P.underlying t with
 | some (.slice _)=>true
 | _=>false
def Aic(P:Program)(t:TypeId):Bool:=match P.underlying t with
 | some .bool=>true
 | _=>false
def Fs(P:Program)(t:TypeId):Bool:=match P.underlying t with
 | some (.interface _)=>true
 | _=>false
def DN(P:Program)(t:TypeId):Bool:=match P.underlying t with
 | some .string=>true
 | _=>false
def eqI(op:BinOp)(b:Bool)(K:Value->Prop):Prop:=match op with
 | .eql=>K (.bool b)
 | .neq=>K (.bool (!b))
 | _=>False
def VH(k:IntKind):List Value->List Value->(Bool->Prop)->Prop
 | [],ys,K=>match ys with
  | []=>K true
  | _=>False
 | x::xs,ys,K=>match x with
  | .int k1 a=>match ys with
   | y::ys=>match y with
    | .int k2 b=>cond (kEq k k1 && kEq k k2) (VH k xs ys λr=>K ((a==b) && r)) False
    | _=>False
   | []=>False
  | _=>False
def VG(P:Program)(xs ys:List Value):List Field->(Bool->Prop)->Prop
 | [],K=>K true
 | f::fs,K=>match P.underlying f.type with
  | some (.int k)=>match xs[f.offset]? with
   | some (.int k1 a)=>match ys[f.offset]? with
    | some (.int k2 b) => cond (kEq k k1 && kEq k k2 && !(f.name == "_")) (VG P xs ys fs fun r => K ((a == b) && r)) False
    | _=>False
   | _=>False
  | _=>False
def Ajc(P:Program)(op:BinOp)(t:TypeId)(u v:Value)(K:Value->Prop):Prop:=
 match u with
 | .agg xs=>match v with
  | .agg ys=>match P.underlying t with
   | some (.array n e)=>match P.underlying e with
    | some (.int k)=>cond ((P.info? e).isSome && Nat.beq (P.cellsOf e) 1 && Nat.beq xs.toList.length n) (VH k xs.toList ys.toList λb=>eqI op b K) False
    | _=>False
   | some (.struct fs)=>cond (P.stoodInHeld t) False (VG P xs.toList ys.toList fs.toList λb=>eqI op b K)
   | _=>False
  | _=>False
 | .int k a=>match v with
  | .int k' b=>match op with
   | .shl=>0<=b/\K (.int k (HF k a b))
   | .shr=>0<=b/\K (.int k (Dq k a b))
   | op=>cond (kEq k k') (A62 op k a b K) False
  | _=>False
 | .string a=>match v with
  | .string b=>A9n op a b K
  | _=>False
 | .pointer a=>match v with
  | .pointer none=>cond (As5 P t) (eqI op a.isNone K) False
  | _=>False
 | .slice a _ _=>match v with
  | .slice none _ _=>cond (Jv P t) (eqI op a.isNone K) False
  | _=>False
 | .bool a=>match v with
  | .bool b=>cond (Aic P t) (eqI op (a==b) K) False
  | _=>False
 | _=>False
def A7p(P:Program)(op:BinOp)(t:TypeId)(u:Value)(K:Value->Prop):Prop:=
 match u with
 | .nilIface=>cond (Fs P t) (eqI op true K) False
 | .iface _ _=>cond (Fs P t) (eqI op false K) False
 | _=>False
def HA(P:Program)(t:TypeId):Bool:=match P.underlying t with
 | some (.func _ _ _)=>true
 | _=>false
def At7(P:Program)(op:BinOp)(t:TypeId)(u:Value)(K:Value->Prop):Prop:=
 match u with
 | .nilFunc=>cond (HA P t) (eqI op true K) False
 | .func _ _ _=>cond (HA P t) (eqI op false K) False
 | _=>False
def unI(op:UnOp)(v:Value)(K:Value->Prop):Prop:=
 match op with
 | .not=>match v with
  | .bool b=>K (.bool (!b))
  | _=>False
 | .neg=>match v with
  | .int k n=>K (.int k (k.wrap (0-n)))
  | _=>False
 | _=>False
def GC(base:OA)(l m s:Nat):OA:=if m=l then base else base.map (·.add (l*s))
def loB(v:Option Value)(h:Nat)(K:Nat->Prop):Prop:=
 match v with
 | none=>K 0
 | some (.int _ i)=>(0<=i/\i<=(h:Int))/\K i.toNat
 | _=>False
def hiB(v:Option Value)(n c:Nat)(K:Nat->Prop):Prop:=
 match v with
 | none=>K n
 | some (.int _ i)=>(0<=i/\i<=(c:Int))/\K i.toNat
 | _=>False
def mxB(v:Option Value)(c:Nat)(K:Nat->Prop):Prop:=
 match v with
 | none=>K c
 | some (.int _ i)=>(0<=i/\i<=(c:Int))/\K i.toNat
 | _=>False
def Aga(P:Program)(t:TypeId)(x:Value)(lo hi mx:Option Value)(K:Value->Prop):Prop:=
 match x with
 | .string s=>cond (DN P t) (match mx with
  | none=>hiB hi s.size s.size λh=>loB lo h λl=>K (.string (s.extract l h))
  | some _=>False) False
 | .slice a n c=>match P.underlying t with
  | some (.slice e)=>cond (P.info? e).isSome (match hi with
   | none=>(match mx with
    | none=>loB lo n λl=>K (.slice (GC a l c (FE P e)) (n-l) (c-l))
    | some _=>False)
   | some _=>mxB mx c λm=>hiB hi n m λh=>loB lo h λl=>K (.slice (GC a l m (FE P e)) (h-l) (m-l))) False
  | _=>False
 | _=>False
def Qh(P:Program)(t:TypeId)(f:Nat):Option (Nat×TypeId):=
 match P.underlying t with
 | some (.struct fs)=>match fs.toList[f]? with
  | some g=>some (g.offset,g.type)
  | none=>none
 | _=>none
def WK(P:Program)(t:TypeId)(x:Value)(f:Nat)(K:Value->Prop):Prop:=
 match x with
 | .pointer (some ⟨b,o,none⟩)=>match Qh P t f with
  | some (off,ft)=>match FE P ft with
   | 0=>False
   | _+1=>K (.pointer (some ⟨b,o+off,none⟩))
  | none=>False
 | _=>False
def Aud(P:Program)(t:TypeId)(cs:Array Value)(off:Nat)(K:Value->Prop):Prop:=
 match Lp P t with
 | true=>K (.agg ((cs.toList.drop off).take (FE P t)).toArray)
 | false=>match cs.toList[off]? with
  | some v=>cond (CV v) False (K v)
  | none=>False
def Asr(P:Program)(t:TypeId)(x:Value)(f:Nat)(K:Value->Prop):Prop:=
 match x with
 | .agg cs=>match Qh P t f with
  | some (off,ft)=>cond (P.underlying ft).isSome (Aud P ft cs off K) False
  | none=>False
 | _=>False
def WN(P:Program)(t:TypeId)(x i:Value)(K:Value->Prop):Prop:=
 match i with
 | .int _ i=>match P.underlying t with
  | some (.slice e)=>match x with
   | .slice a n _=>cond (P.info? e).isSome (∃b o,a=some ⟨b,o,none⟩/\(0<=i/\i<(n:Int))/\K (.pointer (some ⟨b,o+i.toNat*FE P e,none⟩))) False
   | _=>False
  | some (.array n e)=>match x with
   | .pointer (some ⟨b,o,none⟩)=>cond (P.info? e).isSome ((0<=i/\i<(n:Int))/\K (.pointer (some ⟨b,o+i.toNat*FE P e,none⟩))) False
   | _=>False
  | _=>False
 | _=>False
def AG(s:BA)(i:Nat):Int:=((s.data.toList[i]?).getD 0).toNat
def Afe(P:Program)(t:TypeId)(x i:Value)(K:Value->Prop):Prop:=
 match i with
 | .int _ i=>match x with
  | .string s=>cond (DN P t) ((0<=i/\i<(s.size:Int))/\K (.int .u8 (AG s i.toNat))) False
  | .agg cs=>match P.underlying t with
   | some (.array n e)=>match cks P 9 e with
    | some [k]=>cond (Lp P e || !Nat.beq (FE P e) 1 || !(P.info? e).isSome) False<| (0<=i/\i<(n:Int))/\∃x:k.ty,cs.toList[i.toNat]? = some (k.val x)/\CV (k.val x)=false/\K (k.val x)
    | _=>False
   | _=>False
  | _=>False
 | _=>False
def QA(x:Value)(i:Nat)(K:Value->Prop):Prop:=
 match x with
 | .tuple vs=>match vs.toList[i]? with
  | some v=>K v
  | none=>False
 | _=>False
def UO:List Value->Nat->List Value->List Value
 | cs,_,[]=>cs
 | cs,o,v::vs=>UO (pt cs o v) (o+1) vs
def NP(place:Nat->Option (Nat×Nat)):List Value->List (Nat×Value)->Option (List Value)
 | cells,[]=>some cells
 | cells,(i,v)::r=>match place i with
  | none=>none
  | some (off,size)=>cond (CV v || !(Nat.beq (DL v).length size) || !(Nat.ble (off+size) cells.length)) none (NP place (UO cells off (DL v)) r)
def GV(P:Program)(t:TypeId):Option (List Value):=
 match P.info? t with
 | some i=>match i.zero with
  | some z=>some (DL z)
  | none=>none
 | none=>none
def Xl(P:Program)(fs:List Field)(i:Nat):Option (Nat×Nat):=
 match fs[i]? with
 | some f=>some (f.offset,FE P f.type)
 | none=>none
def He(ρ:FA):List (Nat×Operand)->List (Nat×Value)
 | []=>[]
 | (i,x)::l=>(i,ev ρ x)::He ρ l
def Acv(P:Program)(t:TypeId)(parts:List (Nat×Value)):Option (List Value):=
 match GV P t with
 | none=>none
 | some z=>match P.underlying t with
  | some (.struct fs)=>cond (fs.toList.all λf=>(P.info? f.type).isSome) (NP (Xl P fs.toList) z parts) none
  | some (.array _ e)=>cond (P.info? e).isSome (NP (λi=>some (i*FE P e,FE P e)) z parts) none
  | _=>none
def Amx(P:Program)(t:TypeId)(parts:List (Nat×Value))(K:Value->Prop):Prop:=
 match Acv P t parts with
 | some cs=>K (.agg cs.toArray)
 | none=>False
def XM(P:Program)(d:TypeId)(x:Value)(K:Value->Prop):Prop:=
 match x with
 | .int _ n=>match P.underlying d with
  | some (.int k)=>K (.int k (k.wrap n))
  | _=>False
 | .string s=>cond (DN P d) (K (.string s)) False
 | _=>False
def A7g(P:Program)(t:TypeId)(x:Value)(K:Value->Prop):Prop:=
 match x with
 | .string s=>cond (DN P t) (K (.int .i64 (s.size:Int))) False
 | .slice _ n _=>cond (Jv P t) (K (.int .i64 (n:Int))) False
 | .agg _=>match P.underlying t with
  | some (.array n _)=>K (.int .i64 (n:Int))
  | _=>False
 | _=>False
def A7k(x y:Value)(K:Value->Prop):Prop:=
 match x with
 | .int k a=>match y with
  | .int _ b=>K (.int k (if b>a then b else a))
  | _=>False
 | _=>False
def A7l(x y:Value)(K:Value->Prop):Prop:=
 match x with
 | .int k a=>match y with
  | .int _ b=>K (.int k (if b<a then b else a))
  | _=>False
 | _=>False
def mn(a b:Int):Int:=if b<a then b else a
def At0(x y z u:Value)(K:Value->Prop):Prop:=
 match x with
 | .int k a=>match y with
  | .int _ b=>match z with
   | .int _ c=>match u with
    | .int _ d=>K (.int k (mn (mn (mn a b) c) d))
    | _=>False
   | _=>False
  | _=>False
 | _=>False
def A4g(ρ:FA)(c a b:Operand)(K:Value->Prop):Prop:=
 match ev ρ c with
 | .bool t=>match t with
  | true=>K (ev ρ a)
  | false=>K (ev ρ b)
 | _=>False
def Af3(v:Value)(K:Value->Prop):Prop:=
 match v with
 | .pointer p=>∃b o,p=some ⟨b,o,none⟩/\K (.pointer (some ⟨b,o,none⟩))
 | _=>False
def evO(ρ:FA):Option Operand->Option Value
 | none=>none
 | some x=>some (ev ρ x)
def Vg(P:Program)(ρ:FA)(o:Op):Option ((Value->Prop)->Prop):=
 match o with
 | .move x=>some λK=>K (ev ρ x)
 | .assign x=>some λK=>K (ev ρ x)
 | .pick c a b=>some (A4g ρ c a b)
 | .nilCheck x=>some (Af3 (ev ρ x))
 | .binOp op t x y _=>(match y with
  | .const c=>(match c with
   | .nilIface=>some (A7p P op t (ev ρ x))
   | .nilFunc=>some (At7 P op t (ev ρ x))
   | c=>some (Ajc P op t (ev ρ x) c))
  | y=>some (Ajc P op t (ev ρ x) (ev ρ y)))
 | .makeInterface t x=>some λK=>cond ((P.underlying t).isSome && !Fs P t && !CV (ev ρ x)) (K (.iface t (ev ρ x))) False
 | .unOp op _ x=>some (unI op (ev ρ x))
 | .convert s d x=>(match ev ρ x with
  | .int _ n=>cond (P.underlying s).isSome (some (XM P d (.int .i64 n))) none
  | .string b=>cond (DN P s) (cond (DN P d) (some (XM P d (.string b))) none) none
  | _=>none)
 | .slice t x lo hi mx=>some (Aga P t (ev ρ x) (evO ρ lo) (evO ρ hi) (evO ρ mx))
 | .fieldAddr t x f=>some (WK P t (ev ρ x) f)
 | .field t x f=>some (Asr P t (ev ρ x) f)
 | .indexAddr t x i=>some (WN P t (ev ρ x) (ev ρ i))
 | .index t x i=>some (Afe P t (ev ρ x) (ev ρ i))
 | .extract t i=>some (QA (ev ρ t) i)
 | .build t ps=>some (Amx P t (He ρ ps.toList))
 | .call c=>(match c.callee with
  | .builtin b=>(match b with
   | .len=>(match c.args.toList with
    | [x]=>(match c.argTypes.toList with
     | [t]=>some (A7g P t (ev ρ x))
     | _=>none)
    | _=>none)
   | .max=>(match c.args.toList with
    | [x,y]=>some (A7k (ev ρ x) (ev ρ y))
    | _=>none)
   | .min=>(match c.args.toList with
    | [x,y]=>some (A7l (ev ρ x) (ev ρ y))
    | [x,y,z,u]=>some (At0 (ev ρ x) (ev ρ y) (ev ρ z) (ev ρ u))
    | _=>none)
   | _=>none)
  | _=>none)
 | _=>none
def eqL:List Nat->List Nat->Bool
 | [],[]=>true
 | a::l,b::m=>Nat.beq a b && eqL l m
 | _,_=>false
def Amz(ps rs:List TypeId):Nat->List Func->List FuncId
 | _,[]=>[]
 | i,f::l=>cond (eqL f.params.toList ps && eqL f.resultTypes.toList rs) (i::Amz ps rs (i+1) l) (Amz ps rs (i+1) l)
def A34(P:Program)(t:TypeId):List FuncId:=
 match P.underlying t with
 | some (.func ps rs _)=>Amz ps.toList rs.toList 0 P.funcs.toList
 | _=>[]
def Ala(K:FuncId->WP):List FuncId->List (FuncId×WP)
 | []=>[]
 | f::l=>(f,K f)::Ala K l
def ldV(b o:Nat)(N:WP)(l:List (FuncId×WP)):WP:=λw=>
 match w.cell? ⟨b,o,none⟩ with
 | some .nilFunc=>N w
 | some (.func (.func f) first cap)=>first=#[]/\cap=#[]/\∃p∈l,p.1=f/\p.2 w
 | _=>False
def A7f(S:World->Prop)(b o:Nat)(N:WP)(l:List (FuncId×WP)):WP:=λw=>
 ((∀w',S w'->w'.cell? ⟨b,o,none⟩=some .nilFunc)/\N w)\/∃p∈l,(∀w',S w'->w'.cell? ⟨b,o,none⟩=some (.func (.func p.1) #[] #[]))/\p.2 w
def Ail(P:Program)(t:TypeId)(x:Value)(K:VW):WP:=
 match x with
 | .pointer (some ⟨b,o,none⟩)=>match cks P 9 t with
  | some ks=>cond ((P.underlying t).isSome && (P.info? t).isSome && Nat.beq (FE P t) ks.length) (match Lp P t with
   | true=>lds ks b o λvs=>K (.agg vs.toArray)
   | false=>match ks with
    | [k]=>match Fs P t with
     | true=>Ot b o (K .nilIface) λt v=>K (.iface t v)
     | false=>match HA P t with
      | true=>ldV b o (K .nilFunc) (Ala (λf=>K (.func (.func f) #[] #[])) (A34 P t))
      | false=>ld k b o λx=>K (k.val x)
    | _=>Dr) Dr
  | none=>Dr
 | _=>Dr
def Agf(P:Program)(t:TypeId)(x v:Value)(K:WP):WP:=
 match x with
 | .pointer (some ⟨b,o,none⟩)=>cond ((P.info? t).isSome && Nat.beq (FE P t) (DL v).length && SW (DL v) && !(DL v).any CV) (sts (DL v) b o K) Dr
 | _=>Dr
def Amr(P:Program)(t:TypeId)(K:VW):WP:=
 match GV P t with
 | some z=>A1 z t λb=>K (.pointer (some ⟨b,0,none⟩))
 | none=>Dr
def A8v(t:TypeId)(v:Value)(K:VW):WP:=
 cond (CV v) Dr (A1 (DL v) t λb=>K (.pointer (some ⟨b,0,none⟩)))
def DE(z:List Value):Nat->List Value
 | 0=>[]
 | n+1=>z++DE z n
def Jg(P:Program)(t:TypeId)(n:Nat)(parts:List (Nat×Value))(K:VW):WP:=
 match P.underlying t with
 | some (.slice e)=>match GV P e with
  | some z=>cond ((P.info? e).isSome && Nat.beq z.length (FE P e) && Nat.ble (n*FE P e) 65536) (match NP (λi=>some (i*FE P e,FE P e)) (DE z n) parts with
   | some cs=>A1 cs e λb=>K (.slice (some ⟨b,0,none⟩) n n)
   | none=>Dr) Dr
  | none=>Dr
 | _=>Dr
def Ht(e bytes:Nat)(z:List Value)(l c:Int)(K:Sl->WP):WP:=λw=>
 (0<=l/\l<=c/\c<=4611686018427387904/\(bytes:Int)*c<=281474976710656)/\A1 (DE z c.toNat) e (λb=>K ⟨some ⟨b,0,none⟩,l.toNat,c.toNat⟩) w
def byT(P:Program)(t:TypeId):Nat:=
 match P.info? t with
 | some i=>i.bytes
 | none=>0
def KL(P:Program)(t:TypeId)(l c:Value)(K:VW):WP:=
 match P.underlying t with
 | some (.slice e)=>match GV P e with
  | some z=>match l with
   | .int _ l=>match c with
    | .int _ c=>cond ((P.info? e).isSome && Nat.beq z.length (FE P e)) (Ht e (byT P e) z l c λs=>K (.slice s.a s.n s.c)) Dr
    | _=>Dr
   | _=>Dr
  | none=>Dr
 | _=>Dr
def rdL(w:World)(b:Nat):Nat->Nat->Option (List Value)
 | _,0=>some []
 | o,n+1=>match w.cell? ⟨b,o,none⟩ with
  | some v=>match rdL w b (o+1) n with
   | some l=>some (v::l)
   | none=>none
  | none=>none
def F9(w:World)(a:OA)(n:Nat):Option (List Value):=
 match a with
 | none=>some []
 | some ⟨b,o,none⟩=>rdL w b o n
 | some ⟨_,_,some _⟩=>none
def stA(a:OA)(off:Nat)(vs:List Value)(K:WP):WP:=
 match a with
 | none=>match vs with
  | []=>K
  | _::_=>Dr
 | some ⟨b,o,none⟩=>sts vs b (o+off) K
 | some ⟨_,_,some _⟩=>Dr
def AU(e size bytes:Nat)(z:List Value)(s:Sl)(n:Nat)(new:World->Option (List Value))(K:Sl->WP):WP:=λw=>
 ∃vs,new w=some vs/\SW vs=true /\
  if s.n+n<=s.c then stA s.a (s.n*size) vs (K ⟨s.a,s.n+n,s.c⟩) w
  else Builtin.nextslicecap (s.n+n) s.c*bytes<=281474976710656/\∃old,F9 w s.a (s.n*size)=some old /\
   ∀N,s.n+n<=N->K ⟨some ⟨w.heap.size,0,none⟩,s.n+n,N⟩ (w.drew.alloc (.cells (old++vs++DE z (N-(s.n+n))).toArray e))
def Ir(s:BA):List Value:=s.data.toList.map λb=>.int .u8 b.toNat
def V5(P:Program)(t t2:TypeId)(s x:Value)(K:VW):WP:=
 match P.underlying t with
 | some (.slice e)=>match GV P e with
  | some z=>match s with
   | .slice a n c=>cond ((P.info? e).isSome && Nat.beq z.length (FE P e) && !Nat.beq (byT P e) 0) (match x with
    | .slice a' n' _=>cond (Jv P t2) (AU e (FE P e) (byT P e) z ⟨a,n,c⟩ n' (λw=>F9 w a' (n'*FE P e)) λs=>K (.slice s.a s.n s.c)) Dr
    | .string b=>cond (DN P t2) (AU e (FE P e) (byT P e) z ⟨a,n,c⟩ b.size (λ_=>some (Ir b)) λs=>K (.slice s.a s.n s.c)) Dr
    | _=>Dr) Dr
   | _=>Dr
  | none=>Dr
 | _=>Dr
def b2s(a:OA)(n:Nat)(K:BA->WP):WP:=λw=>∃s:BA,F9 w a n=some (Ir s)/\K s w
def Ac1(P:Program)(s d:TypeId)(x:Value)(K:VW):WP:=
 match x with
 | .slice a n _=>match P.underlying s with
  | some (.slice e)=>match P.underlying e with
   | some (.int k)=>cond (kEq k .u8 && DN P d) (b2s a n λs=>K (.string s)) Dr
   | _=>Dr
  | _=>Dr
 | _=>Dr
def exV:List CK->(List Value->Prop)->Prop
 | [],K=>K []
 | k::ks,K=>∃x:k.ty,exV ks λvs=>K (k.val x::vs)
def exT(P:Program)(t:TypeId)(F:Value->Prop):Prop:=
 match cks P 9 t with
 | some ks=>(match Lp P t with
  | true=>exV ks λvs=>F (.agg vs.toArray)
  | false=>match ks with
   | [k]=>match Fs P t with
    | true=>F .nilIface\/∃t v,F (.iface t v)
    | false=>∃x:k.ty,F (k.val x)
   | _=>False)
 | none=>False
def A43(P:Program):List TypeId->(List Value->Prop)->Prop
 | [],F=>F []
 | t::ts,F=>exT P t λv=>A43 P ts λvs=>F (v::vs)
def A2z(P:Program)(ts:List TypeId)(F:Value->Prop):Prop:=
 match ts with
 | []=>F (.tuple #[])
 | [t]=>exT P t F
 | ts=>A43 P ts λvs=>F (.tuple vs.toArray)
def evL(ρ:FA):List Operand->List Value
 | []=>[]
 | x::l=>ev ρ x::evL ρ l
def A33(P:Program)(f:FuncId)(args:List Value)(R:(Value->Prop)->Prop)(K:VW):WP:=λw=>
 Calls P f args.toArray w λe w'=>R λv=>e = .returned v/\K v w'
def MN (s : String) : Bool := !(s == "runtime.NumGoroutine")
def Amy(P:Program)(f:Value)(args:List Value)(K:VW):WP:=
 match f with
 | .func (.func f) first captured=>match P.funcs[f]? with
  | some fn=>cond (fn.body.isSome && MN fn.name && !args.any CV) (A33 P f (first.toList++args++captured.toList) (A2z P fn.resultTypes.toList) K) Dr
  | none=>Dr
 | _=>Dr
def F8(P:Program)(t:TypeId)(v:Value)(name:String)(C:FuncId->VW):WP:=λw=>
 ∃f rc fn,(method (P.types.size+Made.depth) t v name).run P w = .ok (f,rc) w/\P.funcs[f]? = some fn/\fn.body.isSome=true/\MN fn.name=true/\C f rc w
def A97(P:Program)(t:TypeId)(v:Value)(name:String)(args:List Value)(R:(Value->Prop)->Prop)(K:VW):WP:=F8 P t v name λf rc=>A33 P f (rc::args) R K
def Baj(P:Program)(t:TypeId):List TypeId:=
 match P.underlying t with
 | some (.tuple ts)=>ts.toList
 | _=>[t]
def A63(P:Program)(ty:TypeId)(x:Value)(name:String)(args:List Value)(K:VW):WP:=
 match x with
 | .iface t v=>cond (!args.any CV) (A97 P t v name args (A2z P (Baj P ty)) K) Dr
 | _=>Dr
def Alb(P:Program)(t:TypeId)(n:Value)(K:Nat->WP):WP:=λw=>∃w',(Instr.makeChan t n).run P w = .ok (.chan (some w.heap.size)) w'/\K w.heap.size w'
def Avs(z:List Value)(a:OA)(n:Nat)(K:WP):WP:=cond (SW (DE z n)) (stA a 0 (DE z n) K) Dr
def A4v(P:Program)(t:TypeId)(x:Value)(K:WP):WP:=
 match x with
 | .slice a n _=>match P.underlying t with
  | some (.slice e)=>match GV P e with
   | some z=>Avs z a n K
   | none=>Dr
  | _=>Dr
 | _=>Dr
def Bac(K:Nat->WP):WP:=λw=>K w.heap.size (w.alloc (.map #[] 0))
def mUp(P:Program)(t:TypeId)(m k x:Value)(K:WP):WP:=λw=>∃w',(Instr.mapUpdate t m k x).run P w = .ok () w'/\K w'
def A9f(P:Program)(t:TypeId)(m k:Value)(c:CK)(K:c.ty->WP):WP:=λw=>∃x:c.ty,(Instr.lookup t m k false).run P w = .ok (c.val x) w/\K x w
def Atv(P:Program)(t:TypeId)(m k:Value)(K:VW):WP:=
 match P.underlying t with
 | some (.map _ e)=>match cks P 9 e with
  | some [c]=>cond (Lp P e || CV m || CV k) Dr (A9f P t m k c λx=>K (c.val x))
  | _=>Dr
 | _=>Dr
def opI(P:Program)(ρ:FA)(ty:TypeId)(o:Op)(K:VW):WP:=
 match Vg P ρ o with
 | some F=>λw=>F λv=>K v w
 | none=>match o with
  | .load t x=>Ail P t (ev ρ x) K
  | .store t x v=>Agf P t (ev ρ x) (ev ρ v) (K undef)
  | .alloc t=>Amr P t K
  | .box t v=>A8v t (ev ρ v) K
  | .buildSlice t n ps=>Jg P t n (He ρ ps.toList) K
  | .makeSlice t l c=>KL P t (ev ρ l) (ev ρ c) K
  | .convert s d x=>Ac1 P s d (ev ρ x) K
  | .makeMap _ r=>(match r with
   | none=>Bac λb=>K (.map (some b))
   | some _=>Dr)
  | .mapUpdate t m k x=>cond (CV (ev ρ m) || CV (ev ρ k) || CV (ev ρ x)) Dr (mUp P t (ev ρ m) (ev ρ k) (ev ρ x) (K undef))
  | .lookup t m k c=>(match c with
   | false=>Atv P t (ev ρ m) (ev ρ k) K
   | true=>Dr)
  | .makeChan t n=>cond (CV (ev ρ n)) Dr (Alb P t (ev ρ n) λb=>K (.chan (some b)))
  | .call c=>(match c.callee with
   | .value f=>Amy P (ev ρ f) (evL ρ c.args.toList) K
   | .invoke r name=>A63 P ty (ev ρ r) name (evL ρ c.args.toList) K
   | .builtin b=>(match b with
    | .append=>(match c.args.toList with
     | [s,x]=>(match c.argTypes.toList with
      | [t,t2]=>V5 P t t2 (ev ρ s) (ev ρ x) K
      | _=>Dr)
     | _=>Dr)
    | .clear=>(match c.args.toList with
     | [x]=>(match c.argTypes.toList with
      | [t]=>A4v P t (ev ρ x) (K (.tuple #[]))
      | _=>Dr)
     | _=>Dr)
    | _=>Dr))
  | _=>Dr
def XP(all:List Oper)(j:Nat):Option Nat:=
 match all[j]? with
 | some o=>o.dst
 | none=>none
def Rq(all:List Oper)(ρ:FA)(o:Oper)(yes no:EW):WP:=
 match o.guard with
 | none=>yes ρ
 | some (j,want)=>match XP all j with
  | none=>no ρ
  | some d=>match gt ρ d with
   | .complex _ _ _=>Dr
   | .bool b=>Aj b (cond want (yes (pt ρ d (.bool true))) (no (pt ρ d (.bool true)))) (cond want (no (pt ρ d (.bool false))) (yes (pt ρ d (.bool false))))
   | _=>no ρ
def Aub(P:Program)(all:List Oper):List Oper->FA->(EW)->WP
 | [],ρ,K=>K ρ
 | o::l,ρ,K=>Rq all ρ o (λρ=>opI P ρ o.type o.op λv=>Aub P all l (ptO ρ o.dst v) K) (λρ=>Aub P all l (ptO ρ o.dst undef) K)
def Ic(i:Nat):List Nat->Bool
 | []=>false
 | j::l=>Nat.beq i j || Ic i l
def Gl:List Edge->List Nat
 | []=>[]
 | e::l=>match e.ground with
  | .textOnly _=>Gl l
  | .gcOnly _=>Gl l
  | _=>e.on::Gl l
def IS(all:List Oper)(i:Nat):List Nat:=
 match all[i]? with
 | some o=>Gl o.after.toList
 | none=>[]
def rdy(all:List Oper)(done:List Nat)(i:Nat):Bool:=!Ic i done && (IS all i).all (Ic · done)
def Asu(all:List Oper)(done:List Nat)(i:Nat)(o:Oper):Bool:=
 (List.range all.length).all λj=>Nat.beq j i || Ic j done || Ic i (IS all j) || (match all[j]? with
  | some oj=>o.apart all.toArray oj
  | none=>true)
def IE(acc:List Nat):List Nat->Nat
 | []=>0
 | e::es=>(2 ^ e ||| acc.getD e 0) ||| IE acc es
def Gs:List Oper->List Nat->List Nat
 | [],acc=>acc
 | o::l,acc=>Gs l (acc++[IE acc (Gl o.after.toList)])
def J4(A tab:List Nat)(j:Nat):Bool:=A.any λk=>!(tab.getD j 0).testBit k
def Ako(all:List Oper)(i:Nat):Bool:=
 match all[i]? with
 | some o=>(match o.op with
  | .load _ _=>true
  | _=>false)
 | none=>false
def Ee(all:List Oper)(A:List Nat):List Nat:=A.filter (Ako all)
def Xo(all:List Oper)(done:List Nat):List Nat:=(List.range all.length).filter (rdy all done)
def Abd(all:List Oper)(done:List Nat):List Nat->Option Nat
 | []=>none
 | i::A=>match rdy all done i with
  | true=>some i
  | false=>Abd all done A
def WW(S:World->Prop)(k:CK)(b o:Nat)(K:k.ty->WP):WP:=λw=>
 ∃x:k.ty,(∀w',S w'->w'.cell? ⟨b,o,none⟩=some (k.val x))/\K x w
def Atl(S:World->Prop)(b o:Nat)(N:WP)(K:TypeId->VW):WP:=λw=>
 ((∀w',S w'->w'.cell? ⟨b,o,none⟩=some .nilIface)/\N w)\/∃t v,(∀w',S w'->w'.cell? ⟨b,o,none⟩=some (.iface t v))/\K t v w
def A2b(S:World->Prop):List CK->Nat->Nat->(List Value->WP)->WP
 | [],_,_,K=>K []
 | k::ks,b,o,K=>WW S k b o λx=>A2b S ks b (o+1) λvs=>K (k.val x::vs)
def Afv(P:Program)(S:World->Prop)(t:TypeId)(x:Value)(K:VW):WP:=
 match x with
 | .pointer (some ⟨b,o,none⟩)=>match cks P 9 t with
  | some ks=>cond ((P.underlying t).isSome && (P.info? t).isSome && Nat.beq (FE P t) ks.length) (match Lp P t with
   | true=>A2b S ks b o λvs=>K (.agg vs.toArray)
   | false=>match ks with
    | [k]=>match Fs P t with
     | true=>Atl S b o (K .nilIface) λt v=>K (.iface t v)
     | false=>match HA P t with
      | true=>A7f S b o (K .nilFunc) (Ala (λf=>K (.func (.func f) #[] #[])) (A34 P t))
      | false=>WW S k b o λx=>K (k.val x)
    | _=>Dr) Dr
  | none=>Dr
 | _=>Dr
def stI(P:Program)(S:World->Prop)(ρ:FA)(o:Op)(K:VW):WP:=
 match Vg P ρ o with
 | some F=>λw=>F λv=>K v w
 | none=>match o with
  | .load t x=>Afv P S t (ev ρ x) K
  | _=>Dr
def Ap(b:Bool)(S:World->Prop)(K:WP):WP:=
 match b with
 | true=>λw=>S w/\K w
 | false=>K
def SK:List WP->WP
 | []=>Dr
 | [p]=>p
 | p::l=>λw=>p w/\SK l w
def Kq(P:Program)(all:List Oper)(S:World->Prop)(A AL tab:List Nat):Nat->List Nat->FA->(EW)->WP
 | 0,done,ρ,K=>cond ((List.range all.length).all (Ic · done)) (K ρ) Dr
 | n+1,done,ρ,K=>match Abd all done A with
  | some i=>match all[i]? with
   | none=>Dr
   | some o=>cond (Asu all done i o)
     (Rq all ρ o (λρ=>stI P S ρ o.op λv=>Kq P all S A AL tab n (i::done) (ptO ρ o.dst v) K) (λρ=>Kq P all S A AL tab n (i::done) (ptO ρ o.dst undef) K)) Dr
  | none=>SK ((Xo all done).map λi=>match all[i]? with
   | none=>Dr
   | some o=>Rq all ρ o (λρ=>opI P ρ o.type o.op λv=>Ap (J4 AL tab i) S (Kq P all S A AL tab n (i::done) (ptO ρ o.dst v) K))
     (λρ=>Ap (J4 AL tab i) S (Kq P all S A AL tab n (i::done) (ptO ρ o.dst undef) K)))
structure KP where
 live:List (Nat×List Nat)
 ord:List (Nat×List Nat)
def US:List (Nat×List Nat)->Nat->Option (List Nat)
 | [],_=>none
 | (k,l)::r,n=>match Nat.beq k n with
  | true=>some l
  | false=>US r n
def clean:List Nat->Nat->FA->FA
 | _,_,[]=>[]
 | [],i,_::ρ=>unk::clean [] (i+1) ρ
 | k::ks,i,v::ρ=>match Nat.beq k i with
  | true=>v::clean ks (i+1) ρ
  | false=>unk::clean (k::ks) (i+1) ρ
def Gx(kp:KP)(n:Nat)(ρ:FA):FA:=
 match US kp.live n with
 | some ks=>clean ks 0 ρ
 | none=>ρ
def Jo:Code->Option Nat
 | .region id _ _=>some id
 | .seq a b=>match Jo a with
  | some i=>some i
  | none=>Jo b
 | .cond _ a b=>match Jo a with
  | some i=>some i
  | none=>Jo b
 | .block _ b=>Jo b
 | .loop b=>Jo b
 | _=>none
def Akt(c:Code):Nat:=match Jo c with
 | some i=>2*i+2
 | none=>0
def Aks(c:Code):Nat:=match Jo c with
 | some i=>2*i+3
 | none=>1
def UT(body:(EW)->EW)(cl:FA->FA):Nat->EW
 | 0,_=>Dr
 | m+1,ρ=>body (λρ'=>UT body cl m (cl ρ')) ρ
def At8(o:Oper):Bool:=match o.op with
 | .select _ _=>false
 | _=>true
def A4f(kp:KP)(id:Nat):List Nat:=
 match US kp.ord id with
 | some l=>l
 | none=>[]
def A40(P:Program)(kp:KP)(id:Nat)(all:List Oper)(ρ:FA)(n:EW):WP:=λw=>
 ∃S:World->Prop,S w.drew/\Kq P all S (A4f kp id) (Ee all (A4f kp id)) (Gs all []) all.length [] ρ n w.drew
abbrev Jn:=Nat->(EW)->EW
def By:Jn:=λ_ f ρ=>f ρ
def Cj(P:Program)(kp:KP)(jn:Jn):Code->(EW)->(Nat->EW)->(EW)->EW
 | .skip,n,_,_,ρ=>n ρ
 | .region id ops d,n,_,_,ρ=>match d with
  | false=>Aub P ops.toList ops.toList ρ n
  | true=>cond (ops.toList.all At8) (A40 P kp id ops.toList ρ n) Dr
 | .seq a b,n,x,r,ρ=>Cj P kp jn a (λρ=>match US kp.live (Akt b) with
  | some ks=>jn (Akt b) (λρ=>Cj P kp jn b n x r ρ) (clean ks 0 ρ)
  | none=>Cj P kp jn b n x r ρ) x r ρ
 | .cond c a b,n,x,r,ρ=>match ev ρ c with
  | .bool t=>Aj t (Cj P kp jn a n x r ρ) (Cj P kp jn b n x r ρ)
  | _=>Dr
 | .block id b,n,x,r,ρ=>Cj P kp jn b n (λi ρ=>match Nat.beq i id with
  | true=>n ρ
  | false=>x i ρ) r ρ
 | .loop b,_,x,r,ρ=>λw=>∃m,UT (λk ρ=>Cj P kp jn b k x r ρ) (Gx kp (Aks b)) m (Gx kp (Aks b) ρ) w
 | .exit id,_,x,_,ρ=>x id ρ
 | .ret,_,_,r,ρ=>r ρ
 | _,_,_,_,_=>Dr
def Alq(P:Program):List ResultVar->FA->(List Value->WP)->WP
 | [],_,K=>K []
 | .tmp t::l,ρ,K=>cond (CV (gt ρ t)) Dr (Alq P l ρ λvs=>K (gt ρ t::vs))
 | .cell a t::l,ρ,K=>Ail P t (gt ρ a) λv=>Alq P l ρ λvs=>K (v::vs)
def A2y(P:Program)(rs:List ResultVar)(ρ:FA)(Q:VW):WP:=
 Alq P rs ρ λvs=>match vs with
  | [v]=>Q v
  | vs=>Q (.tuple vs.toArray)
def Bj(fn:Func):Code:=match fn.body with
 | some c=>c
 | none=>.skip
def Lc:Nat->FA
 | 0=>[]
 | n+1=>undef::Lc n
def Au(jn:Jn)(P:Program)(kp:KP)(fn:Func)(args:List Value)(Q:VW):WP:=
 Cj P kp jn (Bj fn) (λρ=>A2y P fn.results.toList ρ Q) (λ_ _=>Dr) (λρ=>A2y P fn.results.toList ρ Q) (args++Lc (fn.ntmps-args.length))
def us:Nat->FA->FA
 | 0,l=>l
 | n+1,l=>unk::us n l
def CB(a:OA)(n:Nat)(i:Int)(K:Nat->Nat->WP):WP:=λw=>∃b o,a=some ⟨b,o,none⟩/\(0<=i/\i<(n:Int))/\K b o w
def XI(P:Program)(f:FuncId)(args:List Value)(K:WP):WP:=λw=>
 Calls P f args.toArray w λe w'=>e = .returned (.tuple #[])/\K w'
def call1(k:CK)(P:Program)(f:FuncId)(args:List Value)(K:k.ty->WP):WP:=λw=>
 Calls P f args.toArray w λe w'=>∃x:k.ty,e = .returned (k.val x)/\K x w'
def Hd(k l:CK)(P:Program)(f:FuncId)(args:List Value)(K:k.ty->l.ty->WP):WP:=λw=>
 Calls P f args.toArray w λe w'=>∃x:k.ty,∃y:l.ty,e = .returned (.tuple #[k.val x,l.val y])/\K x y w'
def A8w(k l m:CK)(P:Program)(f:FuncId)(args:List Value)(K:k.ty->l.ty->m.ty->WP):WP:=λw=>
 Calls P f args.toArray w λe w'=>∃x:k.ty,∃y:l.ty,∃z:m.ty,e = .returned (.tuple #[k.val x,l.val y,m.val z])/\K x y z w'
def Q1(l:CK)(P:Program)(f:FuncId)(args:List Value)(N:l.ty->WP)(K:TypeId->Value->l.ty->WP):WP:=λw=>
 Calls P f args.toArray w λe w'=>(∃y:l.ty,e = .returned (.tuple #[.nilIface,l.val y])/\N y w')\/∃t v,∃y:l.ty,e = .returned (.tuple #[.iface t v,l.val y])/\K t v y w'
def lft:Code->Code
 | .seq a _=>a
 | .cond _ a _=>a
 | .block _ b=>b
 | .loop b=>b
 | c=>c
def rgt:Code->Code
 | .seq _ b=>b
 | .cond _ _ b=>b
 | c=>c
def Gk:List Bool->Code->Code
 | [],c=>c
 | false::l,c=>Gk l (lft c)
 | true::l,c=>Gk l (rgt c)
def A4s:List Nat->Code->Code
 | [],c=>c
 | 0::l,c=>A4s l (lft c)
 | _::l,c=>A4s l (rgt c)
def BK(P:Program)(fn:Func)(Q:VW):EW:=λρ=>A2y P fn.results.toList ρ Q
def A6:Nat->EW:=λ_ _=>Dr
def KY(P:Program)(kp:KP)(jn:Jn)(b:Code)(n:EW)(x:Nat->EW)(r:EW):EW:=λρ=>match US kp.live (Akt b) with
 | some ks=>jn (Akt b) (λρ=>Cj P kp jn b n x r ρ) (clean ks 0 ρ)
 | none=>Cj P kp jn b n x r ρ
def A8(id:Nat)(n:EW)(x:Nat->EW):Nat->EW:=λi ρ=>match Nat.beq i id with
 | true=>n ρ
 | false=>x i ρ
def HZ(P:Program)(kp:KP)(jn:Jn)(c:Code)(x:Nat->EW)(r:EW)(m:Nat):EW:=λρ=>
 UT (λk ρ=>Cj P kp jn c k x r ρ) (Gx kp (Aks c)) m (Gx kp (Aks c) ρ)
def Dp(P:Program)(kp:KP)(jn:Jn)(c:Code)(x:Nat->EW)(r:EW)(m:Nat)(ρ:FA):WP:=
 UT (λk ρ=>Cj P kp jn c k x r ρ) (Gx kp (Aks c)) m ρ
def A5(K:(World->Prop)->WP):WP:=λw=>∃S:World->Prop,S w.drew/\K S w.drew
def DH(L:Nat->WP):WP:=λw=>∃m,L m w
end Go.Hb
namespace Go.Hb
def Le(v v':Value):Prop:=v=unk\/v=v'
theorem Le.refl(v:Value):Le v v:=.inr rfl
theorem Le.eq{v v':Value}(h:Le v v')(hu:CV v=false):v'=v:=by
 rcases h with h|h
 ·subst h;simp[CV,unk] at hu
 ·exact h.symm
structure JF(ρ:FA)(a:Act):Prop where
 defers:a.defers=[]
 size:ρ.length<=a.tmps.size
 get:∀t,Le (gt ρ t) (a.tmps.getD t undef)
theorem A37(ρ:FA)(t u:Nat)(v:Value):gt (pt ρ t v) u=if u=t/\t<ρ.length then v else gt ρ u:=by
 induction ρ generalizing t u with
 | nil=>simp[pt,gt]
 | cons x ρ ih=>
  cases t with
  | zero=>cases u <;> simp[pt,gt]
  | succ t=>cases u with
   | zero=>simp[pt,gt]
   | succ u=>simp[pt,gt,ih]
theorem UQ(ρ:FA)(t:Nat)(v:Value):(pt ρ t v).length=ρ.length:=by
 induction ρ generalizing t with
 | nil=>simp[pt]
 | cons x ρ ih=>cases t <;> simp[pt,ih]
theorem JF.put{ρ:FA}{a:Act}(h:JF ρ a)(dst:Option Nat){v v':Value}(hv:Le v v'):JF (ptO ρ dst v) (a.put dst v'):=by
 cases dst with
 | none=>exact h
 | some t=>
  refine⟨h.defers,by simpa[ptO,UQ,Act.put] using h.size,λu=>?_⟩;simp only[ptO,A37,Act.put]
  by_cases hu:u=t/\t<ρ.length
  ·obtain⟨rfl,hl⟩:=hu;have hl':u<a.tmps.size:=Nat.lt_of_lt_of_le hl h.size;simp[hl,hl'];exact hv
  ·rw[if_neg hu]
   by_cases hut:u=t
   ·subst hut;have hl:¬u<ρ.length:=λhl=>hu ⟨rfl,hl⟩;have:gt ρ u=unk:=by
     have key:∀(l:FA)(n:Nat),¬n<l.length->gt l n=unk:=by
      intro l
      induction l with
      | nil=>intros;rfl
      | cons x l ih=>intro n hn;cases n with
       | zero=>simp at hn
       | succ n=>exact ih n (by simpa using hn)
     exact key ρ u hl
    exact .inl this
   ·have:(a.tmps.setIfInBounds t v').getD u undef=a.tmps.getD u undef:=by
     simp[Array.getElem?_setIfInBounds_ne (Ne.symm hut)]
    rw[this];exact h.get u
theorem XT{ρ:FA}{a:Act}(h:JF ρ a)(x:Operand):Le (ev ρ x) (a.eval x):=by
 cases x with
 | tmp t=>exact h.get t
 | _=>exact Le.refl _
theorem Cl{ρ:FA}{a:Act}(h:JF ρ a){x:Operand}{v:Value}(hv:ev ρ x=v)(hu:CV v=false):a.eval x=v:=by
 have:=(XT h x).eq (by rw[hv];exact hu);rw[this,hv]
theorem MA{k k':IntKind}(h:kEq k k'=true):k=k':=by
 cases k <;> cases k' <;> simp_all [kEq]
def A31(P:Program)(o:Oper)(a:Act)(v:Value):Prop:=∀w,(execOp a.eval o).run P w = .ok (.value v) w
theorem OO{P:Program}{t e:TypeId}(he:P.underlying t=some (.pointer e))(d:Nat)(p:OA)(w:World) :
  (Op.equalIn (d+1) t (.pointer p) (.pointer none)).run P w = .ok p.isNone w:=by
 cases p <;> simp[Op.equalIn,run_underlying he]
theorem OP{P:Program}{t e:TypeId}(he:P.underlying t=some (.slice e))(d:Nat)(p:OA)(n c m k:Nat)(w:World) :
  (Op.equalIn (d+1) t (.slice p n c) (.slice none m k)).run P w = .ok p.isNone w:=by
 cases p <;> simp[Op.equalIn,run_underlying he]
theorem MQ{P:Program}{t:TypeId}(he:P.underlying t=some .bool)(d:Nat)(p q:Bool)(w:World) :
  (Op.equalIn (d+1) t (.bool p) (.bool q)).run P w = .ok (p==q) w:=by
 simp[Op.equalIn,run_underlying he]
theorem HD{P:Program}{t:TypeId}{u v:Value}{b:Bool}{w:World}{op:BinOp}(hop:op = .eql\/op = .neq)
  (hu:(∃p,u = .pointer p/\∃q,v = .pointer q)\/(∃p n c,u = .slice p n c/\∃p n c,v = .slice p n c)\/(∃p,u = .bool p/\∃q,v = .bool q))
  (h:(Op.equalIn 10000 t u v).run P w = .ok b w):(binOp op t u v).run P w = .ok (.bool (if op = .eql then b else !b)) w:=by
 have h':(Op.equal t u v).run P w = .ok b w:=h;rcases hop with rfl|rfl <;> rcases hu with⟨p,rfl,q,rfl⟩|⟨p,n,c,rfl,p',n',c',rfl⟩|⟨p,rfl,q,rfl⟩ <;>
  (simp only[binOp,Sem.run_bind,h',Result.andThen_ok];rfl)
section
variable{P:Program}{ρ:FA}{a:Act}
theorem GA{e:TypeId}{k:IntKind}{w:World}(he:P.underlying e=some (.int k)){xs:Array Value}{o:Nat}{v:Value}(h:xs.toList[o]? = some v):(part e xs o).run P w = .ok v w:=by
 have h':xs[o]? = some v:=by rw[<- Array.getElem?_toList];exact h
 unfold part;simp[isAgg,run_underlying he,h']
theorem run_equalIn_int{e:TypeId}{k:IntKind}{w:World}(he:P.underlying e=some (.int k))(d:Nat)(a b:Int):(Op.equalIn (d+1) e (.int k a) (.int k b)).run P w = .ok (a==b) w:=by
 simp[Op.equalIn,run_underlying he]
theorem XS{e:TypeId}{k:IntKind}(he:P.underlying e=some (.int k))(d:Nat)(xs ys:Array Value):∀(l m:List Value)(o:Nat)(K:Bool->Prop),xs.toList.drop o=l->ys.toList.drop o=m->VH k l m K ->
  ∃r,K r/\∀w,(Op.eqItems (d+1) e 1 xs ys (List.range' o l.length)).run P w = .ok r w:=by
 intro l
 induction l with
 | nil=>
  intro m o K h1 h2 h;cases m with
  | nil=>exact⟨true,h,λw=>by simp[Op.eqItems]⟩
  | cons _ _=>exact h.elim
 | cons x l ih=>
  intro m o K h1 h2 h;unfold VH at h;cases x <;> try exact h.elim
  rename_i k1 a;cases m with
  | nil=>exact h.elim
  | cons y m=>
  cases y <;> try exact h.elim
  rename_i k2 b;simp only at h;cases hk:kEq k k1 && kEq k k2 with
  | false=>rw[hk] at h;exact h.elim
  | true=>
   rw[hk] at h;simp only[Bool.and_eq_true] at hk;obtain rfl:=MA hk.1;obtain rfl:=MA hk.2;have hx:xs.toList[o]? = some (.int k a):=by
    have:=congrArg (·[0]?) h1;simpa using this
   have hy:ys.toList[o]? = some (.int k b):=by
    have:=congrArg (·[0]?) h2;simpa using this
   have h1':xs.toList.drop (o+1)=l:=by rw[<- List.drop_drop,h1];rfl
   have h2':ys.toList.drop (o+1)=m:=by rw[<- List.drop_drop,h2];rfl
   obtain⟨r,hr,hw⟩:=ih m (o+1) _ h1' h2' h;refine⟨_,hr,λw=>?_⟩;simp only[List.length_cons,List.range'_succ,Op.eqItems,Sem.run_bind,Nat.mul_one,GA he hx,GA he hy,Result.andThen_ok,run_equalIn_int he];cases hab:(a==b) with
   | true=>simpa using hw w
   | false=>simp
theorem XR(d:Nat)(xs ys:Array Value):∀(fs:List Field)(K:Bool->Prop),VG P xs.toList ys.toList fs K ->
  (∃r,K r/\∀w,(Op.eqFields (d+1) xs ys fs).run P w = .ok r w)/\∀f∈fs,∃k,P.underlying f.type=some (.int k):=by
 intro fs
 induction fs with
 | nil=>intro K h;exact⟨⟨true,h,λw=>by simp[Op.eqFields]⟩,λf hf=>by cases hf⟩
 | cons f fs ih=>
  intro K h;unfold VG at h;cases hu:P.underlying f.type with
  | none=>simp only[hu] at h
  | some td=>
  simp only[hu] at h;cases td <;> try exact h.elim
  rename_i k;simp only at h;cases hx:xs.toList[f.offset]? with
  | none=>simp only[hx] at h
  | some x=>
  simp only[hx] at h;cases x <;> try exact h.elim
  rename_i k1 a;simp only at h;cases hy:ys.toList[f.offset]? with
  | none=>simp only[hy] at h
  | some y=>
  simp only[hy] at h;cases y <;> try exact h.elim
  rename_i k2 b;simp only at h;cases hk : (kEq k k1 && kEq k k2 && !(f.name == "_")) with
  | false=>rw[hk] at h;exact h.elim
  | true=>
   rw[hk] at h;simp only[Bool.and_eq_true,Bool.not_eq_eq_eq_not,Bool.not_true,beq_eq_false_iff_ne] at hk;obtain rfl:=MA hk.1.1;obtain rfl:=MA hk.1.2;obtain⟨⟨r,hr,hw⟩,hall⟩:=ih _ h;refine⟨⟨_,hr,λw=>?_⟩,λg hg=>?_⟩
   ·have hne : f.name ≠ "_" := hk.2;simp only [Op.eqFields,hne,ne_eq,not_false_eq_true,if_true,Sem.run_bind,GA hu hx,GA hu hy,Result.andThen_ok,Hb.run_equalIn_int hu];cases hab:(a == b) with
    | true=>simpa using hw w
    | false=>simp
   ·cases hg with
    | head=>exact⟨_,hu⟩
    | tail _ hg=>exact hall g hg
theorem Acu{op:BinOp}{t:TypeId}{x y:Operand}{u v:Value}{K:Value->Prop}(h:Ajc P op t u v K) :
  ∃r,K r/\CV u=false/\CV v=false/\∀w,((do eqGuard op t x y u v;binOp op t u v:Sem Value)).run P w = .ok r w:=by
 unfold Ajc at h;cases u <;> try exact h.elim
 case agg xs=>
  cases v <;> try exact h.elim
  case agg ys=>
   simp only at h;split at h
   case h_3=>exact h.elim
   case h_2=>
    rename_i fs hfs;cases hst:P.stoodInHeld t with
    | true=>rw[hst] at h;exact h.elim
    | false=>
    rw[hst] at h;have hfo:P.fieldsOf t=fs:=by simp[Program.fieldsOf,hfs]
    obtain⟨⟨r,hr,hw⟩,hall⟩:=XR (P:=P) 9998 xs ys fs.toList _ h;have heq:∀w,(Op.equalIn 10000 t (.agg xs) (.agg ys)).run P w = .ok r w:=by
     intro w;rw[run_equalIn_struct (P:=P) w 9999 t xs ys (by rw[hfo];exact hfs) hst,hfo]
     exact hw w
    have hg:P.eqGuardType P.depth t=false:=by
     obtain⟨d,hd⟩:∃d,P.depth=d+2:=⟨_,rfl⟩;rw[hd];simp only[Program.eqGuardType,hfs];rw[Array.any_eq_false'];intro f hf;obtain⟨k,hk⟩:=hall f (by simpa using hf);simp[hk]
    have heq':∀w,(Op.equal t (.agg xs) (.agg ys)).run P w = .ok r w:=heq;cases op <;> simp only[eqI] at hr <;> try exact hr.elim
    all_goals
     refine⟨_,hr,rfl,rfl,λw=>?_⟩;simp[eqGuard,hg,binOp,heq',go_sem]
   rename_i n e he;split at h
   case h_2=>exact h.elim
   rename_i k hk;cases hc:(P.info? e).isSome && Nat.beq (P.cellsOf e) 1 && Nat.beq xs.toList.length n with
   | false=>rw[hc] at h;exact h.elim
   | true=>
    rw[hc] at h;simp only[Bool.and_eq_true,Nat.beq_eq] at hc;obtain⟨⟨hi,hc1⟩,hn⟩:=hc;obtain⟨i,hi⟩:=Option.isSome_iff_exists.1 hi;obtain⟨r,hr,hw⟩:=XS (P:=P) hk 9998 xs ys _ _ 0 _ rfl rfl h;have heq:∀w,(Op.equalIn 10000 t (.agg xs) (.agg ys)).run P w = .ok r w:=by
     intro w;rw[run_equalIn_array (P:=P) w 9999 xs ys he hi,hc1,List.range_eq_range',<- hn];simpa using hw w
    have hg:P.eqGuardType P.depth t=false:=by
     obtain⟨d,hd⟩:∃d,P.depth=d+2:=⟨_,rfl⟩;rw[hd];simp[Program.eqGuardType,he,hk]
    have heq':∀w,(Op.equal t (.agg xs) (.agg ys)).run P w = .ok r w:=heq;cases op <;> simp only[eqI] at hr <;> try exact hr.elim
    all_goals
     refine⟨_,hr,rfl,rfl,λw=>?_⟩;simp[eqGuard,hg,binOp,heq',go_sem]
 case int k n=>
  cases v <;> try exact h.elim
  case int k' m=>
   have hgen:∀op,cond (kEq k k') (A62 op k n m K) False->∃r,K r/\∀w,((do eqGuard op t x y (.int k n) (.int k' m);binOp op t (.int k n) (.int k' m):Sem Value)).run P w = .ok r w:=by
    intro op h;cases hk:kEq k k' with
    | false=>rw[hk] at h;exact h.elim
    | true=>
     rw[hk] at h;obtain rfl:=MA hk;cases op <;> simp only[A62,cond_true] at h <;> try exact h.elim
     case quo=>exact⟨_,h.2,λw=>by simp[go_sem,Op.intDiv,h.1]⟩
     case rem=>exact⟨_,h.2,λw=>by simp[go_sem,Op.intDiv,h.1]⟩
     all_goals exact⟨_,h,λw=>by simp[go_sem,Op.intArith]⟩
   cases op
   case shl=>
    refine⟨_,h.2,rfl,rfl,λw=>?_⟩;have:¬m<0:=by have:=h.1;omega
    simp[go_sem,Op.shift,this,HF]
   case shr=>
    refine⟨_,h.2,rfl,rfl,λw=>?_⟩;have:¬m<0:=by have:=h.1;omega
    simp[go_sem,Op.shift,this,Dq]
   all_goals
    obtain⟨r,hr,hw⟩:=hgen _ h;exact⟨r,hr,rfl,rfl,hw⟩
 case string s=>
  cases v <;> try exact h.elim
  case string s'=>
   cases op <;> simp only[A9n] at h <;> try exact h.elim
   case add=>
    refine⟨_,h.2,rfl,rfl,λw=>?_⟩;have h1:¬((s.size:Int)+(s'.size:Int)>9223372036854775807):=by have:=h.1;omega
    simp[go_sem,binOp,Op.stringOp];omega
   all_goals exact⟨_,h,rfl,rfl,λw=>by simp[go_sem,binOp,Op.stringOp,Vr,sLt]⟩
 case pointer p=>
  cases v <;> try exact h.elim
  case pointer q=>
   cases q with
   | some q=>exact h.elim
   | none=>
    simp only[As5] at h;split at h
    case h_2=>exact h.elim
    rename_i e he;simp only[cond_true] at h;cases op <;> simp only[eqI] at h <;> try exact h.elim
    all_goals
     refine⟨_,h,rfl,rfl,λw=>?_⟩;simp only[Sem.run_bind,eqGuard_at_pointer,Sem.run_pure,Result.andThen_ok];exact HD (by simp) (.inl ⟨_,rfl,_,rfl⟩) (OO he 9999 p w)
 case slice p n c=>
  cases v <;> try exact h.elim
  case slice q m d=>
   cases q with
   | some q=>exact h.elim
   | none=>
    simp only[Jv] at h;split at h
    case h_2=>exact h.elim
    rename_i e he;simp only[cond_true] at h;cases op <;> simp only[eqI] at h <;> try exact h.elim
    all_goals
     refine⟨_,h,rfl,rfl,λw=>?_⟩;simp only[Sem.run_bind,eqGuard_at_slice,Sem.run_pure,Result.andThen_ok];exact HD (by simp) (.inr (.inl ⟨_,_,_,rfl,_,_,_,rfl⟩)) (OP he 9999 p n c m d w)
 case bool b=>
  cases v <;> try exact h.elim
  case bool b'=>
   simp only[Aic] at h;split at h
   case h_2=>exact h.elim
   rename_i he;simp only[cond_true] at h;cases op <;> simp only[eqI] at h <;> try exact h.elim
   all_goals
    refine⟨_,h,rfl,rfl,λw=>?_⟩;simp only[Sem.run_bind,eqGuard_at_bool,Sem.run_pure,Result.andThen_ok];exact HD (by simp) (.inr (.inr ⟨_,rfl,_,rfl⟩)) (MQ he 9999 b b' w)
theorem So{P:Program}{t:TypeId}{ms:Array (String×TypeId)}(he:P.underlying t=some (.interface ms))(d:Nat)(w:World):(Op.equalIn (d+1) t .nilIface .nilIface).run P w = .ok true w:=by
 simp[Op.equalIn,run_underlying he]
theorem Sn{P:Program}{t:TypeId}{ms:Array (String×TypeId)}(he:P.underlying t=some (.interface ms))(d:Nat)(t':TypeId)(v':Value)(w:World):(Op.equalIn (d+1) t (.iface t' v') .nilIface).run P w = .ok false w:=by
 simp[Op.equalIn,run_underlying he]
theorem Sk{P:Program}{t:TypeId}{ps rs:Array TypeId}{v:Bool}(he:P.underlying t=some (.func ps rs v))(d:Nat)(w:World):(Op.equalIn (d+1) t .nilFunc .nilFunc).run P w = .ok true w:=by
 simp[Op.equalIn,run_underlying he]
theorem Sm{P:Program}{t:TypeId}{ps rs:Array TypeId}{v:Bool}(he:P.underlying t=some (.func ps rs v))(d:Nat)(f:Fn)(a c:Array Value)(w:World):(Op.equalIn (d+1) t (.func f a c) .nilFunc).run P w = .ok false w:=by
 simp[Op.equalIn,run_underlying he]
theorem Rv{t:TypeId}(h:Fs P t=true):∃ms,P.underlying t=some (.interface ms):=by
 unfold Fs at h;split at h
 ·exact⟨_,by assumption⟩
 ·cases h
theorem Af2{op:BinOp}{t:TypeId}{x:Operand}{u:Value}{K:Value->Prop}(h:A7p P op t u K) :
  ∃r,K r/\CV u=false/\∀w,((do eqGuard op t x (.const .nilIface) u .nilIface;binOp op t u .nilIface:Sem Value)).run P w = .ok r w:=by
 unfold A7p at h;cases u <;> try exact h.elim
 case nilIface=>
  cases hi:Fs P t with
  | false=>simp only[hi] at h;exact h.elim
  | true=>
   simp only[hi,cond_true] at h;obtain⟨ms,he⟩:=Rv hi;have heq:∀w,(Op.equalIn 10000 t .nilIface .nilIface).run P w = .ok true w:=So he 9999;have heq':∀w,(Op.equal t .nilIface .nilIface).run P w = .ok true w:=heq;cases op <;> simp only[eqI] at h <;> try exact h.elim
   all_goals
    refine⟨_,h,rfl,λw=>?_⟩;simp[eqGuard,binOp,heq',go_sem]
 case iface t' v'=>
  cases hi:Fs P t with
  | false=>simp only[hi] at h;exact h.elim
  | true=>
   simp only[hi,cond_true] at h;obtain⟨ms,he⟩:=Rv hi;have heq:∀w,(Op.equalIn 10000 t (.iface t' v') .nilIface).run P w = .ok false w:=Sn he 9999 t' v';have heq':∀w,(Op.equal t (.iface t' v') .nilIface).run P w = .ok false w:=heq;cases op <;> simp only[eqI] at h <;> try exact h.elim
   all_goals
    refine⟨_,h,rfl,λw=>?_⟩;simp[eqGuard,binOp,heq',go_sem]
theorem Ru{t:TypeId}(h:HA P t=true):∃ps rs v,P.underlying t=some (.func ps rs v):=by
 unfold HA at h;split at h
 ·exact⟨_,_,_,by assumption⟩
 ·cases h
theorem Abe{op:BinOp}{t:TypeId}{x:Operand}{u:Value}{K:Value->Prop}(h:At7 P op t u K) :
  ∃r,K r/\CV u=false/\∀w,((do eqGuard op t x (.const .nilFunc) u .nilFunc;binOp op t u .nilFunc:Sem Value)).run P w = .ok r w:=by
 unfold At7 at h;cases u <;> try exact h.elim
 case nilFunc=>
  cases hi:HA P t with
  | false=>simp only[hi] at h;exact h.elim
  | true=>
   simp only[hi,cond_true] at h;obtain⟨_,_,_,he⟩:=Ru hi;have heq:∀w,(Op.equalIn 10000 t .nilFunc .nilFunc).run P w = .ok true w:=Sk he 9999;have heq':∀w,(Op.equal t .nilFunc .nilFunc).run P w = .ok true w:=heq;cases op <;> simp only[eqI] at h <;> try exact h.elim
   all_goals
    refine⟨_,h,rfl,λw=>?_⟩;simp[eqGuard,binOp,heq',go_sem]
 case func f first cap=>
  cases hi:HA P t with
  | false=>simp only[hi] at h;exact h.elim
  | true=>
   simp only[hi,cond_true] at h;obtain⟨_,_,_,he⟩:=Ru hi;have heq:∀w,(Op.equalIn 10000 t (.func f first cap) .nilFunc).run P w = .ok false w:=Sm he 9999 f first cap
   have heq':∀w,(Op.equal t (.func f first cap) .nilFunc).run P w = .ok false w:=heq;cases op <;> simp only[eqI] at h <;> try exact h.elim
   all_goals
    refine⟨_,h,rfl,λw=>?_⟩;simp[eqGuard,binOp,heq',go_sem]
end
end Go.Hb
namespace Go.Hb
section
variable{P:Program}{ρ:FA}{a:Act}
theorem Af9{t:TypeId}{n:Nat}(h:FE P t=n+1)(w:World):(sizeOf t).run P w = .ok (n+1) w:=by
 unfold FE at h;split at h
 ·rename_i i hi;simp[sizeOf,typeInfo,hi,h]
 ·cases h
theorem Og{t:TypeId}{i:TypeInfo}(h:P.info? t=some i)(w:World):(sizeOf t).run P w = .ok (FE P t) w:=by
 simp[sizeOf,typeInfo,FE,h]
theorem KF{t:TypeId}{d:TypeDesc}(h:P.underlying t=some d):∃i,P.info? t=some i:=by
 unfold Program.underlying at h;cases hi:P.info? t with
 | some i=>exact⟨i,rfl⟩
 | none=>rw[hi] at h;cases h
theorem Ij{t:TypeId}{d:TypeDesc}(h:P.underlying t=some d)(w:World):(isAgg t).run P w = .ok (Lp P t) w:=by
 unfold isAgg Lp;simp only[Sem.run_bind,run_underlying h,Result.andThen_ok,h];cases d <;> rfl
theorem Amh{op:UnOp}{v:Value}{K:Value->Prop}(h:unI op v K):∃r,K r/\CV v=false/\∀w,(Op.unary op v).run P w = .ok r w:=by
 cases op <;> simp only[unI] at h <;> try exact h.elim
 case not=>cases v <;> simp only at h <;> first|exact h.elim|exact⟨_,h,rfl,λw=>by simp[Op.unary]⟩
 case neg=>cases v <;> simp only at h <;> first|exact h.elim|exact⟨_,h,rfl,λw=>by simp[Op.unary,Op.intArith]⟩
theorem LI{t:TypeId}{f off ft:Nat}(h:Qh P t f=some (off,ft)):∃fs:Array Field,P.underlying t=some (.struct fs)/\∃g,fs[f]? = some g/\g.offset=off/\g.type=ft:=by
 unfold Qh at h;split at h
 ·rename_i fs hfs;split at h
  ·rename_i g hg;simp only[Option.some.injEq,Prod.mk.injEq] at h;exact⟨fs,hfs,g,by rw[<- Array.getElem?_toList];exact hg,h.1,h.2⟩
  ·cases h
 ·cases h
theorem SN{t:TypeId}{v:Value}{f:Nat}{K:Value->Prop}(h:WK P t v f K):∃r,K r/\CV v=false/\∀w,(Instr.fieldAt t v f).run P w = .ok r w:=by
 unfold WK at h;split at h
 case h_2=>exact h.elim
 rename_i b o;split at h
 case h_2=>exact h.elim
 rename_i off ft hf;split at h
 case h_1=>exact h.elim
 rename_i n hn;obtain⟨fs,hu,g,hg,rfl,rfl⟩:=LI hf;refine⟨_,h,rfl,λw=>?_⟩;simp[Instr.fieldAt,run_underlying hu,hg,Instr.sureAddr,fieldPlace,Af9 hn,Addr.add_lit]
theorem Abf{t:TypeId}{cs:Array Value}{off:Nat}{K:Value->Prop}{d:TypeDesc}(hd:P.underlying t=some d)(h:Aud P t cs off K):∃r,K r/\∀w,(part t cs off).run P w = .ok r w:=by
 unfold Aud at h;obtain⟨i,hi⟩:=KF hd;split at h
 ·rename_i ha;refine⟨_,h,λw=>?_⟩;unfold part;simp only[Sem.run_bind,Ij hd,ha,Result.andThen_ok,if_true,Og hi,Sem.run_pure];congr 2;rw[<- Array.toList_inj];simp
 ·rename_i ha;split at h
  case h_2=>exact h.elim
  rename_i v hv;cases hu:CV v with
  | true=>rw[hu] at h;exact h.elim
  | false=>
   rw[hu] at h;refine⟨_,h,λw=>?_⟩;have hv':cs[off]? = some v:=by rw[<- Array.getElem?_toList];exact hv
   unfold part;simp[Ij hd,ha,hv']
theorem Dh{t:TypeId}(h:(P.info? t).isSome=true)(w:World):(sizeOf t).run P w = .ok (FE P t) w:=by
 obtain⟨i,hi⟩:=Option.isSome_iff_exists.1 h;exact Og hi w
theorem SP{t:TypeId}{x i:Value}{K:Value->Prop}(h:WN P t x i K):∃r,K r/\CV x=false/\CV i=false/\∀w,(Instr.indexAt t x i).run P w = .ok r w:=by
 unfold WN at h;split at h
 case h_2=>exact h.elim
 rename_i k n;split at h
 case h_3=>exact h.elim
 ·rename_i e he;split at h
  case h_2=>exact h.elim
  rename_i base len cap;cases hi:(P.info? e).isSome with
  | false=>rw[hi] at h;exact h.elim
  | true=>
   rw[hi] at h;obtain⟨b,o,rfl,hb,hK⟩:=h;refine⟨_,hK,rfl,rfl,λw=>?_⟩;simp only[Instr.indexAt,asIntOf,Sem.run_bind,Sem.run_pure,Result.andThen_ok,run_underlying he,hb,if_true,and_self,Dh hi,Addr.add_lit,Sem.run_ite]
 ·rename_i len e he;split at h
  case h_2=>exact h.elim
  rename_i b o;cases hi:(P.info? e).isSome with
  | false=>rw[hi] at h;exact h.elim
  | true=>
   rw[hi] at h;obtain⟨hb,hK⟩:=h;refine⟨_,hK,rfl,rfl,λw=>?_⟩;simp only[Instr.indexAt,asIntOf,Sem.run_bind,Sem.run_pure,Result.andThen_ok,run_underlying he,hb,if_true,and_self,Dh hi,Addr.add_lit,Sem.run_ite,Instr.sureAddr]
theorem WO{t:TypeId}{x i:Value}{K:Value->Prop}(h:Afe P t x i K):∃r,K r/\CV x=false/\CV i=false/\∀w,(Instr.index t x i).run P w = .ok r w:=by
 unfold Afe at h;split at h
 case h_2=>exact h.elim
 rename_i k n;split at h
 case h_3=>exact h.elim
 ·rename_i s;simp only[DN] at h;split at h
  case h_2=>exact h.elim
  rename_i hu;simp only[cond_true] at h;obtain⟨hb,hK⟩:=h;refine⟨_,hK,rfl,rfl,λw=>?_⟩;have hlt:n.toNat<s.size:=by omega
  have h1:s[n.toNat]? = some s[n.toNat]:=by
   simp[hlt]
  simp only[Instr.index,asIntOf,Sem.run_bind,Sem.run_pure,Result.andThen_ok,run_underlying hu,hb.1,if_true,h1];have h2:s.data.toList[n.toNat]? = some s[n.toNat]:=by
   have:n.toNat<s.data.toList.length:=by simpa using hlt
   rw[List.getElem?_eq_getElem this];rfl
  simp only[AG,h2,Option.getD_some]
 ·rename_i cs;split at h
  case h_2=>exact h.elim
  rename_i len e hu;split at h
  case h_2=>exact h.elim
  rename_i k' hk;cases hc:(Lp P e || !Nat.beq (FE P e) 1 || !(P.info? e).isSome) with
  | true=>rw[hc] at h;exact h.elim
  | false=>
   rw[hc] at h;simp only[Bool.or_eq_false_iff,Bool.not_eq_eq_eq_not,Bool.not_false] at hc;obtain⟨⟨hag,hsz⟩,hi⟩:=hc;have hsz':FE P e=1:=Nat.eq_of_beq_eq_true hsz;obtain⟨hb,v,hv,hU,hK⟩:=h;refine⟨_,hK,rfl,rfl,λw=>?_⟩;have hd:∃d,P.underlying e=some d:=by
    cases hd:P.underlying e with
    | some d=>exact⟨d,rfl⟩
    | none=>simp[cks,hd] at hk
   obtain⟨d,hd⟩:=hd;have hv':cs[n.toNat]? = some (k'.val v):=by rw[<- Array.getElem?_toList];exact hv
   simp[Instr.index,asIntOf,run_underlying hu,hb,Dh hi,hsz',part,Ij hd,hag,hv']
theorem QB{x:Value}{i:Nat}{K:Value->Prop}(h:QA x i K):∃r,K r/\CV x=false/\∀w,(Instr.extract x i).run P w = .ok r w:=by
 unfold QA at h;split at h
 case h_2=>exact h.elim
 rename_i vs;split at h
 case h_2=>exact h.elim
 rename_i v hv;have hv':vs[i]? = some v:=by rw[<- Array.getElem?_toList];exact hv
 exact⟨_,h,rfl,λw=>by simp[Instr.extract,hv']⟩
theorem MV{s d:TypeId}{x:Value}{K:Value->Prop}(hs:(P.underlying s).isSome=true)(h:XM P d x K):∃r,K r/\CV x=false/\∀w,(convert s d x).run P w = .ok r w:=by
 obtain⟨sd,hs⟩:=Option.isSome_iff_exists.1 hs;unfold XM at h;split at h
 case h_3=>exact h.elim
 ·split at h
  case h_2=>exact h.elim
  rename_i k hd;exact⟨_,h,rfl,λw=>by simp[convert,run_underlying hs,run_underlying hd,Conv.intToInt]⟩
 ·simp only[DN] at h;split at h
  case h_2=>exact h.elim
  rename_i hd;exact⟨_,h,rfl,λw=>by simp[convert,run_underlying hs,run_underlying hd]⟩
theorem Afr{t ty:TypeId}{x:Value}{K:Value->Prop}(h:A7g P t x K):∃r,K r/\CV x=false/\∀w,(Builtin.len_ #[t] ty #[x]).run P w = .ok r w:=by
 unfold A7g at h;split at h
 case h_4=>exact h.elim
 ·simp only[DN] at h;split at h
  case h_2=>exact h.elim
  rename_i hd;exact⟨_,h,rfl,λw=>by simp[Builtin.len_,run_underlying hd,goInt]⟩
 ·simp only[Jv] at h;split at h
  case h_2=>exact h.elim
  rename_i hd;exact⟨_,h,rfl,λw=>by simp[Builtin.len_,run_underlying hd,goInt]⟩
 ·split at h
  case h_2=>exact h.elim
  rename_i hd;exact⟨_,h,rfl,λw=>by simp[Builtin.len_,run_underlying hd,goInt]⟩
theorem Afz{ts:Array TypeId}{ty:TypeId}{x y:Value}{K:Value->Prop}(h:A7k x y K):∃r,K r/\CV x=false/\CV y=false/\∀w,(Builtin.max_ ts ty #[x,y]).run P w = .ok r w:=by
 unfold A7k at h;split at h
 case h_2=>exact h.elim
 split at h
 case h_2=>exact h.elim
 exact⟨_,h,rfl,rfl,λw=>by simp[Builtin.max_,Builtin.max2]⟩
theorem Af0{ts:Array TypeId}{ty:TypeId}{x y:Value}{K:Value->Prop}(h:A7l x y K):∃r,K r/\CV x=false/\CV y=false/\∀w,(Builtin.min_ ts ty #[x,y]).run P w = .ok r w:=by
 unfold A7l at h;split at h
 case h_2=>exact h.elim
 split at h
 case h_2=>exact h.elim
 exact⟨_,h,rfl,rfl,λw=>by simp[Builtin.min_,Builtin.min2]⟩
theorem Abb{ts:Array TypeId}{ty:TypeId}{x y z u:Value}{K:Value->Prop}(h:At0 x y z u K):∃r,K r/\CV x=false/\CV y=false/\CV z=false/\CV u=false/\∀w,(Builtin.min_ ts ty #[x,y,z,u]).run P w = .ok r w:=by
 unfold At0 at h;split at h
 case h_2=>exact h.elim
 split at h
 case h_2=>exact h.elim
 split at h
 case h_2=>exact h.elim
 split at h
 case h_2=>exact h.elim
 exact⟨_,h,rfl,rfl,rfl,rfl,λw=>by simp[Builtin.min_,Builtin.min2,mn] <;> rfl⟩
theorem Xi{v:Value}{K:Value->Prop}(h:Af3 v K):∃b o,v = .pointer (some ⟨b,o,none⟩)/\K v:=by
 unfold Af3 at h;split at h
 case h_2=>exact h.elim
 obtain⟨b,o,rfl,hK⟩:=h;exact⟨b,o,rfl,hK⟩
theorem HY{v:Option Value}{h:Nat}{K:Nat->Prop}{m:Bool}(hh:loB v h K):∃l,K l/\l<=h/\(∀x,v=some x->CV x=false)/\∀w,(match v with
  | some v=>Instr.sliceBound v h (if m then .slice3C else .sliceB)
  | none=>(pure 0:Sem Nat)).run P w = .ok l w:=by
 unfold loB at hh;split at hh
 case h_3=>exact hh.elim
 ·exact⟨_,hh,Nat.zero_le _,by simp,λw=>rfl⟩
 ·obtain⟨hb,hK⟩:=hh;exact⟨_,hK,by omega,by rintro x ⟨⟩;rfl,λw=>by simp[Instr.sliceBound,asIntOf,hb]⟩
theorem Xt{t:TypeId}{x:Value}{lo hi mx:Option Value}{K:Value->Prop}(h:Aga P t x lo hi mx K) :
  ∃r,K r/\CV x=false/\(∀y,lo=some y->CV y=false)/\(∀y,hi=some y->CV y=false)/\(∀y,mx=some y->CV y=false)/\∀w,(Instr.sliceAt t x lo hi mx).run P w = .ok r w:=by
 unfold Aga at h;split at h
 case h_3=>exact h.elim
 ·rename_i s;simp only[DN] at h;split at h
  case h_2=>exact h.elim
  rename_i hd;simp only[cond_true] at h;cases mx with
  | some m=>exact h.elim
  | none=>
   have key:∃u,(∃l,K (.string (s.extract l u))/\(∀y,lo=some y->CV y=false)/\∀w,(match lo with
     | some v=>Instr.sliceBound v u (if (none:Option Value).isSome then .slice3C else .sliceB)
     | none=>(pure 0:Sem Nat)).run P w = .ok l w)/\(∀y,hi=some y->CV y=false)/\∀w,(match hi with
     | some v=>Instr.sliceBound v s.size .sliceAlen
     | none=>(pure s.size:Sem Nat)).run P w = .ok u w:=by
    simp only[hiB] at h;split at h
    case h_3=>exact h.elim
    ·obtain⟨l,hK,_,hU,hl⟩:=HY (P:=P) (m:=(none:Option Value).isSome) h;exact⟨s.size,⟨l,hK,hU,hl⟩,by simp,λw=>rfl⟩
    ·obtain⟨hb,h⟩:=h;obtain⟨l,hK,_,hU,hl⟩:=HY (P:=P) (m:=(none:Option Value).isSome) h;exact⟨_,⟨l,hK,hU,hl⟩,by rintro x ⟨⟩;rfl,λw=>by simp[Instr.sliceBound,asIntOf,hb]⟩
   obtain⟨u,⟨l,hK,hU,hl⟩,hU',hu⟩:=key;refine⟨_,hK,rfl,hU,hU',by simp,λw=>?_⟩;cases hi <;> cases lo <;> simp only[Option.isSome_none,Bool.false_eq_true,if_false] at hu hl <;>
    simp only[Instr.sliceAt,Instr.slice,Sem.run_bind,run_underlying hd,Result.andThen_ok,Instr.sliceBounds,hu,hl,Sem.run_pure,Option.isSome_none,Bool.false_eq_true,if_false]
 ·rename_i base n c;split at h
  case h_2=>exact h.elim
  rename_i e hd;cases hi':(P.info? e).isSome with
  | false=>rw[hi'] at h;exact h.elim
  | true=>
   rw[hi'] at h;simp only[cond_true] at h;have key:∃m u,(∃l,K (.slice (GC base l m (FE P e)) (u-l) (m-l))/\(∀y,lo=some y->CV y=false)/\∀w,(match lo with
     | some v=>Instr.sliceBound v u (if mx.isSome then .slice3C else .sliceB)
     | none=>(pure 0:Sem Nat)).run P w = .ok l w)/\(∀y,hi=some y->CV y=false)/\(∀y,mx=some y->CV y=false)/\(∀w,(match mx with
     | some v=>Instr.sliceBound v c .slice3Acap
     | none=>(pure c:Sem Nat)).run P w = .ok m w)/\(∀w,(match hi,mx with
     | some v,some _=>Instr.sliceBound v m .slice3B
     | some v,none=>Instr.sliceBound v m .sliceAcap
     | none,none=>(pure n:Sem Nat)
     | none, some _ => stuck "Slice: max without high").run P w = .ok u w) := by
    split at h
    ·split at h
     case h_2=>exact h.elim
     obtain⟨l,hK,_,hU,hl⟩:=HY (P:=P) (m:=(none:Option Value).isSome) h;exact⟨c,n,⟨l,hK,hU,hl⟩,by simp,by simp,λw=>rfl,λw=>rfl⟩
    ·simp only[mxB] at h;split at h
     case h_3=>exact h.elim
     ·simp only[hiB] at h;split at h
      case h_1=>rename_i hx;cases hx
      case h_3=>exact h.elim
      cases ‹some _=some (Value.int _ _)›;obtain⟨hb,h⟩:=h;obtain⟨l,hK,_,hU,hl⟩:=HY (P:=P) (m:=(none:Option Value).isSome) h;exact⟨c,_,⟨l,hK,hU,hl⟩,by rintro x ⟨⟩;rfl,by simp,λw=>rfl,λw=>by simp[Instr.sliceBound,asIntOf,hb]⟩
     ·rename_i k i;obtain⟨hb0,h⟩:=h;simp only[hiB] at h;split at h
      case h_1=>rename_i hx;cases hx
      case h_3=>exact h.elim
      cases ‹some _=some (Value.int _ _)›;obtain⟨hb,h⟩:=h;obtain⟨l,hK,_,hU,hl⟩:=HY (P:=P) (m:=(some (Value.int k i):Option Value).isSome) h;exact⟨_,_,⟨l,hK,hU,hl⟩,by rintro x ⟨⟩;rfl,by rintro x ⟨⟩;rfl,λw=>by simp[Instr.sliceBound,asIntOf,hb0],λw=>by simp[Instr.sliceBound,asIntOf] ;omega⟩
   obtain⟨m,u,⟨l,hK,hU,hl⟩,hU',hU'',hm,hu⟩:=key;refine⟨_,hK,rfl,hU,hU',hU'',λw=>?_⟩;cases hi <;> cases lo <;> cases mx <;> simp only[Option.isSome_none,Option.isSome_some,Bool.false_eq_true,if_false,if_true] at hm hu hl <;>
    simp only[Instr.sliceAt,Instr.slice,Sem.run_bind,run_underlying hd,Result.andThen_ok,Instr.sliceBounds,if_true,hm,hu,hl,Sem.run_pure,Dh hi',GC,Option.isSome_none,Option.isSome_some,Bool.false_eq_true,if_false]
end
end Go.Hb
namespace Go.Hb
theorem A9k(l:FA)(t:Nat)(v:Value):pt l t v=l.set t v:=by
 induction l generalizing t with
 | nil=>cases t <;> rfl
 | cons x l ih=>cases t with
  | zero=>rfl
  | succ t=>simp[pt,ih]
theorem RB(off:Nat):∀(vs:List Value)(k:Nat)(A:Array Value),
  (vs.zipIdx k).foldl (λcs p=>cs.setIfInBounds (off+p.2) p.1) A=(UO A.toList (off+k) vs).toArray
 | [],_,A=>by simp[UO]
 | v::vs,k,A=>by
  simp only[List.zipIdx_cons,List.foldl_cons,UO];rw[RB off vs (k+1)];simp[A9k,Nat.add_assoc]
theorem GD(v:Value):v.cells=(DL v).toArray:=by
 cases v <;> simp[Value.cells,DL]
theorem Hk{place:Nat->Option (Nat×Nat)}:∀(parts:List (Nat×Value))(cells r:List Value),NP place cells parts=some r ->
  Instr.fill place cells.toArray parts=some r.toArray/\∀p∈parts,CV p.2=false
 | [],cells,r,h=>by simp[NP] at h;simp[Instr.fill,h]
 | (i,v)::rest,cells,r,h=>by
  simp only[NP] at h;split at h
  ·cases h
  rename_i off size hp;cases hc:(CV v || !(Nat.beq (DL v).length size) || !(Nat.ble (off+size) cells.length)) with
  | true=>rw[hc] at h;cases h
  | false=>
   rw[hc] at h;simp only[cond_false] at h;simp only[Bool.or_eq_false_iff,Bool.not_eq_eq_eq_not,Bool.not_false] at hc;obtain⟨⟨hu,hs⟩,hl⟩:=hc;have hs':(DL v).length=size:=Nat.eq_of_beq_eq_true hs;have hl':off+size<=cells.length:=Nat.le_of_ble_eq_true hl;have ih:=Hk rest _ r h;refine⟨?_,?_⟩
   ·simp only[Instr.fill,hp];have h1:v.cells.size=size:=by rw[GD];simpa using hs'
    rw[if_neg (by simp[h1];omega)];have h2:v.cells.zipIdx.foldl (λcs (x:Value×Nat)=>cs.setIfInBounds (off+x.2) x.1) cells.toArray=(UO cells off (DL v)).toArray:=by
     rw[<- Array.foldl_toList,GD,Array.toList_zipIdx];simpa using RB off (DL v) 0 cells.toArray
    exact(congrArg (λz=>Instr.fill place z rest) h2).trans ih.1
   ·intro p hp';cases hp' with
    | head=>exact hu
    | tail _ h'=>exact ih.2 p h'
section
variable{P:Program}{ρ:FA}{a:Act}
theorem Sp(w:World):∀(l:List Field),(l.all λf=>(P.info? f.type).isSome)=true ->
  (l.mapM (λf=>do pure (f.offset,<- sizeOf f.type):Field->Sem (Nat×Nat))).run P w = .ok (l.map λf=>(f.offset,FE P f.type)) w
 | [],_=>by simp
 | f::l,h=>by
  simp only[List.all_cons,Bool.and_eq_true] at h;have ih:=Sp w l h.2;simp only[List.mapM_cons,Sem.run_bind,Dh h.1,ih,Result.andThen_ok,Sem.run_pure,List.map_cons]
theorem Abo(w:World)(fs:Array Field)(h:(fs.toList.all λf=>(P.info? f.type).isSome)=true) :
  (fs.mapM (λf=>do pure (f.offset,<- sizeOf f.type):Field->Sem (Nat×Nat))).run P w = .ok (fs.toList.map λf=>(f.offset,FE P f.type)).toArray w:=by
 rw[Array.mapM_eq_mapM_toList,Sem.run_map,Sp w _ h];rfl
theorem H7{t:TypeId}{z:List Value}(h:GV P t=some z):∃v,(∀w,(zeroValue t).run P w = .ok v w)/\v.cells=z.toArray:=by
 unfold GV at h;split at h
 case h_2=>cases h
 rename_i i hi;split at h
 case h_2=>cases h
 rename_i v hv;refine⟨v,λw=>by simp[zeroValue,typeInfo,hi,hv],?_⟩;rw[GD,Option.some.inj h]
theorem V6{t:TypeId}{parts:List (Nat×Value)}{r:List Value}(h:Acv P t parts=some r) :
  (∀p∈parts,CV p.2=false)/\∀w,(Instr.build t parts.toArray).run P w = .ok (.agg r.toArray) w:=by
 unfold Acv at h;split at h
 ·cases h
 rename_i z hz;obtain⟨v,hv,hvc⟩:=H7 hz;split at h
 case h_3=>cases h
 ·rename_i fs hu;cases hall:(fs.toList.all λf=>(P.info? f.type).isSome) with
  | false=>rw[hall] at h;cases h
  | true=>
   rw[hall] at h;obtain⟨h1,h2⟩:=Hk _ _ _ h;refine⟨h2,λw=>?_⟩;have h3:(λi=>((fs.toList.map λf=>(f.offset,FE P f.type)).toArray)[i]?)=Xl P fs.toList:=by
    funext i;simp only[List.getElem?_toArray,List.getElem?_map,Xl];cases fs.toList[i]? <;> rfl
   simp only[Instr.build,Sem.run_bind,hv,Result.andThen_ok,run_underlying hu,Abo _ _ hall,hvc,h3,h1,Sem.run_pure]
 ·rename_i n e hu;cases hi:(P.info? e).isSome with
  | false=>rw[hi] at h;cases h
  | true=>
   rw[hi] at h;obtain⟨h1,h2⟩:=Hk _ _ _ h;refine⟨h2,λw=>?_⟩;simp only[Instr.build,Sem.run_bind,hv,Result.andThen_ok,run_underlying hu,hvc,Dh hi,h1,Sem.run_pure]
theorem K5(hs:JF ρ a):∀(l:List (Nat×Operand)),(∀p∈He ρ l,CV p.2=false)->l.map (λp=>(p.1,a.eval p.2))=He ρ l
 | [],_=>rfl
 | (i,x)::l,h=>by
  simp only[List.map_cons,He];rw[K5 hs l (λp hp=>h p (.tail _ hp)),Cl hs rfl (h (i,ev ρ x) (.head _))]
theorem Ac5(hs:JF ρ a){o:Option Operand}(h:∀y,evO ρ o=some y->CV y=false):o.map a.eval=evO ρ o:=by
 cases o with
 | none=>rfl
 | some x=>simp only[Option.map_some,evO];rw[Cl hs rfl (h _ rfl)]
theorem Ik{s:Sem Value}{r:Value}{w:World}(h:s.run P w = .ok r w):((do pure (Next.value (<- s)):Sem Next)).run P w = .ok (.value r) w:=by
 simp[h]
theorem Od{o:Oper}{F:(Value->Prop)->Prop}{K:Value->Prop}(hF:Vg P ρ o.op=some F)(h:F K)(hs:JF ρ a) :
  ∃v v',Le v v'/\K v/\A31 P o a v':=by
 obtain⟨dst,op,ty,pos,after,guard⟩:=o;unfold A31;cases op <;> simp only[Vg] at hF <;> try (cases hF;done)
 case move x=>cases hF;exact⟨_,_,XT hs x,h,λw=>by simp[execOp]⟩
 case assign x=>cases hF;exact⟨_,_,XT hs x,h,λw=>by simp[execOp]⟩
 case pick c x y=>
  cases hF;unfold A4g at h;split at h
  case h_2=>exact h.elim
  rename_i t hc;have hc':=Cl hs hc rfl;cases t with
  | true=>exact⟨_,_,XT hs x,h,λw=>by simp[execOp,hc',asBool]⟩
  | false=>exact⟨_,_,XT hs y,h,λw=>by simp[execOp,hc',asBool]⟩
 case nilCheck x=>
  cases hF;obtain⟨b,o,hv,hK⟩:=Xi h;have hx:=Cl hs hv rfl;exact⟨_,_,Le.refl _,hK,λw=>by simp[execOp,hx,hv]⟩
 case binOp op t x y t2=>
  have gen:Ajc P op t (ev ρ x) (ev ρ y) K->∃v v',Le v v'/\K v/\∀w,(execOp a.eval ⟨dst,.binOp op t x y t2,ty,pos,after,guard⟩).run P w = .ok (.value v') w:=λh=>by
   obtain⟨r,hK,hu,hv,hw⟩:=Acu (x:=x) (y:=y) h;exact⟨_,_,Le.refl _,hK,λw=>by simp only[execOp];rw[Cl hs rfl hu,Cl hs rfl hv];exact Ik (hw w)⟩
  have spec:∀r,K r->CV (ev ρ x)=false->(∀w,((do eqGuard op t x y (ev ρ x) (a.eval y);binOp op t (ev ρ x) (a.eval y):Sem Value)).run P w = .ok r w)->∃v v',Le v v'/\K v/\∀w,(execOp a.eval ⟨dst,.binOp op t x y t2,ty,pos,after,guard⟩).run P w = .ok (.value v') w:=λr hK hu hw=>
   ⟨_,_,Le.refl _,hK,λw=>by simp only[execOp];rw[Cl hs rfl hu];exact Ik (hw w)⟩
  cases y with
  | const c=>
   by_cases h1:c = .nilIface
   ·subst h1;cases hF;obtain⟨r,hK,hu,hw⟩:=Af2 (x:=x) h;exact spec r hK hu hw
   by_cases h2:c = .nilFunc
   ·subst h2;cases hF;obtain⟨r,hK,hu,hw⟩:=Abe (x:=x) h;exact spec r hK hu hw
   have hF':some (Ajc P op t (ev ρ x) c)=some F:=by
    rw[<- hF];cases c <;> first|rfl|exact absurd rfl h1|exact absurd rfl h2
   cases hF';exact gen h
  | tmp t=>cases hF;exact gen h
  | global g=>cases hF;exact gen h
  | func f=>cases hF;exact gen h
 case makeInterface t x=>
  cases hF;cases hc:((P.underlying t).isSome && !Fs P t && !CV (ev ρ x)) with
  | false=>rw[hc] at h;exact h.elim
  | true=>
   rw[hc] at h;simp only[Bool.and_eq_true,Bool.not_eq_eq_eq_not,Bool.not_true] at hc;obtain⟨d,hd⟩:=Option.isSome_iff_exists.1 hc.1.1;have hni:=hc.1.2;have hr:∀w,(Instr.makeInterface t (ev ρ x)).run P w = .ok (.iface t (ev ρ x)) w:=by
    intro w;unfold Fs at hni;rw[hd] at hni;unfold Instr.makeInterface;simp only[Sem.run_bind,run_underlying hd,Result.andThen_ok];cases d <;> first|rfl|cases hni
   exact⟨_,_,Le.refl _,h,λw=>by simp only[execOp];rw[Cl hs rfl hc.2];exact Ik (hr w)⟩
 case unOp op t x=>
  cases hF;obtain⟨r,hK,hu,hw⟩:=Amh h;exact⟨_,_,Le.refl _,hK,λw=>by simp only[execOp];rw[Cl hs rfl hu];exact Ik (hw w)⟩
 case convert s d x=>
  split at hF
  case h_3=>cases hF
  ·rename_i k n hx;cases hsrc:(P.underlying s).isSome with
   | false=>rw[hsrc] at hF;cases hF
   | true=>
    rw[hsrc] at hF;cases hF;have h':XM P d (.int k n) K:=h;obtain⟨r,hK,hu,hw⟩:=MV hsrc h';exact⟨_,_,Le.refl _,hK,λw=>by simp only[execOp];rw[Cl hs hx rfl];exact Ik (hw w)⟩
  ·rename_i b hx;cases hst:DN P s with
   | false=>rw[hst] at hF;cases hF
   | true=>
    rw[hst] at hF;cases hsd:DN P d with
    | false=>rw[hsd] at hF;cases hF
    | true=>
     rw[hsd] at hF;cases hF;have hsrc:(P.underlying s).isSome=true:=by
      unfold DN at hst;split at hst
      ·rename_i he;simp[he]
      ·cases hst
     obtain⟨r,hK,hu,hw⟩:=MV hsrc h;exact⟨_,_,Le.refl _,hK,λw=>by simp only[execOp];rw[Cl hs hx rfl];exact Ik (hw w)⟩
 case slice t x lo hi mx=>
  cases hF;obtain⟨r,hK,hu,h1,h2,h3,hw⟩:=Xt h;exact⟨_,_,Le.refl _,hK,λw=>by simp only[execOp];rw[Cl hs rfl hu,Ac5 hs h1,Ac5 hs h2,Ac5 hs h3];exact Ik (hw w)⟩
 case fieldAddr t x f=>
  cases hF;obtain⟨r,hK,hu,hw⟩:=SN h;exact⟨_,_,Le.refl _,hK,λw=>by simp only[execOp];rw[Cl hs rfl hu];exact Ik (hw w)⟩
 case field t x f=>
  cases hF;have key:∃r,K r/\CV (ev ρ x)=false/\∀w,(Instr.field t (ev ρ x) f).run P w = .ok r w:=by
   unfold Asr at h;split at h
   case h_2=>exact h.elim
   rename_i cs hx;split at h
   case h_2=>exact h.elim
   rename_i off ft hf;obtain⟨fs,hu,g,hg,rfl,rfl⟩:=LI hf;cases hd:P.underlying g.type with
   | none=>rw[hd] at h;exact h.elim
   | some d=>
    rw[hd] at h;obtain⟨r,hK,hw⟩:=Abf hd h;exact⟨r,hK,by rw[hx];rfl,λw=>by simp[Instr.field,run_underlying hu,hg,asAgg,hx,hw]⟩
  obtain⟨r,hK,hu,hw⟩:=key;exact⟨_,_,Le.refl _,hK,λw=>by simp only[execOp];rw[Cl hs rfl hu];exact Ik (hw w)⟩
 case indexAddr t x i=>
  cases hF;obtain⟨r,hK,hu,hv,hw⟩:=SP h;exact⟨_,_,Le.refl _,hK,λw=>by simp only[execOp];rw[Cl hs rfl hu,Cl hs rfl hv];exact Ik (hw w)⟩
 case index t x i=>
  cases hF;obtain⟨r,hK,hu,hv,hw⟩:=WO h;exact⟨_,_,Le.refl _,hK,λw=>by simp only[execOp];rw[Cl hs rfl hu,Cl hs rfl hv];exact Ik (hw w)⟩
 case extract x i=>
  cases hF;obtain⟨r,hK,hu,hw⟩:=QB h;exact⟨_,_,Le.refl _,hK,λw=>by simp only[execOp];rw[Cl hs rfl hu];exact Ik (hw w)⟩
 case build t ps=>
  cases hF;unfold Amx at h;split at h
  case h_2=>exact h.elim
  rename_i cs hb;obtain⟨h1,h2⟩:=V6 hb;refine⟨_,_,Le.refl _,h,λw=>?_⟩;have he:(ps.map λ(x:Nat×Operand)=>(x.1,a.eval x.2))=(He ρ ps.toList).toArray:=by
   rw[<- K5 hs _ h1,<- Array.toList_inj];simp
  have:=h2 w;rw[<- he] at this;exact Ik this
 case call c=>
  obtain⟨callee,args,ats⟩:=c;simp only at hF;split at hF
  case h_2=>cases hF
  rename_i b;have hmap1:∀x,args.toList=[x]->CV (ev ρ x)=false->args.map a.eval=#[ev ρ x]:=by
   intro x hx hu;rw[<- Array.toList_inj];simp[hx,Cl hs rfl hu]
  have hmap2:∀x y,args.toList=[x,y]->CV (ev ρ x)=false->CV (ev ρ y)=false->args.map a.eval=#[ev ρ x,ev ρ y]:=by
   intro x y hx hu hv;rw[<- Array.toList_inj];simp[hx,Cl hs rfl hu,Cl hs rfl hv]
  split at hF
  case h_4=>cases hF
  ·split at hF
   case h_2=>cases hF
   rename_i x hx;split at hF
   case h_2=>cases hF
   rename_i t ht;cases hF;obtain⟨r,hK,hu,hw⟩:=Afr (ty:=ty) h;have hats:ats=#[t]:=by rw[<- Array.toList_inj];exact ht
   refine⟨_,_,Le.refl _,hK,λw=>?_⟩;simp only[execOp,resolve,hmap1 x hx hu,Sem.run_bind,Sem.run_pure,Result.andThen_ok,invoke,builtin,hats,hw]
  ·split at hF
   case h_2=>cases hF
   rename_i x y hx;cases hF;obtain⟨r,hK,hu,hv,hw⟩:=Afz (P:=P) (ts:=ats) (ty:=ty) h;refine⟨_,_,Le.refl _,hK,λw=>?_⟩;simp only[execOp,resolve,hmap2 x y hx hu hv,Sem.run_bind,Sem.run_pure,Result.andThen_ok,invoke,builtin,hw]
  ·split at hF
   case h_3=>cases hF
   ·rename_i x y hx;cases hF;obtain⟨r,hK,hu,hv,hw⟩:=Af0 (P:=P) (ts:=ats) (ty:=ty) h;refine⟨_,_,Le.refl _,hK,λw=>?_⟩;simp only[execOp,resolve,hmap2 x y hx hu hv,Sem.run_bind,Sem.run_pure,Result.andThen_ok,invoke,builtin,hw]
   ·rename_i x y z u hx;cases hF;obtain⟨r,hK,h1,h2,h3,h4,hw⟩:=Abb (P:=P) (ts:=ats) (ty:=ty) h;refine⟨_,_,Le.refl _,hK,λw=>?_⟩;have hm:args.map a.eval=#[ev ρ x,ev ρ y,ev ρ z,ev ρ u]:=by
     rw[<- Array.toList_inj];simp[hx,Cl hs rfl h1,Cl hs rfl h2,Cl hs rfl h3,Cl hs rfl h4]
    simp only[execOp,resolve,hm,Sem.run_bind,Sem.run_pure,Result.andThen_ok,invoke,builtin,hw]
end
end Go.Hb
namespace Go.Hb
section
variable{P:Program}{ρ:FA}{a:Act}{w:World}
theorem A8j{k:CK}{v:Value}{x:k.ty}(h:k.un v=some x):v=k.val x:=by
 cases k with
 | int k=>
  cases v <;> simp[CK.un] at h
  rename_i k' n;cases hk:kEq k k' with
  | false=>rw[hk] at h;cases h
  | true=>
   rw[hk] at h;obtain rfl:=MA hk;cases h;rfl
 | bool=>cases v <;> simp[CK.un] at h;subst h;rfl
 | str=>cases v <;> simp[CK.un] at h;subst h;rfl
 | ptr=>cases v <;> simp[CK.un] at h;subst h;rfl
 | slc=>cases v <;> simp[CK.un] at h;subst h;rfl
 | any=>
  simp only[CK.un] at h;cases hu:CV v with
  | true=>rw[hu] at h;cases h
  | false=>rw[hu] at h;cases h;rfl
theorem Aa3{k:CK}{b o:Nat}{K:k.ty->WP}(h:ld k b o K w):∃x,w.cell? ⟨b,o,none⟩=some (k.val x)/\K x w:=by
 unfold ld at h;split at h
 case h_2=>exact h.elim
 rename_i x hx;cases hc:w.cell? ⟨b,o,none⟩ with
 | none=>rw[hc] at hx;cases hx
 | some v=>
  rw[hc] at hx;exact⟨x,by rw[A8j hx],h⟩
theorem Ak0{b o:Nat}{N:WP}{K:TypeId->VW}(h:Ot b o N K w):∃x,w.cell? ⟨b,o,none⟩=some x/\((x = .nilIface/\N w)\/∃t v,x = .iface t v/\K t v w):=by
 unfold Ot at h;split at h
 ·rename_i hc;exact⟨_,hc,.inl ⟨rfl,h⟩⟩
 ·rename_i t v hc;exact⟨_,hc,.inr ⟨t,v,rfl,h⟩⟩
 ·exact h.elim
theorem RN{K:FuncId->WP}{p:FuncId×WP}:∀{l:List FuncId},p∈Ala K l->p.2=K p.1
 | [],h=>by cases h
 | f::l,h=>by
  simp only[Ala] at h;cases h with
  | head=>rfl
  | tail _ h=>exact RN h
theorem Ak1{b o:Nat}{K:VW}{l:List FuncId}(h:ldV b o (K .nilFunc) (Ala (λf=>K (.func (.func f) #[] #[])) l) w):∃x,w.cell? ⟨b,o,none⟩=some x/\K x w:=by
 unfold ldV at h;split at h
 ·rename_i hc;exact⟨_,hc,h⟩
 ·rename_i f first cap hc
  obtain⟨rfl,rfl,p,hp,rfl,hK⟩:=h;rw[RN hp] at hK;exact⟨_,hc,hK⟩
 ·exact h.elim
theorem UP:∀(ks:List CK)(b o:Nat)(K:List Value->WP),lds ks b o K w->∃vs,vs.length=ks.length/\K vs w/\∀(j:Nat) v,vs[j]? = some v->w.cell? ⟨b,o+j,none⟩=some v
 | [],_,_,_,h=>⟨[],rfl,h,by simp⟩
 | k::ks,b,o,K,h=>by
  simp only[lds] at h;obtain⟨x,hx,h⟩:=Aa3 h;obtain⟨vs,hl,hK,hc⟩:=UP ks b (o+1) _ h;refine⟨_,by simp[hl],hK,λj v hj=>?_⟩;cases j with
  | zero=>simp at hj;subst hj;exact hx
  | succ j=>
   have:=hc j v (by simpa using hj)
   rwa [show o+1+j=o+(j+1) by omega] at this
theorem Es{t:TypeId}{b o:Nat}{v:Value}{d:TypeDesc}(hd:P.underlying t=some d)(ha:Lp P t=false)(hc:w.cell? ⟨b,o,none⟩=some v) :
  (loadVar t ⟨b,o,none⟩).run P w = .ok v w:=by
 simp[loadVar,Ij hd,ha,hc]
theorem NX{t:TypeId}{b o:Nat}{vs:List Value}{d:TypeDesc}(hd:P.underlying t=some d)(hi:(P.info? t).isSome=true)(ha:Lp P t=true)(hl:FE P t=vs.length)
  (hc:∀(j:Nat) v,vs[j]? = some v->w.cell? ⟨b,o+j,none⟩=some v) :
  (loadVar t ⟨b,o,none⟩).run P w = .ok (.agg vs.toArray) w:=by
 have h1:=run_loadCells_list (P:=P) w ⟨b,o,none⟩ vs (λj v hj=>by rw[Addr.add_lit];exact hc j v hj);simp only[loadVar,Sem.run_bind,Ij hd,ha,Result.andThen_ok,if_true,Dh hi,hl,h1,Sem.run_pure]
theorem NW{t:TypeId}{x:Value}{K:VW}(h:Ail P t x K w):∃v,CV x=false/\K v w/\(Instr.loadAt t x).run P w = .ok v w:=by
 unfold Ail at h;cases x <;> try exact h.elim
 rename_i p;rcases p with _|⟨b,o,_|_⟩ <;> try exact h.elim
 cases hk:cks P 9 t with
 | none=>simp only[hk] at h;exact h.elim
 | some ks=>
 simp only[hk] at h;cases hc:((P.underlying t).isSome && (P.info? t).isSome && Nat.beq (FE P t) ks.length) with
 | false=>rw[hc] at h;exact h.elim
 | true=>
  rw[hc] at h;simp only[Bool.and_eq_true] at hc;obtain⟨⟨hd,hi⟩,hl⟩:=hc;obtain⟨d,hd⟩:=Option.isSome_iff_exists.1 hd;have hl':FE P t=ks.length:=Nat.eq_of_beq_eq_true hl;simp only[cond_true] at h;cases ha:Lp P t with
  | true=>
   simp only[ha] at h;obtain⟨vs,hvl,hK,hcs⟩:=UP _ _ _ _ h;exact⟨_,rfl,hK,by
    simp only[Instr.loadAt,Instr.sureAddr,Sem.run_bind,Sem.run_pure,Result.andThen_ok];exact NX hd hi ha (by rw[hl',hvl]) hcs⟩
  | false=>
   simp only[ha] at h;rcases ks with _|⟨k,_|_⟩ <;> try exact h.elim
   cases hif:Fs P t with
   | false=>
    simp only[hif] at h;cases hfu:HA P t with
    | false=>
     simp only[hfu] at h;obtain⟨x,hx,hK⟩:=Aa3 h;exact⟨_,rfl,hK,by
      simp only[Instr.loadAt,Instr.sureAddr,Sem.run_bind,Sem.run_pure,Result.andThen_ok];exact Es hd ha hx⟩
    | true=>
     simp only[hfu] at h;obtain⟨x,hx,hK⟩:=Ak1 h;exact⟨_,rfl,hK,by
      simp only[Instr.loadAt,Instr.sureAddr,Sem.run_bind,Sem.run_pure,Result.andThen_ok];exact Es hd ha hx⟩
   | true=>
    simp only[hif] at h;obtain⟨x,hx,hK⟩:=Ak0 h;refine⟨_,rfl,?_,by
     simp only[Instr.loadAt,Instr.sureAddr,Sem.run_bind,Sem.run_pure,Result.andThen_ok];exact Es hd ha hx⟩
    rcases hK with⟨rfl,hK⟩|⟨t',v',rfl,hK⟩ <;> exact hK
theorem A2p{v:Value}{l:List Value}(h:SW (v::l)=true):v.oneCell'=true/\SW l=true:=by
 cases v <;> simp_all [SW,Value.oneCell']
theorem Ke:∀(vs:List Value)(b o:Nat)(K:WP)(w:World),sts vs b o K w->SW vs=true->∃w',K w'/\∀base i,base+i=o->(storeCells ⟨b,base,none⟩ vs i).run P w = .ok () w'
 | [],_,_,_,w,h,_=>⟨w,h,λ_ _ _=>by simp[storeCells]⟩
 | v::vs,b,o,K,w,h,hk=>by
  obtain⟨h1,h2⟩:=A2p hk;obtain⟨hc,hf,h⟩:=h;obtain⟨w',hK,hr⟩:=Ke vs b (o+1) K _ h h2;refine⟨w',hK,λbase i hb=>?_⟩;subst hb;have h3:=hr base (i+1) rfl;obtain⟨u,hu⟩:=Option.isSome_iff_exists.1 hc;simp only[storeCells,Sem.run_bind,Addr.add_lit,run_store P w _ v .plain h1,hu,hf,Bool.false_eq_true,if_false,Result.andThen_ok];exact h3
theorem Xv{t:TypeId}{x v:Value}{K:WP}(h:Agf P t x v K w):CV x=false/\CV v=false/\∃w',K w'/\(Instr.storeAt t x v).run P w = .ok () w':=by
 unfold Agf at h;cases x <;> try exact h.elim
 rename_i p;rcases p with _|⟨b,o,_|_⟩ <;> try exact h.elim
 cases hc:((P.info? t).isSome && Nat.beq (FE P t) (DL v).length && SW (DL v) && !(DL v).any CV) with
 | false=>rw[hc] at h;exact h.elim
 | true=>
  rw[hc] at h;simp only[Bool.and_eq_true,Bool.not_eq_eq_eq_not,Bool.not_true] at hc;obtain⟨⟨⟨hi,hl⟩,hk⟩,hu⟩:=hc;have hl':FE P t=(DL v).length:=Nat.eq_of_beq_eq_true hl;obtain⟨w',hK,hr⟩:=Ke (P:=P) _ _ _ _ _ h hk;refine⟨rfl,?_,w',hK,?_⟩
  ·cases v <;> simp_all [CV,DL]
  ·have h1:=hr o 0 rfl;simp only[Instr.storeAt,Instr.sureAddr,Sem.run_bind,Sem.run_pure,Result.andThen_ok,storeVar,Dh hi,hl',GD,List.size_toArray,ne_eq,not_true_eq_false,if_false,h1,Sem.run_ite]
theorem Md(e:TypeId)(cells:List Value)(w:World):(newRow e cells.toArray).run P w = .ok ⟨w.heap.size,0,none⟩ (w.alloc (.cells cells.toArray e)):=by
 simp only[newRow,Sem.run_bind,run_newObj,Result.andThen_ok,Sem.run_pure,World.alloc]
theorem Fb(z:List Value):∀n,(DE z n).length=n*z.length
 | 0=>by simp[DE]
 | n+1=>by simp[DE,Fb z n,Nat.succ_mul,Nat.add_comm]
theorem Acf(z:List Value)(hz:0<z.length):∀(n i:Nat),i<n*z.length->(DE z n)[i]? = some (z[i % z.length]!)
 | 0,i,h=>by simp at h
 | n+1,i,h=>by
  simp only[DE]
  by_cases hi:i<z.length
  ·rw[List.getElem?_append_left hi,Nat.mod_eq_of_lt hi];simp[hi]
  ·have h1:z.length<=i:=by omega
   rw[List.getElem?_append_right h1,Acf z hz n _ (by rw[Nat.succ_mul] at h;omega)];rw[Nat.mod_eq_sub_mod h1]
theorem My(z:List Value)(n:Nat):(Array.range (n*z.length)).map (λi=>z.toArray[i % z.toArray.size]!)=(DE z n).toArray:=by
 rw[<- Array.toList_inj];apply List.ext_getElem?;intro i;rw[Array.toList_map,List.getElem?_map,Array.toList_range];show _=(DE z n)[i]?
 by_cases hi:i<n*z.length
 ·have hz:0<z.length:=by
   rcases Nat.eq_zero_or_pos z.length with h|h
   ·rw[h] at hi;simp at hi
   ·exact h
  rw[Acf z hz n i hi];simp[hi]
 ·have h1:(DE z n)[i]? = none:=by rw[List.getElem?_eq_none];rw[Fb];omega
  rw[h1];simp;omega
theorem Mx{t:TypeId}{z:List Value}(h:GV P t=some z):∃i v,P.info? t=some i/\i.zero=some v/\v.cells=z.toArray:=by
 unfold GV at h;split at h
 case h_2=>cases h
 rename_i i hi;split at h
 case h_2=>cases h
 rename_i v hv;exact⟨i,v,hi,hv,by rw[GD,Option.some.inj h]⟩
theorem Lq{t:TypeId}{n:Nat}{parts:List (Nat×Value)}{K:VW}(h:Jg P t n parts K w) :
  (∀p∈parts,CV p.2=false)/\∃v w',K v w'/\(Instr.buildSlice t n parts.toArray).run P w = .ok v w':=by
 unfold Jg at h;cases ht:P.underlying t with
 | none=>simp only[ht] at h;exact h.elim
 | some d=>
 simp only[ht] at h;cases d <;> try exact h.elim
 rename_i e;simp only at h;cases hz:GV P e with
 | none=>simp only[hz] at h;exact h.elim
 | some z=>
 simp only[hz] at h;cases hc:((P.info? e).isSome && Nat.beq z.length (FE P e) && Nat.ble (n*FE P e) 65536) with
 | false=>rw[hc] at h;exact h.elim
 | true=>
  rw[hc] at h;simp only[Bool.and_eq_true] at hc;obtain⟨⟨hi,hl⟩,hb⟩:=hc;have hl':z.length=FE P e:=Nat.eq_of_beq_eq_true hl;have hb':n*FE P e<=65536:=Nat.le_of_ble_eq_true hb;simp only[cond_true] at h;cases hf:NP (λi=>some (i*FE P e,FE P e)) (DE z n) parts with
  | none=>simp only[hf] at h;exact h.elim
  | some cs=>
  simp only[hf] at h;obtain⟨hf1,hf2⟩:=Hk _ _ _ hf;refine⟨hf2,_,_,h,?_⟩;obtain⟨v,hv,hvc⟩:=H7 hz;have h2:¬n*FE P e>2 ^ 24:=by omega
  have h3:=My z n;rw[hl'] at h3
  by_cases h0:n*FE P e=0
  ·have h4:(DE z n)=[]:=by
    have:=Fb z n;rw[hl',h0] at this;exact List.length_eq_zero_iff.1 this
   rw[h4] at hf1;have h5:¬(0:Nat)>2 ^ 24:=by decide
   simp only[Instr.buildSlice,Sem.run_bind,run_underlying ht,Result.andThen_ok,Dh hi,h0,if_true,h5,if_false,Sem.run_pure,Array.range_zero',List.map_toArray,List.map_nil,hf1,Md]
  ·simp only[Instr.buildSlice,Sem.run_bind,run_underlying ht,Result.andThen_ok,Dh hi,h2,if_false,h0,hv,Sem.run_pure,hvc,h3,hf1,Md,Sem.run_ite]
theorem MK{t:TypeId}{l c:Value}{K:VW}(h:KL P t l c K w):CV l=false/\CV c=false/\∃v w',K v w'/\(Instr.makeSlice t l c).run P w = .ok v w':=by
 unfold KL at h;cases ht:P.underlying t with
 | none=>simp only[ht] at h;exact h.elim
 | some d=>
 simp only[ht] at h;cases d <;> try exact h.elim
 rename_i e;simp only at h;cases hz:GV P e with
 | none=>simp only[hz] at h;exact h.elim
 | some z=>
 simp only[hz] at h;cases l <;> try exact h.elim
 rename_i kl l;cases c <;> try exact h.elim
 rename_i kc c;cases hc:((P.info? e).isSome && Nat.beq z.length (FE P e)) with
 | false=>rw[hc] at h;exact h.elim
 | true=>
  rw[hc] at h;simp only[Bool.and_eq_true] at hc;obtain⟨hi,hl⟩:=hc;have hl':z.length=FE P e:=Nat.eq_of_beq_eq_true hl;obtain⟨⟨h0,h1,h2,h3⟩,h4⟩:=h;obtain⟨i,v,hi',hv,hvc⟩:=Mx hz;refine⟨rfl,rfl,_,_,h4,?_⟩;have hby:byT P e=i.bytes:=by simp[byT,hi']
  have hsz:FE P e=i.size:=by simp[FE,hi']
  rw[hby] at h3;rw[run_make w t e i v ht hi' hv kl kc l c h0 h1 h3 (by omega)];have h5:=My z c.toNat;simp only[madeCells,hvc];rw[<- hsz,<- hl',h5]
end
end Go.Hb
namespace Go.Hb
section
variable{P:Program}{ρ:FA}{a:Act}{w:World}
theorem Sd:∀(n o:Nat)(w:World)(b:Nat)(vs:List Value),rdL w b o n=some vs->vs.length=n/\∀(j:Nat) v,vs[j]? = some v->w.cell? ⟨b,o+j,none⟩=some v
 | 0,o,w,b,vs,h=>by simp[rdL] at h;subst h;simp
 | n+1,o,w,b,vs,h=>by
  simp only[rdL] at h;split at h
  case h_2=>cases h
  rename_i v hv;split at h
  case h_2=>cases h
  rename_i l hl;cases h;obtain⟨h1,h2⟩:=Sd n (o+1) w b l hl;refine⟨by simp[h1],λj u hj=>?_⟩;cases j with
  | zero=>simp at hj;subst hj;exact hv
  | succ j=>
   have:=h2 j u (by simpa using hj)
   rwa [show o+1+j=o+(j+1) by omega] at this
theorem Ais{b:OA}{n size c m:Nat}{vs:List Value}(h:F9 w b (n*size)=some vs)(w':World)(hw:∀x,w'.cell? x=w.cell? x) :
  (Builtin.firstCells size n (.slice b m c)).run P w' = .ok vs.toArray w':=by
 rcases b with _|⟨b,o,_|_⟩
 ·simp only[F9,Option.some.injEq] at h;subst h;simp[Builtin.firstCells]
 ·obtain⟨h1,h2⟩:=Sd _ _ _ _ _ h;have:=run_loadCells_list (P:=P) w' ⟨b,o,none⟩ vs (λj v hj=>by rw[Addr.add_lit,hw];exact h2 j v hj)
  rw[h1] at this;simpa[Builtin.firstCells] using this
 ·cases h
def stS(b:OA)(off:Nat)(vs:List Value):Sem Unit:=match b with
 | some x=>storeCells (x.add off) vs
 | none=>pure ()
theorem Al7{b:OA}{off:Nat}{vs:List Value}{K:WP}(h:stA b off vs K w)(hk:SW vs=true) :
  ∃w',K w'/\(stS b off vs).run P w = .ok () w':=by
 rcases b with _|⟨b,o,_|_⟩
 ·cases vs with
  | nil=>exact⟨w,h,rfl⟩
  | cons v vs=>exact h.elim
 ·obtain⟨w',hK,hr⟩:=Ke (P:=P) _ _ _ _ _ h hk;refine⟨w',hK,?_⟩;have:=hr (o+off) 0 rfl;simpa[stS,Addr.add_lit] using this
 ·exact h.elim
theorem Kn{t t2 e ty:TypeId}{i:TypeInfo}{zv:Value}{z:List Value}{s:Sl}{x:Value}{n:Nat}{new:World->Option (List Value)}{K:Sl->WP}
  (ht:P.underlying t=some (.slice e)) (hi:P.info? e=some i) (hz:i.zero=some zv) (hzc:zv.cells=z.toArray) (_hl:z.length=i.size)
  (hb0:i.bytes≠0) (ht2:(∃e2,P.underlying t2=some (.slice e2))\/P.underlying t2=some .string)
  (hx:∀w,(Builtin.lenOf x).run P w = .ok n w) (hn:∀w vs,new w=some vs->∀w',(∀y,w'.cell? y=w.cell? y)->(Builtin.firstCells i.size n x).run P w' = .ok vs.toArray w')
  (h:AU e i.size i.bytes z s n new K w) :
  ∃r w',K r w'/\(Builtin.append_ #[t,t2] ty #[.slice s.a s.n s.c,x]).run P w = .ok (.slice r.a r.n r.c) w':=by
 obtain⟨sa,sn,sc⟩:=s;obtain⟨vs,hvs,hok,h⟩:=h;dsimp only at h ⊢;have hnew:=hn w vs hvs
 by_cases hle:sn+n<=sc
 ·rw[if_pos hle] at h;obtain⟨w',hK,hr⟩:=Al7 (P:=P) h hok;refine⟨_,w',hK,?_⟩;have h2:(Builtin.firstCells i.size n x).run P w = .ok vs.toArray w:=hnew w (λ_=>rfl);cases sa with
  | none=>
   have hr':w=w':=by simpa[stS] using hr
   subst hr';rcases ht2 with⟨e2,hd⟩|hd <;> simp[Builtin.append_,run_underlying ht,run_underlying hd,sizeOf,typeInfo,hi,hx,hle,h2]
  | some y=>
   simp only[stS] at hr;rcases ht2 with⟨e2,hd⟩|hd <;> simp[Builtin.append_,run_underlying ht,run_underlying hd,sizeOf,typeInfo,hi,hx,hle,h2,hr]
 ·rw[if_neg hle] at h;obtain⟨hcap,old,hold,h⟩:=h;have hq:(Question.appendCap (sn+n) sc e).forced=false:=rfl;obtain⟨N,hN⟩:∃N,N=(Question.appendCap (sn+n) sc e).cut (w.tape w.drawn (.appendCap (sn+n) sc e)):=⟨_,rfl⟩;have hNle:sn+n<=N:=by rw[hN];exact Nat.le_add_right _ _
  have h1:(Builtin.firstCells i.size sn (.slice sa sn sc)).run P w.drew = .ok old.toArray w.drew:=Ais hold _ (λ_=>rfl);have h2:(Builtin.firstCells i.size n x).run P w.drew = .ok vs.toArray w.drew:=hnew _ (λ_=>rfl);have h3:Builtin.zeroCells zv.cells (N-(sn+n))=(DE z (N-(sn+n))).toArray:=by
   rw[<- My,hzc];rfl
  have hzv:∀w,(zeroValue e).run P w = .ok zv w:=λw=>by simp[zeroValue,typeInfo,hi,hz]
  refine⟨_,_,h N hNle,?_⟩;have hcap':¬Builtin.nextslicecap (sn+n) sc*i.bytes>281474976710656:=by omega
  rcases ht2 with⟨e2,hd⟩|hd
  all_goals
   simp[Builtin.append_,run_underlying ht,run_underlying hd,sizeOf,typeInfo,hi,hx,hle,hb0,hcap',-run_choose];rw[hq,<- hN];simp only[Bool.false_eq_true,if_false,h1,Result.andThen_ok,h2,hzv,h3,newRow,Sem.run_bind,run_newObj,Sem.run_pure,List.append_toArray,World.alloc];rfl
theorem Afh{t:TypeId}(h:Jv P t=true):∃e,P.underlying t=some (.slice e):=by
 unfold Jv at h;split at h
 ·rename_i e he;exact⟨e,he⟩
 ·cases h
theorem Ry{t:TypeId}(h:DN P t=true):P.underlying t=some .string:=by
 unfold DN at h;split at h
 ·rename_i he;exact he
 ·cases h
theorem XH(b:BA)(size:Nat)(w:World):(Builtin.firstCells size b.size (.string b)).run P w = .ok (Ir b).toArray w:=by
 have h1:b.extract 0 b.size=b:=by simp
 simp only[Builtin.firstCells,h1,Sem.run_pure];congr 1;rw[<- Array.toList_inj];simp[Ir]
theorem SM{t t2 ty:TypeId}{s x:Value}{K:VW}(h:V5 P t t2 s x K w) :
  CV s=false/\CV x=false/\∃r w',K r w'/\(Builtin.append_ #[t,t2] ty #[s,x]).run P w = .ok r w':=by
 unfold V5 at h;cases ht:P.underlying t with
 | none=>simp only[ht] at h;exact h.elim
 | some d=>
 simp only[ht] at h;cases d <;> try exact h.elim
 rename_i e;simp only at h;cases hz:GV P e with
 | none=>simp only[hz] at h;exact h.elim
 | some z=>
 simp only[hz] at h;cases s <;> try exact h.elim
 rename_i sa sn sc;simp only at h;cases hc:((P.info? e).isSome && Nat.beq z.length (FE P e) && !Nat.beq (byT P e) 0) with
 | false=>rw[hc] at h;exact h.elim
 | true=>
  rw[hc] at h;simp only[Bool.and_eq_true,Bool.not_eq_eq_eq_not,Bool.not_true] at hc;obtain⟨⟨hi,hl⟩,hb⟩:=hc;have hl':z.length=FE P e:=Nat.eq_of_beq_eq_true hl;have hb':byT P e≠0:=λh0=>by rw[h0] at hb;cases hb
  obtain⟨i,v,hi',hv,hvc⟩:=Mx hz;have hby:byT P e=i.bytes:=by simp[byT,hi']
  have hsz:FE P e=i.size:=by simp[FE,hi']
  rw[hsz] at hl';rw[hby] at hb';simp only[cond_true] at h;cases x <;> try exact h.elim
  case string b=>
   cases hs2:DN P t2 with
   | false=>simp only[hs2] at h;exact h.elim
   | true=>
    simp only[hs2,hsz,hby,cond_true] at h;obtain⟨r,w',hK,hr⟩:=Kn (ty:=ty) (x:=.string b) (n:=b.size) (new:=λ_=>some (Ir b)) ht hi' hv hvc hl' hb' (.inr (Ry hs2)) (λw=>by simp[Builtin.lenOf])
     (λw vs hvs w' _=>by cases hvs;exact XH b _ w') h
    exact⟨rfl,rfl,_,_,hK,hr⟩
  case slice a' n' c'=>
   cases hs2:Jv P t2 with
   | false=>simp only[hs2] at h;exact h.elim
   | true=>
    simp only[hs2,hsz,hby,cond_true] at h;obtain⟨r,w',hK,hr⟩:=Kn (ty:=ty) (x:=.slice a' n' c') (n:=n') (new:=λw=>F9 w a' (n'*i.size)) ht hi' hv hvc hl' hb' (.inl (Afh hs2)) (λw=>by simp[Builtin.lenOf])
     (λw vs hvs w' hw=>Ais hvs w' hw) h
    exact⟨rfl,rfl,_,_,hK,hr⟩
theorem Alj(l:List UInt8):∀(acc:BA),(l.foldl ByteArray.push acc).data.toList=acc.data.toList++l:=by
 induction l with
 | nil=>intro acc;simp
 | cons b l ih=>intro acc;rw[List.foldl_cons,ih];simp[ByteArray.push]
theorem Aje(s:BA):s.data.toList.foldl ByteArray.push ByteArray.empty=s:=by
 have h:=Alj s.data.toList ByteArray.empty;apply ByteArray.ext;rw[<- Array.toList_inj,h];have:ByteArray.empty.data.toList=[]:=rfl;rw[this,List.nil_append]
theorem Avp{b:OA}{n c:Nat}{s:BA}(h:F9 w b n=some (Ir s)):(Conv.bytesToString (.slice b n c)).run P w = .ok (.string s) w:=by
 rcases b with _|⟨b,o,_|_⟩
 ·simp only[F9,Option.some.injEq,Ir] at h;have h2:s.data.toList=[]:=by
   cases hd:s.data.toList with
   | nil=>rfl
   | cons x l=>rw[hd] at h;cases h
  have:s=ByteArray.empty:=by
   apply ByteArray.ext;rw[<- Array.toList_inj,h2];rfl
  subst this;simp[Conv.bytesToString]
 ·obtain⟨h1,h2⟩:=Sd _ _ _ _ _ h;have h3:=run_loadCells_list (P:=P) w ⟨b,o,none⟩ (Ir s) (λj v hj=>by rw[Addr.add_lit];exact h2 j v hj)
  rw[h1] at h3;simp only[Conv.bytesToString,Sem.run_bind,h3,Result.andThen_ok,List.forIn_toArray,Ir,List.forIn_map];have key:∀(l:List UInt8)(acc:BA),(Sem.run P (forIn l acc λ(a:UInt8)(y:BA)=>(pure (ForInStep.yield (y.push (UInt8.ofNat ((a.toNat:Int)).toNat))):Sem (ForInStep BA))) w) = .ok (l.foldl ByteArray.push acc) w:=by
   intro l
   induction l with
   | nil=>intro acc;simp
   | cons b l ih=>
    intro acc;have hb:UInt8.ofNat ((b.toNat:Int)).toNat=b:=by simp
    rw[List.forIn_cons,List.foldl_cons];simp only[Sem.run_bind,Sem.run_pure,Result.andThen_ok,hb];exact ih _
  rw[key,Aje];rfl
 ·cases h
theorem V8{s d:TypeId}{x:Value}{K:VW}(h:Ac1 P s d x K w):CV x=false/\∃v,K v w/\(convert s d x).run P w = .ok v w:=by
 unfold Ac1 at h;cases x <;> try exact h.elim
 rename_i a n c;simp only at h;cases hs:P.underlying s with
 | none=>simp only[hs] at h;exact h.elim
 | some sd=>
 simp only[hs] at h;cases sd <;> try exact h.elim
 rename_i e;simp only at h;cases he:P.underlying e with
 | none=>simp only[he] at h;exact h.elim
 | some ed=>
 simp only[he] at h;cases ed <;> try exact h.elim
 rename_i k;simp only at h;cases hc:(kEq k .u8 && DN P d) with
 | false=>rw[hc] at h;exact h.elim
 | true=>
  rw[hc] at h;simp only[Bool.and_eq_true] at hc;obtain⟨hk,hd⟩:=hc;have hk':k = .u8:=by cases k <;> first|rfl|cases hk
  subst hk';obtain⟨r,hr,hK⟩:=h;refine⟨rfl,_,hK,?_⟩;simp only[convert,Sem.run_bind,run_underlying hs,run_underlying (Ry hd),run_underlying he,Result.andThen_ok];exact Avp hr
theorem Ac4(hs:JF ρ a):∀(l:List Operand),(evL ρ l).any CV=false->l.map a.eval=evL ρ l
 | [],_=>rfl
 | x::l,h=>by
  simp only[evL,List.any_cons,Bool.or_eq_false_iff] at h;simp only[List.map_cons,evL];rw[Ac4 hs l h.2,Cl hs rfl h.1]
theorem XV:∀(ks:List CK)(F:List Value->Prop),exV ks F->∃vs,F vs
 | [],F,h=>⟨_,h⟩
 | k::ks,F,h=>by
  obtain⟨x,h⟩:=h;obtain⟨vs,h⟩:=XV ks _ h;exact⟨_,h⟩
theorem XU{t:TypeId}{F:Value->Prop}(h:exT P t F):∃v,F v:=by
 unfold exT at h;split at h
 case h_2=>exact h.elim
 split at h
 ·obtain⟨vs,h⟩:=XV _ _ h;exact⟨_,h⟩
 ·split at h
  case h_2=>exact h.elim
  split at h
  ·rcases h with h|⟨t,v,h⟩
   ·exact⟨_,h⟩
   ·exact⟨_,h⟩
  ·obtain⟨x,h⟩:=h;exact⟨_,h⟩
theorem Tj:∀(ts:List TypeId)(F:List Value->Prop),A43 P ts F->∃vs,F vs
 | [],F,h=>⟨_,h⟩
 | t::ts,F,h=>by
  obtain⟨v,h⟩:=XU h;obtain⟨vs,h⟩:=Tj ts _ h;exact⟨_,h⟩
theorem Vm{ts:List TypeId}{F:Value->Prop}(h:A2z P ts F):∃v,F v:=by
 unfold A2z at h;split at h
 ·exact⟨_,h⟩
 ·exact XU h
 ·obtain⟨vs,h⟩:=Tj _ _ h;exact⟨_,h⟩
theorem XJ{f:Value}{args:List Value}{K:VW}(h:Amy P f args K w):CV f=false/\args.any CV=false /\
  ∃g gargs,(do let d <- Deferred.ofValue f args.toArray;invoke d.target d.args:Sem Next).run P w = .ok (.enter g gargs) w/\Calls P g gargs w λe w'=>∃v,e = .returned v/\K v w':=by
 unfold Amy at h;cases f <;> try exact h.elim
 rename_i fn first cap
 cases fn <;> try exact h.elim
 rename_i f;simp only at h;cases hf:P.funcs[f]? with
 | none=>simp only[hf] at h;exact h.elim
 | some fn=>
 simp only[hf] at h;cases hc:(fn.body.isSome && MN fn.name && !args.any CV) with
 | false=>rw[hc] at h;exact h.elim
 | true=>
  rw[hc] at h;simp only[Bool.and_eq_true,Bool.not_eq_eq_eq_not,Bool.not_true,MN] at hc;obtain⟨⟨hb,hn⟩,hu⟩:=hc;refine⟨rfl,hu,f,first++args.toArray++cap,?_,?_⟩
  ·have hb':fn.body.isNone=false:=by cases h0:fn.body <;> simp_all
   simp only[Deferred.ofValue,Sem.run_bind,Sem.run_pure,Result.andThen_ok,invoke,callFunc,run_program,hf,hn,hb',Bool.false_eq_true,if_false]
  ·have he:(first.toList++args++cap.toList).toArray=first++args.toArray++cap:=by
    rw[<- Array.toList_inj];simp
   have h':Calls P f (first.toList++args++cap.toList).toArray w _:=h;rw[he] at h';exact h'.mono λe w' hr=>Vm hr
theorem Afg{ty:TypeId}{x:Value}{name:String}{args:List Value}{K:VW}(h:A63 P ty x name args K w):CV x=false/\args.any CV=false /\
  ∃g gargs,(callMethod x name args.toArray:Sem Next).run P w = .ok (.enter g gargs) w/\Calls P g gargs w λe w'=>∃v,e = .returned v/\K v w':=by
 unfold A63 at h;cases x <;> try exact h.elim
 rename_i t v;simp only at h;cases hu:args.any CV with
 | true=>rw[hu] at h;exact h.elim
 | false=>
  rw[hu] at h;obtain⟨f,rc,fn,hm,hf,hb,hn,hC⟩:=h;refine⟨rfl,rfl,f,#[rc]++args.toArray,?_,?_⟩
  ·have hb':fn.body.isNone=false:=by cases h0:fn.body <;> simp_all
   simp only[MN,Bool.not_eq_eq_eq_not,Bool.not_true] at hn;simp only[callMethod,Sem.run_bind,run_program,Result.andThen_ok,hm,callFunc,hf,hn,hb',Bool.false_eq_true,if_false,Sem.run_pure]
  ·have h':Calls P f (rc::args).toArray w _:=hC;have he:(rc::args).toArray=#[rc]++args.toArray:=by rw[<- Array.toList_inj];simp
   rw[he] at h';exact h'.mono λe w' hr=>Vm hr
theorem Ac0{t ty:TypeId}{x:Value}{K:WP}(h:A4v P t x K w):CV x=false/\∃w',K w'/\(Builtin.clear_ #[t] ty #[x]).run P w = .ok (.tuple #[]) w':=by
 unfold A4v at h;cases x <;> try exact h.elim
 rename_i b n c;simp only at h;cases hu:P.underlying t with
 | none=>simp only[hu] at h;exact h.elim
 | some td=>
 simp only[hu] at h;cases td <;> try exact h.elim
 rename_i e;simp only at h;cases hz:GV P e with
 | none=>simp only[hz] at h;exact h.elim
 | some z=>
 simp only[hz] at h;unfold Avs at h;cases hk:SW (DE z n) with
 | false=>rw[hk] at h;exact h.elim
 | true=>
 rw[hk] at h;obtain⟨v,hv,hvc⟩:=H7 hz;refine⟨rfl,?_⟩;cases b with
 | none=>
  cases hzr:DE z n with
  | cons _ _=>simp only[cond_true,stA,hzr] at h;exact h.elim
  | nil=>
   simp only[cond_true,stA,hzr] at h;refine⟨w,h,?_⟩;simp[Builtin.clear_,run_underlying hu]
 | some ad=>
  obtain⟨bl,o,sp⟩:=ad;cases sp with
  | some _=>exact h.elim
  | none=>
   simp only[cond_true,stA] at h;obtain⟨w',hK,hst⟩:=Ke _ _ _ _ _ h hk;refine⟨w',hK,?_⟩;cases n with
   | zero=>
    have hs:=hst o 0 (by omega);simp only[DE,storeCells,Sem.run_pure,Result.ok.injEq,true_and] at hs;subst hs;simp[Builtin.clear_,run_underlying hu]
   | succ n=>
    have hs:=hst o 0 (by omega);have hzc:(Builtin.zeroCells v.cells (n+1)).toList=DE z (n+1):=by
     unfold Builtin.zeroCells;rw[hvc];show(Array.map (λi=>z.toArray[i % z.toArray.size]!) (Array.range ((n+1)*z.length))).toList=_;rw[My]
    simp[Builtin.clear_,run_underlying hu,hv,hzc];rw[hs];rfl
theorem KX{s:Sem Value}{r:Value}{w w':World}(h:s.run P w = .ok r w'):((do pure (Next.value (<- s)):Sem Next)).run P w = .ok (.value r) w':=by
 simp[h]
theorem Afw{t:TypeId}{m k:Value}{K:VW}(h:Atv P t m k K w):∃c:CK,CV m=false/\CV k=false/\∃x:c.ty,(Instr.lookup t m k false).run P w = .ok (c.val x) w/\K (c.val x) w:=by
 unfold Atv at h;cases hu:P.underlying t with
 | none=>simp only[hu] at h;exact h.elim
 | some td=>
 simp only[hu] at h;cases td <;> try exact h.elim
 rename_i kt e;simp only at h;cases hc:cks P 9 e with
 | none=>simp only[hc] at h;exact h.elim
 | some l=>
 simp only[hc] at h
 match l,h with
 | [],h=>exact h.elim
 | _::_::_,h=>exact h.elim
 | [c],h=>
  simp only at h;cases hb:(Lp P e || CV m || CV k) with
  | true=>rw[hb] at h;exact h.elim
  | false=>
   rw[hb] at h;simp only[Bool.or_eq_false_iff] at hb;obtain⟨x,hr,hK⟩:=h;exact⟨c,hb.1.2,hb.2,x,hr,hK⟩
theorem Vb{o:Oper}{K:VW}(h:opI P ρ o.type o.op K w)(hs:JF ρ a){next:Act->World->Prop}{Q:Exit->Act->World->Prop}
  (hn:∀v v' w',Le v v'->K v w'->next (a.put o.dst v') w'):o.wp P a w next Q:=by
 unfold opI at h;cases hp:Vg P ρ o.op with
 | some F=>
  simp only[hp] at h;obtain⟨v,v',hle,hK,hg⟩:=Od hp h hs;unfold Oper.wp;rw[hg w];exact hn _ _ _ hle hK
 | none=>
 simp only[hp] at h;obtain⟨dst,op,ty,pos,after,guard⟩:=o;have fin:∀{v w'},K v w'->(execOp a.eval ⟨dst,op,ty,pos,after,guard⟩).run P w = .ok (.value v) w'->Oper.wp P ⟨dst,op,ty,pos,after,guard⟩ a w next Q:=by
  intro v w' hK hr;unfold Oper.wp;rw[hr];exact hn _ _ _ (Le.refl _) hK
 cases op <;> try exact h.elim
 case alloc t=>
  simp only[Amr] at h;cases hz:GV P t with
  | none=>simp only[hz] at h;exact h.elim
  | some z=>
   simp only[hz] at h;obtain⟨v,hv,hvc⟩:=H7 hz;exact fin h (by simp only[execOp,Instr.alloc,Sem.run_bind,hv,Result.andThen_ok,newVar,hvc,Md,Sem.run_pure])
 case box t x=>
  simp only[A8v] at h;cases hu:CV (ev ρ x) with
  | true=>rw[hu] at h;exact h.elim
  | false=>
   rw[hu] at h;exact fin h (by simp only[execOp,Cl hs rfl hu,Instr.box,Sem.run_bind,newVar,GD,Md,Result.andThen_ok,Sem.run_pure])
 case buildSlice t n ps=>
  obtain⟨hu,v,w',hK,hr⟩:=Lq h;have he:(ps.map λ(x:Nat×Operand)=>(x.1,a.eval x.2))=(He ρ ps.toList).toArray:=by
   rw[<- K5 hs _ hu,<- Array.toList_inj];simp
  rw[<- he] at hr;exact fin hK (KX hr)
 case load t x=>
  obtain⟨v,hu,hK,hr⟩:=NW h;exact fin hK (by simp only[execOp,Cl hs rfl hu];exact KX hr)
 case store t x v=>
  obtain⟨hu,hv,w',hK,hr⟩:=Xv h;unfold Oper.wp;have:(execOp a.eval ⟨dst,.store t x v,ty,pos,after,guard⟩).run P w = .ok .skip w':=by
   simp only[execOp,Cl hs rfl hu,Cl hs rfl hv,Sem.run_bind,hr,Result.andThen_ok,Sem.run_pure]
  rw[this];exact hn _ _ _ (Le.refl _) hK
 case makeSlice t l c=>
  obtain⟨hu,hv,v,w',hK,hr⟩:=MK h;exact fin hK (by simp only[execOp,Cl hs rfl hu,Cl hs rfl hv];exact KX hr)
 case makeMap t r=>
  cases r with
  | some _=>exact h.elim
  | none=>exact fin h (by simp only[execOp,Instr.makeMap,Option.map_none,Sem.run_bind,run_newObj,Result.andThen_ok,Sem.run_pure,World.alloc])
 case mapUpdate t m k x=>
  simp only at h;cases hu:(CV (ev ρ m) || CV (ev ρ k) || CV (ev ρ x)) with
  | true=>rw[hu] at h;exact h.elim
  | false=>
   rw[hu] at h;simp only[Bool.or_eq_false_iff] at hu;obtain⟨w',hr,hK⟩:=h;unfold Oper.wp;have:(execOp a.eval ⟨dst,.mapUpdate t m k x,ty,pos,after,guard⟩).run P w = .ok .skip w':=by
    simp only[execOp,Cl hs rfl hu.1.1,Cl hs rfl hu.1.2,Cl hs rfl hu.2,Sem.run_bind,hr,Result.andThen_ok,Sem.run_pure]
   rw[this];exact hn _ _ _ (Le.refl _) hK
 case lookup t m k c=>
  cases c with
  | true=>exact h.elim
  | false=>
   obtain⟨c',hu1,hu2,x,hr,hK⟩:=Afw h;exact fin hK (by simp only[execOp,Cl hs rfl hu1,Cl hs rfl hu2];exact KX hr)
 case makeChan t n=>
  simp only at h;cases hu:CV (ev ρ n) with
  | true=>rw[hu] at h;exact h.elim
  | false=>
   rw[hu] at h;obtain⟨w',hr,hK⟩:=h;exact fin hK (by simp only[execOp,Cl hs rfl hu];exact KX hr)
 case convert s d x=>
  obtain⟨hu,v,hK,hr⟩:=V8 h;exact fin hK (by simp only[execOp,Cl hs rfl hu];exact KX hr)
 case call c=>
  obtain⟨callee,args,ats⟩:=c;cases callee <;> try exact h.elim
  case value f=>
   simp only at h;obtain⟨hu,hv,g,gargs,hr,hC⟩:=XJ h;unfold Oper.wp;have he:args.map a.eval=(evL ρ args.toList).toArray:=by
    rw[<- Ac4 hs _ hv,<- Array.toList_inj];simp
   have:(execOp a.eval ⟨dst,.call ⟨.value f,args,ats⟩,ty,pos,after,guard⟩).run P w = .ok (.enter g gargs) w:=by
    simp only[execOp,resolve,he,Cl hs rfl hu];exact hr
   rw[this,Oper.upon_enter];refine hC.mono ?_;rintro e w' ⟨v,rfl,hK⟩;exact hn _ _ _ (Le.refl _) hK
  case invoke r name=>
   simp only at h;obtain⟨hu,hv,g,gargs,hr,hC⟩:=Afg h;unfold Oper.wp;have he:args.map a.eval=(evL ρ args.toList).toArray:=by
    rw[<- Ac4 hs _ hv,<- Array.toList_inj];simp
   have:(execOp a.eval ⟨dst,.call ⟨.invoke r name,args,ats⟩,ty,pos,after,guard⟩).run P w = .ok (.enter g gargs) w:=by
    simp only[execOp,resolve,he,Cl hs rfl hu,Sem.run_bind,Sem.run_pure,Result.andThen_ok,invoke];have h0:(#[ev ρ r]++(evL ρ args.toList).toArray)[0]? = some (ev ρ r):=by simp
    have h1:(#[ev ρ r]++(evL ρ args.toList).toArray).extract 1 (#[ev ρ r]++(evL ρ args.toList).toArray).size=(evL ρ args.toList).toArray:=by
     rw[<- Array.toList_inj];simp
    simp only[h0,h1];exact hr
   rw[this,Oper.upon_enter];refine hC.mono ?_;rintro e w' ⟨v,rfl,hK⟩;exact hn _ _ _ (Le.refl _) hK
  case builtin b=>
   cases b <;> try exact h.elim
   case clear=>
    simp only at h;cases hal:args.toList with
    | nil=>simp only[hal] at h;exact h.elim
    | cons x l1=>
    cases l1 with
    | cons _ _=>simp only[hal] at h;exact h.elim
    | nil=>
    cases htl:ats.toList with
    | nil=>simp only[hal,htl] at h;exact h.elim
    | cons t1 l1=>
    cases l1 with
    | cons _ _=>simp only[hal,htl] at h;exact h.elim
    | nil=>
    simp only[hal,htl] at h;obtain⟨hu,w',hK,hr⟩:=Ac0 (ty:=ty) h;have he:args.map a.eval=#[ev ρ x]:=by
     rw[<- Array.toList_inj];simp[hal,Cl hs rfl hu]
    have hat:ats=#[t1]:=by rw[<- Array.toList_inj];exact htl
    exact fin hK (by simp only[execOp,resolve,he,hat,Sem.run_bind,Sem.run_pure,Result.andThen_ok,invoke,builtin,hr])
   simp only at h;cases hal:args.toList with
   | nil=>simp only[hal] at h;exact h.elim
   | cons s l1=>
   cases l1 with
   | nil=>simp only[hal] at h;exact h.elim
   | cons x l2=>
   cases l2 with
   | cons _ _=>simp only[hal] at h;exact h.elim
   | nil=>
   cases htl:ats.toList with
   | nil=>simp only[hal,htl] at h;exact h.elim
   | cons t1 l1=>
   cases l1 with
   | nil=>simp only[hal,htl] at h;exact h.elim
   | cons t2 l2=>
   cases l2 with
   | cons _ _=>simp only[hal,htl] at h;exact h.elim
   | nil=>
   simp only[hal,htl] at h;obtain⟨hu,hv,v,w',hK,hr⟩:=SM (ty:=ty) h;have he:args.map a.eval=#[ev ρ s,ev ρ x]:=by
    rw[<- Array.toList_inj];simp[hal,Cl hs rfl hu,Cl hs rfl hv]
   have hat:ats=#[t1,t2]:=by rw[<- Array.toList_inj];exact htl
   exact fin hK (by simp only[execOp,resolve,he,hat,Sem.run_bind,Sem.run_pure,Result.andThen_ok,invoke,builtin,hr])
end
end Go.Hb
namespace Go.Hb
section
variable{P:Program}{ρ:FA}{a:Act}{w:World}
theorem JF.know{ρ:FA}{a:Act}(h:JF ρ a){d:Nat}{v:Value}(hv:a.tmps.getD d undef=v):JF (pt ρ d v) a:=by
 refine⟨h.defers,by rw[UQ];exact h.size,λt=>?_⟩;rw[A37];split
 ·rename_i ht;rw[ht.1,hv];exact Le.refl _
 ·exact h.get t
theorem SE{all:List Oper}{j d:Nat}(hd:XP all j=some d)(hlt:d<a.tmps.size) :
  yielded all.toArray a.tmps j=match a.tmps.getD d undef with
   | .bool b=>some b
   | _=>none:=by
 unfold XP at hd;unfold yielded;simp only[List.getElem?_toArray];split at hd
 ·rename_i o ho;simp[ho,hd,hlt];cases a.tmps[d] <;> rfl
 ·cases hd
theorem A84{ρ:FA}{t:Nat}{v:Value}(h:gt ρ t=v)(hv:CV v=false):t<ρ.length:=by
 induction ρ generalizing t with
 | nil=>subst h;simp[gt,CV,unk] at hv
 | cons x ρ ih=>cases t with
  | zero=>simp
  | succ t=>have:=ih (t:=t) (by simpa[gt] using h);simp;omega
theorem I7{all:List Oper}{o:Oper}{yes no:EW}(h:Rq all ρ o yes no w)(hs:JF ρ a) :
  (Region.wanted o (yielded all.toArray a.tmps)=true/\∃ρ',JF ρ' a/\yes ρ' w)\/(Region.wanted o (yielded all.toArray a.tmps)=false/\∃ρ',JF ρ' a/\no ρ' w):=by
 unfold Rq at h;unfold Region.wanted;cases hg:o.guard with
 | none=>simp only[hg] at h;exact .inl ⟨rfl,ρ,hs,h⟩
 | some g=>
  obtain⟨j,want⟩:=g;simp only[hg] at h;cases hd:XP all j with
  | none=>
   simp only[hd] at h;refine .inr ⟨?_,ρ,hs,h⟩;have:yielded all.toArray a.tmps j=none:=by
    unfold XP at hd;unfold yielded;simp only[List.getElem?_toArray];split at hd
    ·rename_i o ho;simp[ho,hd]
    ·rename_i ho;simp[ho]
   simp[this]
  | some d=>
   simp only[hd] at h;have key:∀v,gt ρ d=v->CV v=false->a.tmps.getD d undef=v/\d<a.tmps.size:=by
    intro v hv hu;have:=(hs.get d).eq (by rw[hv];exact hu)
    exact⟨this.trans hv,Nat.lt_of_lt_of_le (A84 hv hu) hs.size⟩
   cases hv:gt ρ d with
   | complex k x y=>simp only[hv] at h;exact h.elim
   | bool b=>
    obtain⟨h1,h2⟩:=key _ hv rfl;simp only[SE hd h2,h1];simp only[hv] at h;cases b <;> cases want <;> simp only[Aj,cond_true,cond_false] at h
    ·exact .inl ⟨rfl,_,hs.know h1,h⟩
    ·exact .inr ⟨rfl,_,hs.know h1,h⟩
    ·exact .inr ⟨rfl,_,hs.know h1,h⟩
    ·exact .inl ⟨rfl,_,hs.know h1,h⟩
   | _=>
    obtain⟨h1,h2⟩:=key _ hv rfl;simp only[SE hd h2,h1];simp only[hv] at h;exact .inr ⟨rfl,_,hs,h⟩
theorem KQ{all:List Oper}{Q:Exit->Act->World->Prop}{K:EW}(hn:∀ρ a w,K ρ w->JF ρ a->Q .normal a w) :
  ∀(l:List Oper)(ρ:FA)(a:Act)(w:World),Aub P all l ρ K w->JF ρ a->wpList P all.toArray Q l a w
 | [],ρ,a,w,h,hs=>hn _ _ _ h hs
 | o::l,ρ,a,w,h,hs=>by
  simp only[Aub] at h;simp only[wpList];rcases I7 h hs with⟨hw,ρ',hs',h⟩|⟨hw,ρ',hs',h⟩
  ·rw[if_pos hw];exact .inl (Vb h hs' λv v' w' hle hK=>KQ hn l _ _ _ hK (hs'.put o.dst hle))
  ·rw[if_neg (by simp[hw])];exact KQ hn l _ _ _ h (hs'.put o.dst (Le.refl _))
theorem RO{i:Nat}:∀{l:List Nat},Ic i l=true↔i∈l
 | []=>by simp[Ic]
 | j::l=>by
  simp only[Ic,Bool.or_eq_true,List.mem_cons,RO (l:=l)];constructor
  ·rintro(h|h)
   ·exact .inl (Nat.eq_of_beq_eq_true h)
   ·exact .inr h
  ·rintro(h|h)
   ·subst h;exact .inl (Nat.beq_refl _)
   ·exact .inr h
theorem RM{k:Nat}:∀{l:List Edge},k∈Gl l↔∃e∈l,Region.binds .any e=true/\e.on=k
 | []=>by simp[Gl]
 | e::l=>by
  have ih:=RM (k:=k) (l:=l);simp only[Gl];split <;> rename_i hg
  ·simp only[ih,List.mem_cons,exists_eq_or_imp,Region.binds,hg];simp
  ·simp only[ih,List.mem_cons,exists_eq_or_imp,Region.binds,hg];simp
  ·have hb:Region.binds .any e=true:=by
    unfold Region.binds;split <;> first|rfl|(rename_i h;simp_all)
   simp only[List.mem_cons,ih,exists_eq_or_imp,hb,true_and];constructor
   ·rintro(h|h)
    ·exact .inl h.symm
    ·exact .inr h
   ·rintro(h|h)
    ·exact .inl h.symm
    ·exact .inr h
variable{all:List Oper}
theorem GP{i k:Nat}{o:Oper}(ho:all[i]? = some o):k∈IS all i↔∃e∈o.after,Region.binds .any e=true/\e.on=k:=by
 simp only[IS,ho,RM,Array.mem_toList_iff]
structure XC(all:List Oper)(done:List Nat)(listed:Array Bool):Prop where
 size:listed.size=all.length
 mem:∀j,j<all.length->listed.getD j false=Ic j done
theorem XC.getT{done:List Nat}{listed:Array Bool}(h:XC all done listed){j:Nat}(hj:j<all.length):listed.getD j true=Ic j done:=by
 rw[<- h.mem j hj];have:j<listed.size:=by rw[h.size];exact hj
 simp[this]
theorem Xn{done:List Nat}{listed:Array Bool}(h:XC all done listed)(hd:∀i∈done,i<all.length){i:Nat}(hi:i<all.length) :
  rdy all done i=true↔i∈Region.ready .any all.toArray listed:=by
 rw[mem_ready];obtain⟨o,ho⟩:∃o,all[i]? = some o:=⟨all[i],by simp[hi]⟩;have ho':all.toArray[i]? = some o:=by simpa using ho
 simp only[rdy,Bool.and_eq_true,Bool.not_eq_true',List.all_eq_true];rw[h.getT hi];refine and_congr Iff.rfl ?_;constructor
 ·intro hw;refine⟨o,ho',λe he hb=>?_⟩;have h1:=hw e.on ((GP ho).2 ⟨e,he,hb,rfl⟩);have h2:=hd _ (RO.1 h1);rw[h.mem _ h2];exact h1
 ·rintro⟨o',ho'',hall⟩ k hk;have:o'=o:=Option.some.inj (ho''.symm.trans ho');subst this;obtain⟨e,he,hb,rfl⟩:=(GP ho).1 hk;have h1:=hall e he hb
  by_cases h2:e.on<all.length
  ·rw[<- h.mem _ h2];exact h1
  ·have:¬e.on<listed.size:=by rw[h.size];exact h2
   simp[this] at h1
def Acl(all:List Oper)(L:Nat->Bool):Prop:=∀j,L j=true->∀k∈IS all j,L k=true
theorem NZ{acc:List Nat}{k:Nat}:∀{es:List Nat},(IE acc es).testBit k=true->∃e∈es,k=e\/(acc.getD e 0).testBit k=true
 | [],h=>by simp[IE] at h
 | e::es,h=>by
  simp only[IE,Nat.testBit_or,Bool.or_eq_true,Nat.testBit_two_pow,decide_eq_true_eq] at h;rcases h with(h|h)|h
  ·exact⟨e,.head _,.inl h.symm⟩
  ·exact⟨e,.head _,.inr h⟩
  ·obtain⟨e',he',h'⟩:=NZ h;exact⟨e',.tail _ he',h'⟩
theorem RP:∀(l:List Oper)(acc:List Nat),all.drop acc.length=l ->
  (∀j k,(acc.getD j 0).testBit k=true->∀L,Acl all L->(∀e∈IS all j,L e=true)->L k=true) ->
  ∀j k,((Gs l acc).getD j 0).testBit k=true->∀L,Acl all L->(∀e∈IS all j,L e=true)->L k=true
 | [],acc,_,hacc=>hacc
 | o::l,acc,hl,hacc=>by
  simp only[Gs];have ho:all[acc.length]? = some o:=by
   have:(all.drop acc.length)[0]? = some o:=by rw[hl];rfl
   simpa using this
  refine RP l _ ?_ ?_
  ·have:all.drop (acc.length+1)=(all.drop acc.length).drop 1:=by rw[List.drop_drop]
   simp[this,hl]
  ·intro j k hb L hL hj
   by_cases hjl:j<acc.length
   ·have:(acc++[IE acc (Gl o.after.toList)]).getD j 0=acc.getD j 0:=by simp[List.getElem?_append_left hjl]
    rw[this] at hb;exact hacc j k hb L hL hj
   ·by_cases hje:j=acc.length
    ·subst hje;have:(acc++[IE acc (Gl o.after.toList)]).getD acc.length 0=IE acc (Gl o.after.toList):=by simp
     rw[this] at hb;obtain⟨e,he,h⟩:=NZ hb;have hw:e∈IS all acc.length:=by simp only[IS,ho];exact he
     rcases h with rfl|h
     ·exact hj _ hw
     ·exact hacc e k h L hL (hL e (hj e hw))
    ·have:(acc++[IE acc (Gl o.after.toList)]).getD j 0=0:=by
      have:acc.length+1<=j:=by omega
      simp[List.getElem?_eq_none,this]
     rw[this] at hb;simp at hb
def Lg(P:Program)(ops:Array Oper)(Q:Exit->Act->World->Prop)(S:World->Prop)(need:Nat->Bool):Nat->Array Bool->Act->World->Prop
 | 0,listed,a,w=>Region.ready .any ops listed=[]/\Q .normal a w
 | fuel+1,listed,a,w=>
  (Region.ready .any ops listed=[]->Q .normal a w) /\
  ∀i∈Region.ready .any ops listed,wpOp P ops Q i (λa' w'=>(need i=true->S w->S w')/\Lg P ops Q S need fuel (listed.setIfInBounds i true) a' w') a w
theorem SD{ops:Array Oper}{Q:Exit->Act->World->Prop}{S:World->Prop}{need:Nat->Bool}:∀(fuel:Nat)(listed:Array Bool)(a:Act)(w:World),Lg P ops Q S need fuel listed a w->wpAny P .any ops Q fuel listed a w
 | 0,_,_,_,h=>h
 | fuel+1,_,_,_,h=>⟨h.1,λi hi=>wpOp_mono (λa' w' h'=>SD fuel _ a' w' h'.2) (h.2 i hi)⟩
theorem XA{ops:Array Oper}{Q:Exit->Act->World->Prop}{S:World->Prop}{need:Nat->Bool}{c:Bool}{i:Nat}{oi:Oper}{v:Value}(hi:ops[i]? = some oi)
  (hsel:∀(j:Nat)(o:Oper) cs b,ops[j]? = some o->o.op ≠ .select cs b) (hQ:∀c a w,¬Q (.panic c) a w) (G:Array Bool->Prop)
  (hG:∀listed j,G listed->j∈Region.ready .any ops listed->G (listed.setIfInBounds j true))
  (hneed:∀listed j,G listed->j∈Region.ready .any ops listed->listed.getD i true=false->j≠i->c=true->need j=true) :
  ∀(fuel:Nat)(listed:Array Bool)(a:Act)(w:World),G listed ->
   (∀j oj,ops[j]? = some oj->j≠i->listed.getD j true=false->(∀e∈oj.after,Region.binds .any e=true->e.on≠i)->oi.apart ops oj=true) ->
   i∈Region.ready .any ops listed->YieldsIf P ops (λw=>c=true->S w) oi v a->(c=true->S w) ->
   Lg P ops Q S need fuel (listed.setIfInBounds i true) (a.put oi.dst v) w->Lg P ops Q S need (fuel+1) listed a w:=by
 intro fuel
 induction fuel with
 | zero=>
  intro listed a w hg _ hr hy hS H;refine⟨λh=>(by rw[h] at hr;cases hr),λj hj=>?_⟩
  by_cases hji:j=i
  ·subst hji;exact hy.wpOp hi hS ⟨λ_ h=>h,H⟩
  ·have:=ready_mono hj hji;rw[H.1] at this;cases this
 | succ fuel ih=>
  intro listed a w hg hfree hr hy hS H;refine⟨λh=>(by rw[h] at hr;cases hr),λj hj=>?_⟩
  by_cases hji:j=i
  ·subst hji;exact hy.wpOp hi hS ⟨λ_ h=>h,H⟩
  ·have h1:=H.2 j (ready_mono hj hji);have hnd:=hneed listed j hg hj (mem_ready.1 hr).1 hji;obtain⟨hjun,oj,hoj,hall⟩:=mem_ready.1 hj;have hnot:∀e∈oj.after,Region.binds .any e=true->e.on≠i:=λe he hb heq=>by
    have h1:=hall e he hb;have h0:=(mem_ready.1 hr).1;rw[heq] at h1;rcases Nat.lt_or_ge i listed.size with h'|h'
    ·simp[h'] at h0 h1;rw[h0] at h1;cases h1
    ·simp[Array.getElem?_eq_none h'] at h1
   have h2:=wpOp_putIf hoj (hfree j oj hoj hji hjun hnot) (λcs b=>hsel i oi cs b hi) (λcs b=>hsel j oj cs b hoj) (λc a w hq=>(hQ c _ w hq).elim) hy h1;have hfree':∀k ok,ops[k]? = some ok->k≠i->(listed.setIfInBounds j true).getD k true=false ->
     (∀e∈ok.after,Region.binds .any e=true->e.on≠i)->oi.apart ops ok=true:=λk ok hk hki hun hno=>by
    refine hfree k ok hk hki ?_ hno
    by_cases hjk:j=k
    ·subst hjk;exact hjun
    ·rw[getD_set_ne true hjk] at hun;exact hun
   refine wpOp_mono (λa' w' h3=>⟨h3.2.1,ih (listed.setIfInBounds j true) a' w' (hG _ _ hg hj) hfree' (ready_mono hr (Ne.symm hji)) h3.1 (λhc=>h3.2.1 (hnd hc) (hS hc)) ?_⟩) h2;rw[Array.setIfInBounds_comm _ _ hji];exact h3.2.2
theorem XC.set{done:List Nat}{listed:Array Bool}(h:XC all done listed){i:Nat}(hi:i<all.length):XC all (i::done) (listed.setIfInBounds i true):=by
 refine⟨by simp[h.size],λj hj=>?_⟩
 by_cases hij:i=j
 ·subst hij;have:i<listed.size:=by rw[h.size];exact hi
  simp[this,Ic,Nat.beq_refl]
 ·rw[getD_set_ne false hij,h.mem j hj];have:Nat.beq j i=false:=by
   cases hb:Nat.beq j i with
   | false=>rfl
   | true=>exact absurd (Nat.eq_of_beq_eq_true hb).symm hij
  simp[Ic,this]
theorem RD{S:World->Prop}:∀(ks:List CK)(b o:Nat)(K:List Value->WP),A2b S ks b o K w->∃vs,vs.length=ks.length/\K vs w/\∀w',S w'->∀(j:Nat) v,vs[j]? = some v->w'.cell? ⟨b,o+j,none⟩=some v
 | [],_,_,_,h=>⟨[],rfl,h,by simp⟩
 | k::ks,b,o,K,h=>by
  simp only[A2b] at h;obtain⟨x,hx,h⟩:=h;obtain⟨vs,hl,hK,hc⟩:=RD ks b (o+1) _ h;refine⟨_,by simp[hl],hK,λw' hS j v hj=>?_⟩;cases j with
  | zero=>simp at hj;subst hj;exact hx w' hS
  | succ j=>
   have:=hc w' hS j v (by simpa using hj)
   rwa [show o+1+j=o+(j+1) by omega] at this
theorem WZ{S:World->Prop}{t:TypeId}{x:Value}{K:VW}(h:Afv P S t x K w):∃v,CV x=false/\K v w/\∀w',S w'->(Instr.loadAt t x).run P w' = .ok v w':=by
 unfold Afv at h;cases x <;> try exact h.elim
 rename_i p;rcases p with _|⟨b,o,_|_⟩ <;> try exact h.elim
 cases hk:cks P 9 t with
 | none=>simp only[hk] at h;exact h.elim
 | some ks=>
 simp only[hk] at h;cases hc:((P.underlying t).isSome && (P.info? t).isSome && Nat.beq (FE P t) ks.length) with
 | false=>rw[hc] at h;exact h.elim
 | true=>
  rw[hc] at h;simp only[Bool.and_eq_true] at hc;obtain⟨⟨hd,hi⟩,hl⟩:=hc;obtain⟨d,hd⟩:=Option.isSome_iff_exists.1 hd;have hl':FE P t=ks.length:=Nat.eq_of_beq_eq_true hl;simp only[cond_true] at h;cases ha:Lp P t with
  | true=>
   simp only[ha] at h;obtain⟨vs,hvl,hK,hcs⟩:=RD _ _ _ _ h;exact⟨_,rfl,hK,λw' hS=>by
    simp only[Instr.loadAt,Instr.sureAddr,Sem.run_bind,Sem.run_pure,Result.andThen_ok];exact NX hd hi ha (by rw[hl',hvl]) (hcs w' hS)⟩
  | false=>
   simp only[ha] at h;rcases ks with _|⟨k,_|_⟩ <;> try exact h.elim
   cases hif:Fs P t with
   | false=>
    simp only[hif] at h;cases hfu:HA P t with
    | false=>
     simp only[hfu] at h;obtain⟨x,hx,hK⟩:=h;exact⟨_,rfl,hK,λw' hS=>by
      simp only[Instr.loadAt,Instr.sureAddr,Sem.run_bind,Sem.run_pure,Result.andThen_ok];exact Es hd ha (hx w' hS)⟩
    | true=>
     simp only[hfu] at h;rcases h with⟨hx,hK⟩|⟨p,hp,hx,hK⟩
     ·exact⟨_,rfl,hK,λw' hS=>by
       simp only[Instr.loadAt,Instr.sureAddr,Sem.run_bind,Sem.run_pure,Result.andThen_ok];exact Es hd ha (hx w' hS)⟩
     ·rw[RN hp] at hK;exact⟨_,rfl,hK,λw' hS=>by
       simp only[Instr.loadAt,Instr.sureAddr,Sem.run_bind,Sem.run_pure,Result.andThen_ok];exact Es hd ha (hx w' hS)⟩
   | true=>
    simp only[hif] at h;rcases h with⟨hx,hK⟩|⟨t',v',hx,hK⟩
    all_goals
     exact⟨_,rfl,hK,λw' hS=>by
      simp only[Instr.loadAt,Instr.sureAddr,Sem.run_bind,Sem.run_pure,Result.andThen_ok];exact Es hd ha (hx w' hS)⟩
theorem Al8{S:World->Prop}{o:Oper}{K:VW}(h:stI P S ρ o.op K w)(hs:JF ρ a) :
  ∃v v',Le v v'/\K v w/\∀w',((match o.op with|.load _ _=>true|_=>false)=true->S w')->(execOp a.eval o).run P w' = .ok (.value v') w':=by
 unfold stI at h;cases hp:Vg P ρ o.op with
 | some F=>
  simp only[hp] at h;obtain⟨v,v',hle,hK,hg⟩:=Od hp h hs;exact⟨v,v',hle,hK,λw' _=>hg w'⟩
 | none=>
  simp only[hp] at h;obtain⟨dst,op,ty,pos,after,guard⟩:=o;cases op <;> try exact h.elim
  case load t x=>
   obtain⟨v,hu,hK,hr⟩:=WZ h;exact⟨v,v,Le.refl _,hK,λw' hS=>by simp only[execOp,Cl hs rfl hu];exact KX (hr w' (hS rfl))⟩
theorem Afd{done:List Nat}{listed:Array Bool}(h:XC all done listed){i:Nat}{oi:Oper}(hf:Asu all done i oi=true)(j:Nat)(oj:Oper)
  (hj:all.toArray[j]? = some oj) (hne:j≠i) (hun:listed.getD j true=false) (hno:∀e∈oj.after,Region.binds .any e=true->e.on≠i):oi.apart all.toArray oj=true:=by
 have hj':all[j]? = some oj:=by simpa using hj
 have hlt:j<all.length:=(List.getElem?_eq_some_iff.1 hj').1;have h1:=List.all_eq_true.1 hf j (List.mem_range.2 hlt);simp only[hj',Bool.or_eq_true] at h1;rcases h1 with((h1|h1)|h1)|h1
 ·exact absurd (Nat.eq_of_beq_eq_true h1) hne
 ·rw[h.getT hlt,h1] at hun;cases hun
 ·obtain⟨e,he,hb,heq⟩:=(GP hj').1 (RO.1 h1);exact absurd heq (hno e he hb)
 ·exact h1
structure Tc(all:List Oper)(listed:Array Bool):Prop where
 size:listed.size=all.length
 closed:Acl all λj=>listed.getD j false
theorem Tc.set{listed:Array Bool}(h:Tc all listed){j:Nat}(hj:j∈Region.ready .any all.toArray listed):Tc all (listed.setIfInBounds j true):=by
 obtain⟨hjun,oj,hoj,hall⟩:=mem_ready.1 hj;have hoj':all[j]? = some oj:=by simpa using hoj
 have hlt:j<all.length:=(List.getElem?_eq_some_iff.1 hoj').1;refine⟨by simp[h.size],λi hi k hk=>?_⟩
 by_cases hij:j=i
 ·subst hij;obtain⟨e,he,hb,rfl⟩:=(GP hoj').1 hk;exact getD_set_true (hall e he hb)
 ·simp only[getD_set_ne false hij] at hi;exact getD_set_true (h.closed i hi k hk)
theorem RT{done:List Nat}{i:Nat}:∀{A:List Nat},Abd all done A=some i->i∈A/\rdy all done i=true
 | [],h=>by cases h
 | j::A,h=>by
  simp only[Abd] at h;split at h
  ·rename_i hj;cases h;exact⟨.head _,hj⟩
  ·have:=RT h;exact⟨.tail _ this.1,this.2⟩
theorem Tf:∀{l:List WP}{w:World},SK l w->∀p∈l,p w
 | [],_,h,_,_=>h.elim
 | [q],_,h,p,hp=>by
  cases hp with
  | head=>exact h
  | tail _ h'=>cases h'
 | q::q'::l,_,h,p,hp=>by
  cases hp with
  | head=>exact h.1
  | tail _ h'=>exact Tf (l:=q'::l) h.2 p h'
theorem Jh{Q:Exit->Act->World->Prop}{K:EW}{S:World->Prop}{A:List Nat}(hn:∀ρ a w,K ρ w->JF ρ a->Q .normal a w)(hQ:∀c a w,¬Q (.panic c) a w)
  (hsel:∀(j:Nat)(o:Oper) cs b,all.toArray[j]? = some o->o.op ≠ .select cs b) :
  ∀(n:Nat)(done:List Nat)(listed:Array Bool)(ρ:FA)(a:Act)(w:World),XC all done listed->Tc all listed->(∀i∈done,i<all.length) ->
   (∀i∈Ee all A,i<all.length->Ic i done=false->S w)->JF ρ a->Kq P all S A (Ee all A) (Gs all []) n done ρ K w ->
   Lg P all.toArray Q S (J4 (Ee all A) (Gs all [])) n listed a w
 | 0,done,listed,ρ,a,w,hR,hG,hd,hS,hs,h=>by
  simp only[Kq] at h;cases hall:(List.range all.length).all (Ic · done) with
  | false=>rw[hall] at h;exact h.elim
  | true=>
   rw[hall] at h;refine⟨?_,hn _ _ _ h hs⟩;cases hr:Region.ready .any all.toArray listed with
   | nil=>rfl
   | cons i l=>
    exfalso;have hi:i∈Region.ready .any all.toArray listed:=by rw[hr];exact .head _
    obtain⟨h0,o,ho,_⟩:=mem_ready.1 hi;have hlt:i<all.length:=by have:=(Array.getElem?_eq_some_iff.1 ho).1;simpa using this
    have:=List.all_eq_true.1 hall i (List.mem_range.2 hlt);rw[hR.getT hlt,this] at h0;cases h0
 | n+1,done,listed,ρ,a,w,hR,hG,hd,hS,hs,h=>by
  simp only[Kq] at h;have hneed:∀(L:Array Bool)(j k:Nat),Tc all L->j∈Region.ready .any all.toArray L->k∈Ee all A->L.getD k false=false->J4 (Ee all A) (Gs all []) j=true:=by
   intro L j k hL hj hk hkL;simp only[J4,List.any_eq_true];refine⟨k,hk,?_⟩;cases hb:((Gs all []).getD j 0).testBit k with
   | false=>rfl
   | true=>
    exfalso;obtain⟨_,oj,hoj,hall⟩:=mem_ready.1 hj;have hoj':all[j]? = some oj:=by simpa using hoj
    have:=RP (all:=all) all [] (by simp) (by simp) j k hb (λj=>L.getD j false) hL.closed (λe he=>by
     obtain⟨e',he',hb',rfl⟩:=(GP hoj').1 he;exact hall e' he' hb')
    rw[hkL] at this;cases this
  cases hnx:Abd all done A with
  | none=>
   simp only[hnx] at h;have hall:=Tf h;have hready:∀i∈Region.ready .any all.toArray listed,i<all.length/\rdy all done i=true:=by
    intro i hi;have hlt:i<all.length:=by
     obtain⟨_,oj,hoj,_⟩:=mem_ready.1 hi;have:=(Array.getElem?_eq_some_iff.1 hoj).1;simpa using this
    exact⟨hlt,(Xn hR hd hlt).2 hi⟩
   have hne:Region.ready .any all.toArray listed≠[]:=by
    intro h0;cases hrl:Xo all done with
    | nil=>rw[hrl] at h;exact h.elim
    | cons i l=>
     have hi:i∈Xo all done:=by rw[hrl];exact .head _
     simp only[Xo,List.mem_filter,List.mem_range] at hi;have:=(Xn hR hd hi.1).1 hi.2;rw[h0] at this;cases this
   refine⟨λh0=>absurd h0 hne,λi hir=>?_⟩;obtain⟨hlt,hrd⟩:=hready i hir;have hp:=hall _ (List.mem_map.2 ⟨i,List.mem_filter.2 ⟨List.mem_range.2 hlt,hrd⟩,rfl⟩);obtain⟨o,ho⟩:∃o,all[i]? = some o:=⟨all[i],by simp[hlt]⟩;have hoA:all.toArray[i]? = some o:=by simpa using ho
   simp only[ho] at hp;have hd':∀k∈i::done,k<all.length:=by
    intro k hk;cases hk with
    | head=>exact hlt
    | tail _ h'=>exact hd k h'
   have cont:∀ρ' a' w',JF ρ' a'->Ap (J4 (Ee all A) (Gs all []) i) S (Kq P all S A (Ee all A) (Gs all []) n (i::done) ρ' K) w' ->
     (J4 (Ee all A) (Gs all []) i=true->S w->S w')/\Lg P all.toArray Q S (J4 (Ee all A) (Gs all [])) n (listed.setIfInBounds i true) a' w':=by
    intro ρ' a' w' hs' hk;have hSw:J4 (Ee all A) (Gs all []) i=true->S w':=λhnd=>by rw[hnd] at hk;exact hk.1
    refine⟨λh1 _=>hSw h1,Jh hn hQ hsel n (i::done) _ ρ' a' w' (hR.set hlt) (hG.set hir) hd' (λk hkA hkl hkd=>?_) hs' ?_⟩
    ·apply hSw;have hkd':Ic k done=false:=by
      simp only[Ic,Bool.or_eq_false_iff] at hkd;exact hkd.2
     exact hneed listed i k hG hir hkA (by rw[hR.mem k hkl];exact hkd')
    ·cases hnd:J4 (Ee all A) (Gs all []) i with
     | true=>rw[hnd] at hk;exact hk.2
     | false=>rw[hnd] at hk;exact hk
   unfold wpOp;simp only[hoA];rcases I7 hp hs with⟨hw,ρ',hs',h⟩|⟨hw,ρ',hs',h⟩
   ·rw[if_pos hw];exact .inl (Vb h hs' λv v' w' hle hK=>cont _ _ _ (hs'.put o.dst hle) hK)
   ·rw[if_neg (by simp[hw])];exact cont _ _ _ (hs'.put o.dst (Le.refl _)) h
  | some i=>
   simp only[hnx] at h;obtain⟨hiA,hrd⟩:=RT hnx;cases ho:all[i]? with
   | none=>simp only[ho] at h;exact h.elim
   | some o=>
   simp only[ho] at h;have hlt:i<all.length:=(List.getElem?_eq_some_iff.1 ho).1;have hoA:all.toArray[i]? = some o:=by simpa using ho
   have hd':∀k∈i::done,k<all.length:=by
    intro k hk;cases hk with
    | head=>exact hlt
    | tail _ h'=>exact hd k h'
   cases hfr:Asu all done i o with
   | false=>rw[hfr] at h;exact h.elim
   | true=>
    rw[hfr] at h;simp only[cond_true] at h;have hir:=(Xn hR hd hlt).1 hrd;have hin:Ic i done=false:=by
     simp only[rdy,Bool.and_eq_true,Bool.not_eq_true'] at hrd;exact hrd.1
    have hSw:Ako all i=true->S w:=λhld=>hS i (List.mem_filter.2 ⟨hiA,hld⟩) hlt hin;have fin:∀v' ρ',YieldsIf P all.toArray (λw=>Ako all i=true->S w) o v' a->JF ρ' (a.put o.dst v')->Kq P all S A (Ee all A) (Gs all []) n (i::done) ρ' K w ->
      Lg P all.toArray Q S (J4 (Ee all A) (Gs all [])) (n+1) listed a w:=by
     intro v' ρ' hy hs' hk;refine XA (c:=Ako all i) hoA hsel hQ (Tc all) (λL j hL hj=>hL.set hj) (λL j hL hj hun hji hld=>?_) n listed a w hG (Afd hR hfr) hir hy hSw ?_
     ·refine hneed L j i hL hj (List.mem_filter.2 ⟨hiA,hld⟩) ?_;have:i<L.size:=by rw[hL.size];exact hlt
      simp[this] at hun ⊢;exact hun
     ·refine Jh hn hQ hsel n (i::done) _ ρ' _ w (hR.set hlt) (hG.set hir) hd' (λk hkA hkl hkd=>hS k hkA hkl ?_) hs' hk;simp only[Ic,Bool.or_eq_false_iff] at hkd;exact hkd.2
    rcases I7 h hs with⟨hw,ρ',hs',h⟩|⟨hw,ρ',hs',h⟩
    ·obtain⟨v,v',hle,hK,hr⟩:=Al8 h hs';have hld:Ako all i=(match o.op with|.load _ _=>true|_=>false):=by simp only[Ako,ho];all_goals (cases o.op <;> rfl)
     exact fin v' _ (.inl ⟨hw,λw' hSc=>by rw[hld] at hSc;exact hr w' hSc⟩) (hs'.put o.dst hle) hK
    ·exact fin undef _ (.inr ⟨hw,rfl⟩) (hs'.put o.dst (Le.refl _)) h
end
end Go.Hb
namespace Go.Hb
theorem JF.clean{ρ:FA}{a:Act}(h:JF ρ a)(kp:KP)(n:Nat):JF (Gx kp n ρ) a:=by
 unfold Gx;split
 case h_2=>exact h
 rename_i ks _;have key:∀(ρ:FA)(ks:List Nat)(i t:Nat),gt (Hb.clean ks i ρ) t=unk\/gt (Hb.clean ks i ρ) t=gt ρ t:=by
  intro ρ
  induction ρ with
  | nil=>intro ks i t;simp[Hb.clean]
  | cons v ρ ih=>
   intro ks i t;cases ks with
   | nil=>cases t with
    | zero=>exact .inl rfl
    | succ t=>simpa[Hb.clean,gt] using ih [] (i+1) t
   | cons k ks=>
    simp only[Hb.clean];split <;> cases t <;> first|exact .inr rfl|exact .inl rfl|(simpa[gt] using ih _ (i+1) _)
 have hlen:∀(ρ:FA)(ks:List Nat)(i:Nat),(Hb.clean ks i ρ).length=ρ.length:=by
  intro ρ
  induction ρ with
  | nil=>intro ks i;simp[Hb.clean]
  | cons v ρ ih=>
   intro ks i;cases ks with
   | nil=>simp[Hb.clean,ih]
   | cons k ks=>simp only[Hb.clean];split <;> simp[ih]
 refine⟨h.defers,by rw[hlen];exact h.size,λt=>?_⟩;rcases key ρ ks 0 t with h1|h1
 ·exact .inl h1
 ·rw[h1];exact h.get t
section
variable{P:Program}
theorem XL(hm:P.follows .mixedOrders=true){kp:KP}:∀(c:Code)(n:EW)(x:Nat->EW)(r:EW)(ρ:FA)(a:Act)(w:World)(Q:Exit->Act->World->Prop),
  Cj P kp By c n x r ρ w->JF ρ a->(∀ρ a w,n ρ w->JF ρ a->Q .normal a w)->(∀i ρ a w,x i ρ w->JF ρ a->Q (.exit i) a w)->(∀ρ a w,r ρ w->JF ρ a->Q .ret a w) ->
  (∀c a w,¬Q (.panic c) a w)->c.wp P Q a w:=by
 intro c
 induction c with
 | skip=>intro n x r ρ a w Q h hs hn hx hr hP;exact wp_skip (hn _ _ _ h hs)
 | region id ops d=>
  intro n x r ρ a w Q h hs hn hx hr hP;cases d with
  | false=>
   simp only[Cj] at h;exact wp_region_list (by have:=KQ hn _ _ _ _ h hs;simpa using this)
  | true=>
   simp only[Cj] at h;cases hsel:ops.toList.all At8 with
   | false=>rw[hsel] at h;exact h.elim
   | true=>
    rw[hsel] at h;obtain⟨S,hS,h⟩:=h;have hops:ops.toList.toArray=ops:=by simp
    have hsel':∀(j:Nat)(o:Oper) cs b,ops.toList.toArray[j]? = some o->o.op ≠ .select cs b:=by
     intro j o cs b ho heq;rw[hops] at ho;have:=List.all_eq_true.1 hsel o (Array.mem_toList_iff.2 (Array.mem_of_getElem? ho));simp[At8,heq] at this
    refine wp_region_any hm ?_;have:=Jh (Q:=Q) hn hP hsel' ops.toList.length [] (Array.replicate ops.size false) ρ a _ ⟨by simp,λj hj=>by
      have hjl:j<ops.size:=by simpa using hj
      simp[Ic,hjl]⟩ ⟨by simp,λj hj=>by
     by_cases hjl:j<ops.size <;> simp[hjl] at hj⟩ (by simp) (λ_ _ _ _=>hS) hs h
    rw[hops,Array.length_toList] at this;exact SD _ _ _ _ this
 | seq c d ihc ihd=>
  intro n x r ρ a w Q h hs hn hx hr hP;simp only[Cj] at h;refine wp_seq (ihc _ _ _ _ _ _ _ h hs (λρ' a' w' h' hs'=>?_) (λi ρ a w h hs=>hx i ρ a w h hs) (λρ a w h hs=>hr ρ a w h hs) hP);cases hl:US kp.live (Akt d) with
  | none=>simp only[hl] at h';exact ihd _ _ _ _ _ _ _ h' hs' hn hx hr hP
  | some ks=>
   simp only[hl,By] at h';have hc:=hs'.clean kp (Akt d);simp only[Gx,hl] at hc;exact ihd _ _ _ _ _ _ _ h' hc hn hx hr hP
 | cond c x y ihx ihy=>
  intro n e r ρ a w Q h hs hn hx hr hP;simp only[Cj] at h;cases hv:ev ρ c with
  | bool t=>
   simp only[hv] at h;have hc:=Cl hs hv rfl;cases t with
   | true=>exact wp_cond_true hc (ihx _ _ _ _ _ _ _ h hs hn hx hr hP)
   | false=>exact wp_cond_false hc (ihy _ _ _ _ _ _ _ h hs hn hx hr hP)
  | _=>simp only[hv] at h;exact h.elim
 | block id c ih=>
  intro n x r ρ a w Q h hs hn hx hr hP;simp only[Cj] at h;refine wp_block (ih _ _ _ _ _ _ _ h hs hn (λi ρ a w h hs=>?_) (λρ a w h hs=>hr ρ a w h hs) hP);show if i=id then Q .normal a w else Q (.exit i) a w
  cases hb:Nat.beq i id with
  | true=>
   rw[hb] at h;rw[if_pos (Nat.eq_of_beq_eq_true hb)];exact hn _ _ _ h hs
  | false=>
   rw[hb] at h;have:i≠id:=λhe=>by rw[he,Nat.beq_refl] at hb;cases hb
   rw[if_neg this];exact hx _ _ _ _ h hs
 | loop c ih=>
  intro n x r ρ a w Q h hs hn hx hr hP;simp only[Cj] at h;obtain⟨m,h⟩:=h;refine wp_loop_ghost (λm a w=>∃ρ,JF ρ a/\UT (λk ρ=>Cj P kp By c k x r ρ) (Gx kp (Aks c)) m ρ w) m ⟨_,hs.clean kp _,h⟩ ?_;rintro m a w ⟨ρ,hs,h⟩;cases m with
  | zero=>exact h.elim
  | succ m=>
   simp only[UT] at h;refine ih _ _ _ _ _ _ _ h hs (λρ' a' w' h' hs'=>?_) (λi ρ a w h hs=>hx i ρ a w h hs) (λρ a w h hs=>hr ρ a w h hs) hP;exact⟨m,Nat.lt_succ_self m,_,hs'.clean kp _,h'⟩
 | rangeFunc=>intro n x r ρ a w Q h;exact h.elim
 | exit id=>intro n x r ρ a w Q h hs hn hx hr hP;exact wp_exit (hx _ _ _ _ h hs)
 | scope c ih=>intro n x r ρ a w Q h;exact h.elim
 | label=>intro n x r ρ a w Q h;exact h.elim
 | goto=>intro n x r ρ a w Q h;exact h.elim
 | ret=>intro n x r ρ a w Q h hs hn hx hr hP;exact wp_ret (hr _ _ _ h hs)
 | refuse=>intro n x r ρ a w Q h;exact h.elim
def Alp(tmps:Array Value):ResultVar->Sem Value
 | .tmp t=>pure (tmps.getD t undef)
 | .cell c t=>do loadVar t (<- asAddr (tmps.getD c undef))
theorem Af6(fn:Func)(tmps:Array Value):results fn tmps=(do let vs <- fn.results.mapM (Alp tmps);pure (if h:vs.size=1 then vs[0] else .tuple vs)):=rfl
theorem KW{a:Act}:∀(rs:List ResultVar)(ρ:FA)(K:List Value->WP)(w:World),Alq P rs ρ K w->JF ρ a ->
  ∃vs,K vs w/\(rs.mapM (Alp a.tmps)).run P w = .ok vs w
 | [],ρ,K,w,h,hs=>⟨[],h,rfl⟩
 | .tmp t::rs,ρ,K,w,h,hs=>by
  simp only[Alq] at h;cases hu:CV (gt ρ t) with
  | true=>rw[hu] at h;exact h.elim
  | false=>
   rw[hu] at h;obtain⟨vs,hK,hr⟩:=KW rs ρ _ w h hs;refine⟨_,hK,?_⟩;have:=(hs.get t).eq hu;simp only[List.mapM_cons,Sem.run_bind,Alp,Sem.run_pure,Result.andThen_ok,hr,this]
 | .cell c t::rs,ρ,K,w,h,hs=>by
  simp only[Alq] at h;obtain⟨v,hu,h,hr1⟩:=NW h;obtain⟨vs,hK,hr⟩:=KW rs ρ _ w h hs;refine⟨_,hK,?_⟩;have hg:=(hs.get c).eq hu;have h2:(Alp a.tmps (.cell c t)).run P w = .ok v w:=by
   simp only[Alp];rw[hg];unfold Instr.loadAt at hr1;cases hx:gt ρ c <;> rw[hx] at hr1 <;> try (simp[Instr.sureAddr] at hr1;done)
   rename_i p;cases p with
   | none=>simp[Instr.sureAddr] at hr1
   | some p=>simpa[Instr.sureAddr,asAddr] using hr1
  simp only[List.mapM_cons,Sem.run_bind,Result.andThen_ok,hr,h2,Sem.run_pure]
theorem Se{a:Act}{fn:Func}{ρ:FA}{Q:VW}{w:World}(h:A2y P fn.results.toList ρ Q w)(hs:JF ρ a) :
  ∃v,Q v w/\(results fn a.tmps).run P w = .ok v w:=by
 obtain⟨vs,hK,hr⟩:=KW _ _ _ _ h hs;have hr':(fn.results.mapM (Alp a.tmps)).run P w = .ok vs.toArray w:=by
  rw[Array.mapM_eq_mapM_toList,Sem.run_map,hr];rfl
 rw[Af6];rcases vs with _|⟨v,_|⟨u,vs⟩⟩
 ·refine⟨_,hK,?_⟩;simp only[Sem.run_bind,hr',Result.andThen_ok,Sem.run_pure];rfl
 ·refine⟨_,hK,?_⟩;simp only[Sem.run_bind,hr',Result.andThen_ok,Sem.run_pure];rfl
 ·refine⟨_,hK,?_⟩;simp only[Sem.run_bind,hr',Result.andThen_ok,Sem.run_pure];simp
theorem Kt:∀n,(Lc n).length=n
 | 0=>rfl
 | n+1=>by simp[Lc,Kt n]
theorem V0:∀n,Lc n=List.replicate n undef
 | 0=>rfl
 | n+1=>by simp[Lc,V0 n,List.replicate_succ]
theorem A83(ρ:FA)(t:Nat):gt ρ t=(ρ[t]?).getD unk:=by
 induction ρ generalizing t with
 | nil=>simp[gt]
 | cons v ρ ih=>cases t <;> simp[gt,ih]
theorem I6(hm:P.follows .mixedOrders=true){kp:KP}{f:FuncId}{fn:Func}{args:List Value}{Q:VW}{w:World}(hf:P.funcs[f]? = some fn)(hb:fn.body.isSome=true)
  (h:Au By P kp fn args Q w):Calls P f args.toArray w λe w'=>∃v,e = .returned v/\Q v w':=by
 obtain⟨c,hc⟩:=Option.isSome_iff_exists.1 hb;unfold Au Bj at h;simp only[hc] at h;refine calls_of_wp hf hc ?_;have hs:JF (args++Lc (fn.ntmps-args.length)) { tmps:=args.toArray++Array.replicate (fn.ntmps-args.toArray.size) undef,defers:=[] }:=by
  refine⟨rfl,by simp[Kt],λt=>?_⟩;rw[A83,V0];have:(args.toArray++Array.replicate (fn.ntmps-args.toArray.size) undef)=(args++List.replicate (fn.ntmps-args.length) undef).toArray:=by
   rw[<- Array.toList_inj];simp
  rw[this];simp only[Array.getD_eq_getD_getElem?,List.getElem?_toArray];cases h0:(args++List.replicate (fn.ntmps-args.length) undef)[t]? with
  | none=>exact .inl rfl
  | some v=>exact Le.refl _
 refine XL hm c _ _ _ _ _ _ (λe a w=>match e with
  | .panic _=>False
  | e=>bodyPost P fn (λe w'=>∃v,e = .returned v/\Q v w') e a w) h hs ?_ ?_ ?_ ?_ |> λh=>Code.wp_mono (λe a w q=>by
   cases e <;> first|exact q|exact q.elim) h
 ·intro ρ a w h hs;obtain⟨v,hv,hr⟩:=Se h hs;exact⟨hs.defers,v,hr,v,rfl,hv⟩
 ·intro i ρ a w h;exact h.elim
 ·intro ρ a w h hs;obtain⟨v,hv,hr⟩:=Se h hs;exact⟨hs.defers,v,hr,v,rfl,hv⟩
 ·intro c a w h;exact h
end
structure Ki(P:Program)(f:FuncId)(fn:Func):Prop where
 mixed:P.follows .mixedOrders=true
 func:P.funcs[f]? = some fn
 body:fn.body.isSome=true
theorem cw{P:Program}{f:FuncId}{fn:Func}{kp:KP}{args:List Value}{Q:VW}{t:WP}{w:World}(ho:Ki P f fn)(hr:Au By P kp fn args Q=t)(h:t w) :
  Calls P f args.toArray w λe w'=>∃v,e = .returned v/\Q v w':=I6 ho.mixed ho.func ho.body (hr ▸ h)
theorem jw{k:Nat}{c:EW}{e:FA}{t:WP}{w:World}(hr:c e=t)(h:t w):By k c e w:=by
 show c e w;rw[hr];exact h
end Go.Hb
namespace Go.Hb
abbrev Ll:=Nat->Option Obj
abbrev HP:=Ll->Prop
def Fh(h g:Ll):Prop:=∀b o,h b=some o->g b=some o
def Am7(h g:Ll):Prop:=∀b,h b=none\/g b=none
def stars:List HP->HP
 | [],_=>True
 | p::l,h=>∃h1 h2,Fh h1 h/\Fh h2 h/\Am7 h1 h2/\p h1/\stars l h2
def DM(w:World):Ll:=λb=>w.heap[b]?
structure Ab(W0 w:World)(L:List HP):Prop where
 os:w.os=W0.os
 out:w.output=W0.output
 st:stars L (DM w)
theorem Fh.refl(h:Ll):Fh h h:=λ_ _ h=>h
theorem Fh.trans{f g h:Ll}(a:Fh f g)(b:Fh g h):Fh f h:=λx o hx=>b x o (a x o hx)
theorem Am7.sub{f g f' g':Ll}(h:Am7 f g)(hf:Fh f' f)(hg:Fh g' g):Am7 f' g':=λb=>by
 rcases h b with h|h
 ·left;cases hx:f' b with
  | none=>rfl
  | some o=>rw[hf b o hx] at h;cases h
 ·right;cases hx:g' b with
  | none=>rfl
  | some o=>rw[hg b o hx] at h;cases h
theorem La{L:List HP}{h g:Ll}(hs:stars L h)(hg:Fh h g):stars L g:=by
 cases L with
 | nil=>trivial
 | cons p L=>
  obtain⟨h1,h2,a,b,c,d,e⟩:=hs;exact⟨h1,h2,a.trans hg,b.trans hg,c,d,e⟩
def Ld(f g:Ll):Ll:=λb=>match f b with
 | some o=>some o
 | none=>g b
theorem Sx{p q:HP}{L:List HP}{h:Ll}(hs:stars (p::q::L) h):stars (q::p::L) h:=by
 obtain⟨h1,h2,a,b,c,hp,h3,h4,d,e,f,hq,hL⟩:=hs;refine⟨h3,Ld h1 h4,d.trans b,λx o hx=>?_,λx=>?_,hq,h1,h4,λx o hx=>?_,λx o hx=>?_,c.sub (Fh.refl _) e,hp,hL⟩
 ·unfold Ld at hx;split at hx
  ·rename_i o' ho';cases hx;exact a _ _ ho'
  ·exact b _ _ (e _ _ hx)
 ·unfold Ld;rcases(c.sub (Fh.refl _) d) x with h'|h'
  ·rw[h'];rcases f x with h''|h''
   ·exact .inl h''
   ·exact .inr h''
  ·exact .inl h'
 ·unfold Ld;rw[hx]
 ·unfold Ld;split
  ·rename_i o' ho';rcases(c.sub (Fh.refl _) e) x with h'|h'
   ·rw[ho'] at h';cases h'
   ·rw[hx] at h';cases h'
  ·exact hx
theorem Age{L M:List HP}(hp:L.Perm M):∀{h:Ll},stars L h->stars M h:=by
 induction hp with
 | nil=>exact λh=>h
 | cons x _ ih=>exact λ⟨h1,h2,a,b,c,d,e⟩=>⟨h1,h2,a,b,c,d,ih e⟩
 | swap x y l=>exact λh=>Sx h
 | trans _ _ ih1 ih2=>exact λh=>ih2 (ih1 h)
theorem EO{α:Type _}:∀{l:List α}{i:Nat}(h:i<l.length),(l[i]::l.eraseIdx i).Perm l
 | [],i,h=>by simp at h
 | x::l,0,h=>by simp
 | x::l,i+1,h=>by
  simp only[List.getElem_cons_succ,List.eraseIdx_cons_succ];exact(List.Perm.swap x _ _).trans (List.Perm.cons x (EO (by simpa using h)))
section
variable{W0 w:World}{L:List HP}
theorem Ab.perm{M:List HP}(h:Ab W0 w L)(hp:L.Perm M):Ab W0 w M:=⟨h.os,h.out,Age hp h.st⟩
theorem Ab.drop{p:HP}(h:Ab W0 w (p::L)):Ab W0 w L:=by
 obtain⟨h1,h2,a,b,c,d,e⟩:=h.st;exact⟨h.os,h.out,La e b⟩
theorem Ab.focus{q:Nat}{p:HP}(h:Ab W0 w L)(hq:L[q]? = some p):Ab W0 w (p::L.eraseIdx q):=by
 obtain⟨hlt,rfl⟩:=List.getElem?_eq_some_iff.1 hq;exact h.perm (EO hlt).symm
theorem Ab.back{q:Nat}{p p':HP}(hq:L[q]? = some p')(h:Ab W0 w (p::L.eraseIdx q)):Ab W0 w (L.set q p):=by
 have hlt:=(List.getElem?_eq_some_iff.1 hq).1;have hlt':q<(L.set q p).length:=by simpa using hlt
 have h1:=EO hlt';rw[List.getElem_set_self,List.eraseIdx_set_eq] at h1;exact h.perm h1
theorem Ab.turn{q:Nat}{p p':HP}(h:Ab W0 w L)(hq:L[q]? = some p)(hp:∀g,p g->p' g):Ab W0 w (L.set q p'):=by
 obtain⟨h1,h2,a,b,c,d,e⟩:=(h.focus hq).st;exact Ab.back hq ⟨h.os,h.out,h1,h2,a,b,c,hp _ d,e⟩
theorem Ab.get{q:Nat}{p:HP}(h:Ab W0 w L)(hq:L[q]? = some p):∃g,Fh g (DM w)/\p g:=by
 obtain⟨h1,h2,a,b,c,d,e⟩:=(h.focus hq).st;exact⟨h1,a,d⟩
theorem Ab.drew(h:Ab W0 w L):Ab W0 w.drew L:=⟨h.os,h.out,h.st⟩
theorem Ab.pure{q:Nat}{p:HP}{c:Prop}(h:Ab W0 w L)(hq:L[q]? = some p)(hc:∀g,p g->c):c:=by
 obtain⟨g,_,hg⟩:=h.get hq;exact hc g hg
theorem Ab.ex{q:Nat}{α:Type}{p:α->HP}(h:Ab W0 w L)(hq:L[q]? = some (λg=>∃x,p x g)):∃x,Ab W0 w (L.set q (p x)):=by
 obtain⟨h1,h2,a,b,c,⟨x,d⟩,e⟩:=(h.focus hq).st;exact⟨x,Ab.back hq ⟨h.os,h.out,h1,h2,a,b,c,d,e⟩⟩
def A3d(p q:HP):HP:=λh=>∃h1 h2,Fh h1 h/\Fh h2 h/\Am7 h1 h2/\p h1/\q h2
theorem Ab.split{p q:HP}(h:Ab W0 w (A3d p q::L)):Ab W0 w (p::q::L):=by
 obtain⟨h1,h2,a,b,c,⟨h3,h4,d,e,f,hp,hq⟩,g⟩:=h.st;refine⟨h.os,h.out,h3,Ld h4 h2,d.trans a,λx o hx=>?_,λx=>?_,hp,h4,h2,λx o hx=>?_,λx o hx=>?_,c.sub e (Fh.refl _),hq,g⟩
 ·unfold Ld at hx;split at hx
  ·rename_i o' ho';cases hx;exact a _ _ (e _ _ ho')
  ·exact b _ _ hx
 ·unfold Ld;rcases f x with h'|h'
  ·exact .inl h'
  ·rw[h'];exact c.sub d (Fh.refl _) x
 ·unfold Ld;rw[hx]
 ·unfold Ld;split
  ·rename_i o' ho';rcases(c.sub e (Fh.refl _)) x with h'|h'
   ·rw[ho'] at h';cases h'
   ·rw[hx] at h';cases h'
  ·exact hx
theorem Ab.join{p q:HP}(h:Ab W0 w (p::q::L)):Ab W0 w (A3d p q::L):=by
 obtain⟨h1,h2,a,b,c,hp,h3,h4,d,e,f,hq,hL⟩:=h.st;refine⟨h.os,h.out,Ld h1 h3,h4,λx o hx=>?_,e.trans b,λx=>?_,⟨h1,h3,λx o hx=>?_,λx o hx=>?_,c.sub (Fh.refl _) d,hp,hq⟩,hL⟩
 ·unfold Ld at hx;split at hx
  ·rename_i o' ho';cases hx;exact a _ _ ho'
  ·exact b _ _ (d _ _ hx)
 ·unfold Ld;rcases(c.sub (Fh.refl _) e) x with h'|h'
  ·rw[h'];exact f x
  ·exact .inr h'
 ·unfold Ld;rw[hx]
 ·unfold Ld;split
  ·rename_i o' ho';rcases(c.sub (Fh.refl _) d) x with h'|h'
   ·rw[ho'] at h';cases h'
   ·rw[hx] at h';cases h'
  ·exact hx
def blk(b:Nat)(cs:List Value):HP:=λh=>∃T lo hi,h b=some (.cells cs.toArray T (lo,hi))/\∀i,i<cs.length->¬(lo<=i/\i<hi)
def old(W:World):HP:=λh=>Fh (DM W) h
theorem Avq{w:World}{b o:Nat}{cs:List Value}{T lo hi:Nat}(h:w.heap[b]? = some (.cells cs.toArray T (lo,hi))):w.cell? ⟨b,o,none⟩=cs[o]?:=by
 unfold World.cell?;rw[h];simp
theorem Ab.cell{q b o:Nat}{cs:List Value}(h:Ab W0 w L)(hq:L[q]? = some (blk b cs)):w.cell? ⟨b,o,none⟩=cs[o]?:=by
 obtain⟨g,hg,T,lo,hi,hb,_⟩:=h.get hq;exact Avq (hg _ _ hb)
theorem Ab.frozen{q b o:Nat}{cs:List Value}(h:Ab W0 w L)(hq:L[q]? = some (blk b cs))(ho:o<cs.length):w.frozen? ⟨b,o,none⟩=false:=by
 obtain⟨g,hg,T,lo,hi,hb,hf⟩:=h.get hq;unfold World.frozen?;have h1:w.heap[b]? = some (.cells cs.toArray T (lo,hi)):=hg _ _ hb;simp only[h1];have:=hf o ho;cases hd:(decide (lo<=o) && decide (o<hi)) with
 | false=>rfl
 | true=>simp only[Bool.and_eq_true,decide_eq_true_eq] at hd;exact absurd hd this
theorem Ab.cell_old{q:Nat}{W:World}{a:Addr}{v:Value}(h:Ab W0 w L)(hq:L[q]? = some (old W))(hv:W.cell? a=some v):w.cell? a=some v:=by
 obtain⟨g,hg,ho⟩:=h.get hq;unfold World.cell? at hv ⊢;cases hb:W.heap[a.block]? with
 | none=>rw[hb] at hv;cases hv
 | some o=>
  have:w.heap[a.block]? = some o:=hg _ _ (ho _ _ hb);rw[this];rw[hb] at hv;exact hv
theorem Ab.set{q b o:Nat}{cs:List Value}{v:Value}(h:Ab W0 w L)(hq:L[q]? = some (blk b cs)):Ab W0 (w.setCell ⟨b,o,none⟩ v) (L.set q (blk b (cs.set o v))):=by
 obtain⟨h1,h2,ha,hb,hc,⟨T,lo,hi,hd,hf⟩,he⟩:=(h.focus hq).st;apply Ab.back hq;have hwb:w.heap[b]? = some (.cells cs.toArray T (lo,hi)):=ha _ _ hd;have hnew:DM (w.setCell ⟨b,o,none⟩ v) b=some (.cells (cs.set o v).toArray T (lo,hi)):=by
  simp[DM,World.setCell,Array.getElem?_modify,hwb]
 refine⟨h.os,h.out,λx=>if x=b then some (.cells (cs.set o v).toArray T (lo,hi)) else none,h2,λx y hx=>?_,λx y hx=>?_,λx=>?_,⟨T,lo,hi,by simp,λi hi'=>hf i (by simpa using hi')⟩,he⟩
 ·simp only at hx;split at hx
  ·rename_i hxb;subst hxb;cases hx;exact hnew
  ·cases hx
 ·have hxb:x≠b:=by
   intro hxb;subst hxb
   rcases hc x with h'|h'
   ·rw[hd] at h';cases h'
   ·rw[hx] at h';cases h'
  have:=hb _ _ hx;simp only[DM,World.setCell,Array.getElem?_modify] at this ⊢;rw[if_neg (Ne.symm hxb)];exact this
 ·simp only
  by_cases hxb:x=b
  ·subst hxb;rcases hc x with h'|h'
   ·rw[hd] at h';cases h'
   ·exact .inr h'
  ·left;rw[if_neg hxb]
theorem Ab.alloc{cs:List Value}{T:TypeId}(h:Ab W0 w L):Ab W0 (w.alloc (.cells cs.toArray T)) (blk w.heap.size cs::L):=by
 have hold:Fh (DM w) (DM (w.alloc (.cells cs.toArray T))):=by
  intro x y hx;simp only[DM,World.alloc,Array.getElem?_push] at hx ⊢;have hlt:x<w.heap.size:=(Array.getElem?_eq_some_iff.1 hx).1;rw[if_neg (by omega)];exact hx
 refine⟨h.os,h.out,λx=>if x=w.heap.size then some (.cells cs.toArray T (0,0)) else none,DM w,λx y hx=>?_,hold,λx=>?_,⟨T,0,0,by simp,λi _=>by omega⟩,h.st⟩
 ·simp only at hx;split at hx
  ·rename_i hxb;subst hxb;cases hx;show(w.heap.push _)[w.heap.size]? = _;simp
  ·cases hx
 ·simp only
  by_cases hxb:x=w.heap.size
  ·right;subst hxb;simp[DM]
  ·left;rw[if_neg hxb]
theorem A9p{k:CK}{x:k.ty}(hu:k = .any->CV (k.val x)=false):k.un (k.val x)=some x:=by
 cases k with
 | int k=>cases k <;> rfl
 | any=>have h:=hu rfl;simp only[CK.un,CK.val] at h ⊢;rw[h];rfl
 | _=>rfl
theorem WY{k:CK}{b o:Nat}{x:k.ty}{K:k.ty->WP}(hc:w.cell? ⟨b,o,none⟩=some (k.val x))(hu:k ≠ .any)(hK:K x w):ld k b o K w:=by
 unfold ld;rw[hc];simp only[Option.bind_some,A9p (λh=>absurd h hu)];exact hK
theorem A9d(q:Nat){k:CK}{b o:Nat}{cs:List Value}{x:k.ty}{K:k.ty->WP}(h:Ab W0 w L)(hq:L[q]? = some (blk b cs))(hc:cs[o]? = some (k.val x))(hK:K x w)
  (hu:k ≠ .any:=by simp):ld k b o K w:=WY (by rw[h.cell hq];exact hc) hu hK
theorem IX(q:Nat){b o:Nat}{cs:List Value}{v:Value}{K:WP}(h:Ab W0 w L)(hq:L[q]? = some (blk b cs))(ho:o<cs.length)(hK:∀w',Ab W0 w' (L.set q (blk b (cs.set o v)))->K w'):st b o v K w:=by
 refine⟨?_,h.frozen hq ho,hK _ (h.set hq)⟩;rw[h.cell hq,List.getElem?_eq_getElem ho];rfl
theorem Ah{cs:List Value}{T:TypeId}{K:Nat->WP}(h:Ab W0 w L)(hK:∀b w',Ab W0 w' (blk b cs::L)->K b w'):A1 cs T K w:=hK _ _ h.alloc
theorem Aa{b o:Nat}{K:Nat->Nat->WP}(hK:K b o w):Ad (some ⟨b,o,none⟩) K w:=⟨_,_,rfl,hK⟩
theorem Az{c:Prop}{K:WP}(hc:c)(hK:K w):Bw c K w:=⟨hc,hK⟩
theorem XO{K:(World->Prop)->WP}(S:World->Prop)(hS:S w.drew)(hK:K S w.drew):A5 K w:=⟨S,hS,hK⟩
theorem A9{S:World->Prop}{K:WP}(hS:S w)(hK:K w):Ap true S K w:=⟨hS,hK⟩
theorem GM{k:CK}{b o:Nat}{S:World->Prop}(x:k.ty){K:k.ty->WP}(hc:∀w',S w'->w'.cell? ⟨b,o,none⟩=some (k.val x))(hK:K x w):WW S k b o K w:=⟨x,hc,hK⟩
theorem Ak{b:Bool}{K M:WP}(hb:b=true)(hK:K w):Aj b K M w:=by subst hb;exact hK
theorem Ac{b:Bool}{K M:WP}(hb:b=false)(hK:M w):Aj b K M w:=by subst hb;exact hK
theorem Al{b:Bool}{K M:WP}(h1:b=true->K w)(h2:b=false->M w):Aj b K M w:=by
 cases b
 ·exact h2 rfl
 ·exact h1 rfl
end
end Go.Hb
namespace Go.Hb
def Mq(sz:Nat)(s:Sl)(cs:List Value):HP:=λh=>
 (cs.length=s.n*sz/\s.n<=s.c)/\((s.a=none/\s.n=0/\s.c=0)\/∃b o pre tl,s.a=some ⟨b,o,none⟩/\pre.length=o/\blk b (pre++cs++tl) h/\(s.c-s.n)*sz<=tl.length)
theorem Kb{L:List HP}{q:Nat}{p:HP}(h:q<L.length):(L.set q p)[q]? = some p:=by simp[h]
section
variable{W0 w:World}{L:List HP}
theorem IN{sz:Nat}{s:Sl}{cs:List Value}{q:Nat}(h:Ab W0 w L)(hq:L[q]? = some (Mq sz s cs)):cs.length=s.n*sz/\s.n<=s.c:=
 h.pure hq λ_ hg=>hg.1
theorem Ab.openS{sz:Nat}{s:Sl}{cs:List Value}{q:Nat}{b o:Nat}(h:Ab W0 w L)(hq:L[q]? = some (Mq sz s cs))(ha:s.a=some ⟨b,o,none⟩) :
  ∃pre tl,pre.length=o/\cs.length=s.n*sz/\s.n<=s.c/\(s.c-s.n)*sz<=tl.length/\Ab W0 w (L.set q (blk b (pre++cs++tl))):=by
 obtain⟨h1,h2,a,b',c,⟨⟨hl,hn⟩,hd⟩,e⟩:=(h.focus hq).st;rcases hd with⟨hd,_⟩|⟨b1,o1,pre,tl,hsa,hp,hb,ht⟩
 ·rw[hd] at ha;cases ha
 ·rw[hsa] at ha;cases ha;exact⟨pre,tl,hp,hl,hn,ht,Ab.back hq ⟨h.os,h.out,h1,h2,a,b',c,hb,e⟩⟩
theorem Ab.shutS{sz:Nat}{s:Sl}{cs pre tl:List Value}{q:Nat}{b o:Nat}(h:Ab W0 w L)(hq:L[q]? = some (blk b (pre++cs++tl)))(ha:s.a=some ⟨b,o,none⟩)(hp:pre.length=o)
  (hl:cs.length=s.n*sz) (hn:s.n<=s.c) (ht:(s.c-s.n)*sz<=tl.length):Ab W0 w (L.set q (Mq sz s cs)):=
 h.turn hq λ_ hg=>⟨⟨hl,hn⟩,.inr ⟨b,o,pre,tl,ha,hp,hg,ht⟩⟩
theorem A61(q:Nat){sz:Nat}{s:Sl}{cs:List Value}{i:Int}{K:Nat->Nat->WP}(h:Ab W0 w L)(hq:L[q]? = some (Mq sz s cs))(h0:0<=i)(h1:i<(s.n:Int))
  (hK:∀b o,s.a=some ⟨b,o,none⟩->K b o w):CB s.a s.n i K w:=by
 obtain⟨g,_,⟨hl,hn⟩,hd⟩:=h.get hq;rcases hd with⟨_,hd,_⟩|⟨b,o,pre,tl,hsa,_⟩
 ·omega
 ·exact⟨b,o,hsa,⟨h0,h1⟩,hK b o hsa⟩
theorem Sv{q sz:Nat}{s:Sl}{cs:List Value}{b o j:Nat}(h:Ab W0 w L)(hq:L[q]? = some (Mq sz s cs))(ha:s.a=some ⟨b,o,none⟩)(hj:j<cs.length):w.cell? ⟨b,o+j,none⟩=cs[j]?:=by
 obtain⟨pre,tl,hp,_,_,_,h'⟩:=h.openS hq ha;have hlt:=(List.getElem?_eq_some_iff.1 hq).1;rw[h'.cell (q:=q) (Kb hlt)];subst hp;rw[List.append_assoc,List.getElem?_append_right (by omega),List.getElem?_append_left (by simp;omega)]
 simp
theorem A8b(q:Nat){sz:Nat}{s:Sl}{cs:List Value}{b o p j:Nat}{v:Value}{K:WP}(h:Ab W0 w L)(hq:L[q]? = some (Mq sz s cs))(ha:s.a=some ⟨b,o,none⟩)
  (hp:p=o+j) (hj:j<cs.length) (hK:∀w',Ab W0 w' (L.set q (Mq sz s (cs.set j v)))->K w'):st b p v K w:=by
 subst hp;obtain⟨pre,tl,hp,hl,hn,ht,h'⟩:=h.openS hq ha;have hlt:=(List.getElem?_eq_some_iff.1 hq).1;have hq':(L.set q (blk b (pre++cs++tl)))[q]? = some (blk b (pre++cs++tl)):=by simp[hlt]
 refine IX q h' hq' (by simp;omega) λw' h2=>hK w' ?_;subst hp;have hset:(pre++cs++tl).set (pre.length+j) v=pre++cs.set j v++tl:=by
  rw[List.append_assoc,List.set_append_right _ _ (by omega),List.set_append_left _ _ (by simp;omega)];simp
 rw[hset] at h2;have h3:=h2.shutS (q:=q) (s:=s) (sz:=sz) (Kb (by simpa using hlt)) ha rfl (by simpa using hl) hn ht;simpa using h3
def Agq(W:World)(sz:Nat)(s:Sl)(cs:List Value):Prop:=
 cs.length=s.n*sz/\((s.a=none/\s.n=0)\/∃b o,s.a=some ⟨b,o,none⟩/\∀j,j<cs.length->W.cell? ⟨b,o+j,none⟩=cs[j]?)
theorem Sc{w:World}{b:Nat}:∀(cs:List Value)(o:Nat),(∀j,j<cs.length->w.cell? ⟨b,o+j,none⟩=cs[j]?)->rdL w b o cs.length=some cs
 | [],_,_=>rfl
 | c::cs,o,h=>by
  have h0:=h 0 (by simp);have ih:=Sc cs (o+1) λj hj=>by
   have:=h (j+1) (by simpa using hj);rw[show o+1+j=o+(j+1) by omega,this];simp
  simp only[List.length_cons,rdL];rw[show w.cell? ⟨b,o,none⟩=some c by simpa using h0];simp only[ih]
theorem A7z(q:Nat){sz:Nat}{s:Sl}{cs:List Value}(h:Ab W0 w L)(hq:L[q]? = some (Mq sz s cs)):F9 w s.a (s.n*sz)=some cs:=by
 have hl:=(IN h hq).1;obtain⟨g,_,_,hd⟩:=h.get hq;rcases hd with⟨ha,hn,_⟩|⟨b,o,pre,tl,ha,_⟩
 ·rw[ha];have:cs=[]:=List.length_eq_zero_iff.1 (by rw[hl,hn];simp)
  simp[F9,this]
 ·rw[ha,<- hl];exact Sc cs o λj hj=>Sv h hq ha hj
theorem A7y(q:Nat){b:Nat}{cs:List Value}{n:Nat}(h:Ab W0 w L)(hq:L[q]? = some (blk b cs))(hn:n=cs.length):F9 w (some ⟨b,0,none⟩) n=some cs:=by
 subst hn;exact Sc cs 0 λj _=>by rw[h.cell hq];simp
theorem Qt(q:Nat){b:Nat}:∀(vs:List Value)(w:World)(L:List HP)(pre mid tl:List Value)(K:WP),Ab W0 w L->L[q]? = some (blk b (pre++mid++tl))->mid.length=vs.length ->
  (∀w',Ab W0 w' (L.set q (blk b (pre++vs++tl)))->K w')->sts vs b pre.length K w
 | [],w,L,pre,mid,tl,K,h,hq,hm,hK=>by
  have:mid=[]:=List.length_eq_zero_iff.1 (by simpa using hm);subst this;refine hK w ?_;have:=h.turn hq λ_ hg=>hg;exact this
 | v::vs,w,L,pre,m::mid,tl,K,h,hq,hm,hK=>by
  have hlt:=(List.getElem?_eq_some_iff.1 hq).1;refine IX q h hq (by simp) λw' h'=>?_;have hset:(pre++(m::mid)++tl).set pre.length v=(pre++[v])++mid++tl:=by
   rw[List.append_assoc,List.set_append_right _ _ (by omega)];simp
  rw[hset] at h';have:=Qt q vs w' _ (pre++[v]) mid tl K h' (Kb hlt) (by simpa using hm) (λw2 h2=>hK w2 (by simpa using h2));simpa using this
theorem Ams(q:Nat){e sz by_:Nat}{z:List Value}{s:Sl}{cs:List Value}{n:Nat}{new:World->Option (List Value)}{vs:List Value}{K:Sl->WP}(h:Ab W0 w L)(hq:L[q]? = some (Mq sz s cs))
  (hnew:new w=some vs) (hok:SW vs=true) (hvl:vs.length=n*sz) (hz:z.length=sz) (hby:(s.n+n)*by_<=140737488355328)
  (hK:∀s' w',s'.n=s.n+n->s'.n<=s'.c->(s'.c=s.c/\s'.a=s.a\/s.n+n>s.c)->Ab W0 w' (L.set q (Mq sz s' (cs++vs)))->K s' w'):AU e sz by_ z s n new K w:=by
 have hlt:=(List.getElem?_eq_some_iff.1 hq).1;obtain⟨hl,hn⟩:=IN h hq;refine⟨vs,hnew,hok,?_⟩
 by_cases hle:s.n+n<=s.c
 ·rw[if_pos hle];cases ha:s.a with
  | none=>
   obtain⟨g,_,_,hd⟩:=h.get hq;rcases hd with⟨_,hn0,hc0⟩|⟨b,o,pre,tl,hsa,_⟩
   ·have hn1:n=0:=by omega
    subst hn1;have hv:vs=[]:=List.length_eq_zero_iff.1 (by simpa using hvl);subst hv;show K ⟨none,s.n+0,s.c⟩ w;refine hK _ w rfl (by simp;omega) (.inl ⟨rfl,ha.symm⟩) ?_
    refine h.turn hq λg hg=>?_;obtain⟨⟨h1,h2⟩,h3⟩:=hg;refine⟨⟨by simpa using h1,by simpa using h2⟩,.inl ⟨rfl,by simpa using hn0,hc0⟩⟩
   ·rw[hsa] at ha;cases ha
  | some a=>
   obtain⟨b,o,hao⟩:∃b o,a=⟨b,o,none⟩:=by
    obtain⟨g,_,_,hd⟩:=h.get hq;rcases hd with⟨hd,_⟩|⟨b,o,pre,tl,hsa,_⟩
    ·rw[hd] at ha;cases ha
    ·rw[hsa] at ha;cases ha;exact⟨b,o,rfl⟩
   subst hao;obtain⟨pre,tl,hp,_,_,ht,h'⟩:=h.openS hq ha;subst hp;have htl:n*sz<=tl.length:=Nat.le_trans (Nat.mul_le_mul_right _ (by omega)) ht;have hsplit:pre++cs++tl=(pre++cs)++tl.take (n*sz)++tl.drop (n*sz):=by simp
   rw[hsplit] at h';show sts vs b (pre.length+s.n*sz) _ w;have:=Qt (W0:=W0) q vs w _ (pre++cs) (tl.take (n*sz)) (tl.drop (n*sz)) (K ⟨s.a,s.n+n,s.c⟩) h' (Kb hlt) (by simp[hvl];omega) (λw' h2=>by
    refine hK _ w' rfl (by simpa using hle) (.inl ⟨rfl,rfl⟩) ?_;have h3:=h2.shutS (q:=q) (s:=⟨s.a,s.n+n,s.c⟩) (sz:=sz) (pre:=pre) (cs:=cs++vs) (tl:=tl.drop (n*sz)) (b:=b) (o:=pre.length) (by have:=Kb (L:=L.set q (blk b (pre++cs++List.take (n*sz) tl++List.drop (n*sz) tl))) (q:=q) (p:=blk b (pre++cs++vs++tl.drop (n*sz))) (by simpa using hlt);simpa using this) ha rfl
     (by simp[hl,hvl,Nat.add_mul]) (by simpa using hle) (by
      simp only[List.length_drop];have h5:(s.c-(s.n+n))*sz+n*sz=(s.c-s.n)*sz:=by rw[<- Nat.add_mul];congr 1;omega
      omega)
    simpa using h3)
   rw[ha] at this;simpa[hl] using this
 ·rw[if_neg hle];refine⟨growslice_fits (by omega) hby,cs,A7z q h hq,λN hN=>?_⟩;refine hK _ _ rfl (by simpa using hN) (.inr (by omega)) ?_;have h1:=(h.drew).focus hq;have h2:=(h1.drop).alloc (cs:=cs++vs++DE z (N-(s.n+n))) (T:=e);have h3:=Ab.back (q:=q) hq h2;have h4:=h3.turn (q:=q) (p':=Mq sz ⟨some ⟨w.heap.size,0,none⟩,s.n+n,N⟩ (cs++vs)) (Kb hlt) λg hg=>
   ⟨⟨by simp[hl,hvl,Nat.add_mul],hN⟩,.inr ⟨_,0,[],DE z (N-(s.n+n)),rfl,rfl,by simpa using hg,by rw[Fb,hz];exact Nat.le_refl _⟩⟩
  simpa using h4
theorem Bad{sz:Nat}(h:Ab W0 w L):Ab W0 w (Mq sz ⟨none,0,0⟩ []::L):=
 ⟨h.os,h.out,λ_=>none,DM w,(λ_ _ hx=>by cases hx),Fh.refl _,λ_=>.inl rfl,⟨⟨by simp,by simp⟩,.inl ⟨rfl,rfl,rfl⟩⟩,h.st⟩
theorem E2{e by_ sz:Nat}{z:List Value}{l c:Int}{K:Sl->WP}(h:Ab W0 w L)(hz:z.length=sz)(h0:0<=l)(h1:l<=c)(h2:c<=4611686018427387904)(h3:(by_:Int)*c<=281474976710656)
  (hK:∀s w',s.n=l.toNat->s.c=c.toNat->s.a≠none->Ab W0 w' (Mq sz s (DE z l.toNat)::L)->K s w'):Ht e by_ z l c K w:=by
 refine⟨⟨h0,h1,h2,h3⟩,?_⟩;refine Ah h λb w' h'=>hK _ w' rfl rfl (by simp) ?_;have hsplit:DE z c.toNat=DE z l.toNat++DE z (c.toNat-l.toNat):=by
  have:∀a b,DE z (a+b)=DE z a++DE z b:=by
   intro a b
   induction a with
   | zero=>simp[DE]
   | succ a ih=>rw[Nat.succ_add];simp[DE,ih]
  rw[<- this];congr 1;omega
 rw[hsplit] at h';exact h'.turn (q:=0) rfl λg hg=>⟨⟨by rw[Fb,hz],by simp;omega⟩,.inr ⟨b,0,[],DE z (c.toNat-l.toNat),rfl,rfl,by simpa using hg,by rw[Fb,hz];exact Nat.le_refl _⟩⟩
variable{P:Program}{f:FuncId}{args:List Value}
theorem Ar{K:WP}{R:Ending->World->Prop}(hC:Calls P f args.toArray w R)(hR:∀e w',R e w'->e = .returned (.tuple #[])/\K w'):XI P f args K w:=hC.mono hR
theorem An{k:CK}{K:k.ty->WP}{R:Ending->World->Prop}(hC:Calls P f args.toArray w R)(hR:∀e w',R e w'->∃x,e = .returned (k.val x)/\K x w'):call1 k P f args K w:=hC.mono hR
theorem AH{k l:CK}{K:k.ty->l.ty->WP}{R:Ending->World->Prop}(hC:Calls P f args.toArray w R)(hR:∀e w',R e w'->∃x y,e = .returned (.tuple #[k.val x,l.val y])/\K x y w') :
  Hd k l P f args K w:=hC.mono hR
end
end Go.Hb
namespace Go.Hb
def upd{α:Type}(f:Nat->α)(a:Nat)(b:α):Nat->α:=λx=>if x=a then b else f x
theorem Gg{α:Type}(f:Nat->α)(a:Nat)(b:α):upd f a b a=b:=by simp[upd]
theorem BN{α:Type}{f:Nat->α}{a:Nat}{b:α}{x:Nat}(h:x≠a):upd f a b x=f x:=by simp[upd,h]
def EE(nx pv:Nat->Nat):List Nat->Prop
 | []=>True
 | [_]=>True
 | x::y::t=>nx x=y/\pv y=x/\EE nx pv (y::t)
variable{nx pv nx' pv':Nat->Nat}
theorem EE.mono:∀{w:List Nat},EE nx pv w->(∀x∈w.dropLast,nx' x=nx x)->(∀y∈w.tail,pv' y=pv y)->EE nx' pv' w
 | [],_,_,_=>trivial
 | [_],_,_,_=>trivial
 | x::y::t,⟨h1,h2,h3⟩,ha,hb=>by
  refine⟨by rw[ha x (by simp)];exact h1,by rw[hb y (by simp)];exact h2,h3.mono (λz hz=>ha z ?_) λz hz=>hb z ?_⟩
  ·simp only[List.dropLast_cons_cons];exact List.mem_cons_of_mem _ hz
  ·simp only[List.tail_cons];exact List.mem_cons_of_mem _ hz
theorem EE.append:∀{a b:List Nat}{x:Nat},EE nx pv (a++x::b)↔EE nx pv (a++[x])/\EE nx pv (x::b)
 | [],b,x=>by simp[EE]
 | [y],b,x=>by simp[EE,and_assoc]
 | y::z::t,b,x=>by
  have:=EE.append (a:=z::t) (b:=b) (x:=x);simp only[List.cons_append,EE] at this ⊢;rw[this];simp[and_assoc]
def Ej(nx pv:Nat->Nat)(ord:List Nat):Prop:=EE nx pv (0::(ord++[0]))
theorem Xu{ord:List Nat}(h:Ej nx pv ord):nx 0=ord.headD 0:=by
 cases ord with
 | nil=>exact h.1
 | cons x t=>exact h.1
theorem Ab0{ord:List Nat}(h:Ej nx pv ord):pv 0=ord.getLastD 0:=by
 rcases List.eq_nil_or_concat ord with rfl|⟨l,x,rfl⟩
 ·exact h.2.1
 ·have e:0::((l++[x])++[0])=(0::l)++x::[0]:=by simp
  unfold Ej at h;simp only[List.concat_eq_append] at h ⊢;rw[e,EE.append] at h;rw[h.2.2.1];simp[List.getLastD_eq_getLast?]
theorem Kc{l1 l2:List Nat}{x:Nat}(h:Ej nx pv (l1++x::l2)):nx x=l2.headD 0/\pv x=l1.getLastD 0:=by
 have e:0::((l1++x::l2)++[0])=(0::l1)++x::(l2++[0]):=by simp
 unfold Ej at h;rw[e,EE.append] at h;refine⟨?_,?_⟩
 ·cases l2 with
  | nil=>exact h.2.1
  | cons y t=>exact h.2.1
 ·rcases List.eq_nil_or_concat l1 with rfl|⟨l,y,rfl⟩
  ·exact h.1.2.1
  ·have e2:0::(l++[y])++[x]=(0::l)++y::[x]:=by simp
   simp only[List.concat_eq_append] at h ⊢;rw[e2,EE.append] at h;rw[h.1.2.2.1];simp[List.getLastD_eq_getLast?]
theorem Agd{l1 l2:List Nat}{x:Nat}(h:Ej nx pv (l1++l2))(hx:x∉0::(l1++l2))(hn:(0::(l1++l2)).Nodup) :
  Ej (upd (upd nx x (l2.headD 0)) (l1.getLastD 0) x) (upd (upd pv x (l1.getLastD 0)) (l2.headD 0) x) (l1++x::l2):=by
 obtain⟨p,A,hA⟩:∃p A,0::l1=A++[p]:=⟨(0::l1).getLast (by simp),(0::l1).dropLast,(List.dropLast_concat_getLast (by simp)).symm⟩;obtain⟨n,B,hB⟩:∃n B,l2++[0]=n::B:=by
  cases l2 with
  | nil=>exact⟨0,[],rfl⟩
  | cons y t=>exact⟨y,t++[0],rfl⟩
 have hp:l1.getLastD 0=p:=by
  have:=congrArg (λl=>l.getLastD 0) hA;simp only[List.getLastD_cons] at this;rw[this];simp[List.getLastD_eq_getLast?]
 have hnn:l2.headD 0=n:=by
  cases l2 with
  | nil=>simp at hB;simp[hB.1]
  | cons y t=>simp at hB;simp[hB.1]
 rw[hp,hnn];have hw:0::((l1++l2)++[0])=A++p::(n::B):=by
  have:0::((l1++l2)++[0])=(0::l1)++(l2++[0]):=by simp
  rw[this,hA,hB];simp
 have hw':0::((l1++x::l2)++[0])=A++p::(x::(n::B)):=by
  have:0::((l1++x::l2)++[0])=(0::l1)++x::(l2++[0]):=by simp
  rw[this,hA,hB];simp
 unfold Ej at h ⊢;rw[hw] at h;rw[hw'];obtain⟨ha,hb⟩:=EE.append.1 h;obtain⟨_,_,hc⟩:=hb;have hd1:(A++p::(n::B).dropLast).Nodup:=by
  have:(0::((l1++l2)++[0])).dropLast=0::(l1++l2):=by
   rw[show 0::((l1++l2)++[0])=(0::(l1++l2))++[0] by simp,List.dropLast_concat]
  rw[hw,List.dropLast_append_of_ne_nil (by simp)] at this;rw[<- this] at hn;simpa using hn
 have hd2:((A++p::(n::B)).tail).Nodup:=by
  rw[<- hw];simp only[List.tail_cons];rw[List.nodup_append];simp only[List.nodup_cons] at hn;exact⟨hn.2,by simp,λa ha b hb=>by simp at hb;subst hb;intro hab;subst hab;exact hn.1 ha⟩
 have hx1:x∉A++p::(n::B):=by
  rw[<- hw];simp only[List.mem_cons,List.mem_append,not_or] at hx ⊢;exact⟨hx.1,⟨⟨hx.2.1,hx.2.2⟩,hx.1,by simp⟩⟩
 have hxp:x≠p:=λe=>hx1 (by simp[e]);have hxn:x≠n:=λe=>hx1 (by simp[e]);rw[EE.append];refine⟨ha.mono (λy hy=>?_) (λy hy=>?_),?_⟩
 ·rw[List.dropLast_concat] at hy;have hyp:y≠p:=by
   intro e;subst e
   rw[List.nodup_append] at hd1;exact hd1.2.2 y hy y (by simp) rfl
  have hyx:y≠x:=by rintro rfl;exact hx1 (by simp[hy])
  rw[BN hyp,BN hyx]
 ·have hyn:y≠n:=by
   rintro rfl;cases A with
   | nil=>simp at hy
   | cons a A'=>
    simp only[List.cons_append,List.tail_cons] at hy hd2;rw[List.nodup_append] at hd2;rcases List.mem_append.1 hy with hy|hy
    ·exact hd2.2.2 y hy y (by simp) rfl
    ·simp at hy;subst hy;simp at hd2
  have hyx:y≠x:=by
   rintro rfl;exact hx1 (by
    have:=List.mem_of_mem_tail hy;rcases List.mem_append.1 this with h|h
    ·simp[h]
    ·simp at h;simp[h])
  rw[BN hyn,BN hyx]
 refine⟨Gg _ _ _,?_,?_⟩
 ·rw[BN hxn,Gg]
 refine⟨?_,Gg _ _ _,hc.mono (λy hy=>?_) (λy hy=>?_)⟩
 ·rw[BN hxp,Gg]
 ·have hyp:y≠p:=by
   rintro rfl;rw[List.nodup_append] at hd1;simp only[List.nodup_cons] at hd1;exact hd1.2.1.1 hy
  have hyx:y≠x:=by
   rintro rfl;exact hx1 (by have:=(List.dropLast_sublist _).subset hy;simp at this;rcases this with h|h <;> simp[h])
  rw[BN hyp,BN hyx]
 ·simp only[List.tail_cons] at hy;have hyn:y≠n:=by
   rintro rfl;cases A with
   | nil=>
    simp only[List.nil_append,List.tail_cons,List.nodup_cons] at hd2;exact hd2.1 hy
   | cons a A'=>
    simp only[List.cons_append,List.tail_cons] at hd2;rw[List.nodup_append] at hd2;simp only[List.nodup_cons] at hd2;exact hd2.2.1.2.1 hy
  have hyx:y≠x:=by rintro rfl;exact hx1 (by simp[hy])
  rw[BN hyn,BN hyx]
theorem Ab1{l1 l2:List Nat}{x:Nat}(h:Ej nx pv (l1++x::l2))(hn:(0::(l1++x::l2)).Nodup) :
  Ej (upd nx (l1.getLastD 0) (l2.headD 0)) (upd pv (l2.headD 0) (l1.getLastD 0)) (l1++l2):=by
 obtain⟨p,A,hA⟩:∃p A,0::l1=A++[p]:=⟨(0::l1).getLast (by simp),(0::l1).dropLast,(List.dropLast_concat_getLast (by simp)).symm⟩;obtain⟨n,B,hB⟩:∃n B,l2++[0]=n::B:=by
  cases l2 with
  | nil=>exact⟨0,[],rfl⟩
  | cons y t=>exact⟨y,t++[0],rfl⟩
 have hp:l1.getLastD 0=p:=by
  have:=congrArg (λl=>l.getLastD 0) hA;simp only[List.getLastD_cons] at this;rw[this];simp[List.getLastD_eq_getLast?]
 have hnn:l2.headD 0=n:=by
  cases l2 with
  | nil=>simp at hB;simp[hB.1]
  | cons y t=>simp at hB;simp[hB.1]
 rw[hp,hnn];have hw:0::((l1++l2)++[0])=A++p::(n::B):=by
  have:0::((l1++l2)++[0])=(0::l1)++(l2++[0]):=by simp
  rw[this,hA,hB];simp
 have hw':0::((l1++x::l2)++[0])=A++p::(x::(n::B)):=by
  have:0::((l1++x::l2)++[0])=(0::l1)++x::(l2++[0]):=by simp
  rw[this,hA,hB];simp
 unfold Ej at h ⊢;rw[hw'] at h;rw[hw];obtain⟨ha,hb⟩:=EE.append.1 h;obtain⟨_,_,_,_,hc⟩:=hb;have hn':(0::(l1++l2)).Nodup:=by
  simp only[List.nodup_cons,List.mem_append,List.mem_cons,not_or,List.nodup_append] at hn ⊢;exact⟨⟨hn.1.1,hn.1.2.2⟩,hn.2.1,hn.2.2.1.2,λa ha b hb=>hn.2.2.2 a ha b (.inr hb)⟩
 have hd1:(A++p::(n::B).dropLast).Nodup:=by
  have:(0::((l1++l2)++[0])).dropLast=0::(l1++l2):=by
   rw[show 0::((l1++l2)++[0])=(0::(l1++l2))++[0] by simp,List.dropLast_concat]
  rw[hw,List.dropLast_append_of_ne_nil (by simp)] at this;rw[<- this] at hn';simpa using hn'
 have hd2:((A++p::(n::B)).tail).Nodup:=by
  rw[<- hw];simp only[List.tail_cons];rw[List.nodup_append];simp only[List.nodup_cons] at hn';exact⟨hn'.2,by simp,λa ha b hb=>by simp at hb;subst hb;intro hab;subst hab;exact hn'.1 ha⟩
 rw[EE.append];refine⟨ha.mono (λy hy=>?_) (λy hy=>?_),Gg _ _ _,Gg _ _ _,hc.mono (λy hy=>?_) (λy hy=>?_)⟩
 ·rw[List.dropLast_concat] at hy;have hyp:y≠p:=by
   intro e;subst e
   rw[List.nodup_append] at hd1;exact hd1.2.2 y hy y (by simp) rfl
  rw[BN hyp]
 ·have hyn:y≠n:=by
   rintro rfl;cases A with
   | nil=>simp at hy
   | cons a A'=>
    simp only[List.cons_append,List.tail_cons] at hy hd2;rw[List.nodup_append] at hd2;rcases List.mem_append.1 hy with hy|hy
    ·exact hd2.2.2 y hy y (by simp) rfl
    ·simp at hy;subst hy;simp at hd2
  rw[BN hyn]
 ·have hyp:y≠p:=by
   rintro rfl;rw[List.nodup_append] at hd1;simp only[List.nodup_cons] at hd1;exact hd1.2.1.1 hy
  rw[BN hyp]
 ·simp only[List.tail_cons] at hy;have hyn:y≠n:=by
   rintro rfl;cases A with
   | nil=>
    simp only[List.nil_append,List.tail_cons,List.nodup_cons] at hd2;exact hd2.1 hy
   | cons a A'=>
    simp only[List.cons_append,List.tail_cons] at hd2;rw[List.nodup_append] at hd2;simp only[List.nodup_cons] at hd2;exact hd2.2.1.2.1 hy
  rw[BN hyn]
end Go.Hb
namespace Go.Hb
theorem Aam{k:Nat}:∀{rows:List (List Value)},(∀r∈rows,r.length=k)->rows.flatten.length=rows.length*k
 | [],_=>by simp
 | r::rows,h=>by
  simp only[List.flatten_cons,List.length_append,List.length_cons];rw[h r (.head _),Aam λx hx=>h x (.tail _ hx),Nat.add_mul,Nat.one_mul,Nat.add_comm]
theorem flat_get{k:Nat}:∀{rows:List (List Value)}{i j:Nat},(∀r∈rows,r.length=k)->j<k->rows.flatten[i*k+j]? = (rows[i]?).bind (·[j]?)
 | [],i,j,_,_=>by simp
 | r::rows,0,j,h,hj=>by
  have:=h r (.head _);simp only[List.flatten_cons,Nat.zero_mul,Nat.zero_add,List.getElem?_cons_zero,Option.bind_some];rw[List.getElem?_append_left (by omega)]
 | r::rows,i+1,j,h,hj=>by
  have:=h r (.head _);simp only[List.flatten_cons,List.getElem?_cons_succ];rw[List.getElem?_append_right (by rw[Nat.add_mul];omega),<- flat_get (λx hx=>h x (.tail _ hx)) hj]
  congr 1;rw[Nat.add_mul];omega
theorem flat_set{k:Nat}:∀{rows:List (List Value)}{i j:Nat}{v:Value}{r:List Value},(∀r∈rows,r.length=k)->j<k->rows[i]? = some r->rows.flatten.set (i*k+j) v=(rows.set i (r.set j v)).flatten
 | [],i,j,_,_,_,_,hr=>by simp at hr
 | r0::rows,0,j,v,r,h,hj,hr=>by
  have:=h r0 (.head _);simp only[List.getElem?_cons_zero,Option.some.injEq] at hr;subst hr;simp only[List.flatten_cons,Nat.zero_mul,Nat.zero_add,List.set_cons_zero];rw[List.set_append_left _ _ (by omega)]
 | r0::rows,i+1,j,v,r,h,hj,hr=>by
  have:=h r0 (.head _);simp only[List.getElem?_cons_succ] at hr;simp only[List.flatten_cons,List.set_cons_succ];rw[List.set_append_right _ _ (by rw[Nat.add_mul];omega),<- flat_set (λx hx=>h x (.tail _ hx)) hj hr]
  congr 2;rw[Nat.add_mul];omega
structure Lk where
 v:Value
 prev:Nat
 next:Nat
 there:Bool
def Lk.cells(l:Lk):List Value:=[l.v,.int .i64 l.prev,.int .i64 l.next,.bool l.there]
instance:Inhabited Lk:=⟨⟨unk,0,0,false⟩⟩
def E3(ls:List Lk)(h:Nat):Nat:=(ls.getD h default).next
def E4(ls:List Lk)(h:Nat):Nat:=(ls.getD h default).prev
def Fy(ls:List Lk)(h p:Nat):List Lk:=ls.set h { ls.getD h default with prev:=p }
def Fx(ls:List Lk)(h n:Nat):List Lk:=ls.set h { ls.getD h default with next:=n }
theorem Fq{ls:List Lk}{h x:Nat}{l:Lk}(hl:h<ls.length):(ls.set h l).getD x default=if x=h then l else ls.getD x default:=by
 rw[List.getD_eq_getElem?_getD,List.getElem?_set]
 by_cases e:h=x
 ·subst e;simp[hl]
 ·rw[if_neg e,if_neg (Ne.symm e),List.getD_eq_getElem?_getD]
theorem CR(ls:List Lk)(h p:Nat):(Fy ls h p).length=ls.length:=by simp[Fy]
theorem Cs(ls:List Lk)(h p:Nat):(Fx ls h p).length=ls.length:=by simp[Fx]
theorem KN{ls:List Lk}{h n:Nat}(hl:h<ls.length):E3 (Fx ls h n)=upd (E3 ls) h n:=by
 funext x;unfold E3 Fx upd;rw[Fq hl];split <;> rfl
theorem KS{ls:List Lk}{h n:Nat}(hl:h<ls.length):E4 (Fx ls h n)=E4 ls:=by
 funext x;unfold E4 Fx;rw[Fq hl];split
 ·rename_i e;subst e;rfl
 ·rfl
theorem KO{ls:List Lk}{h n:Nat}(hl:h<ls.length):E3 (Fy ls h n)=E3 ls:=by
 funext x;unfold E3 Fy;rw[Fq hl];split
 ·rename_i e;subst e;rfl
 ·rfl
theorem KT{ls:List Lk}{h n:Nat}(hl:h<ls.length):E4 (Fy ls h n)=upd (E4 ls) h n:=by
 funext x;unfold E4 Fy upd;rw[Fq hl];split <;> rfl
def DV(ls:List Lk)(x:Nat):Value×Bool:=((ls.getD x default).v,(ls.getD x default).there)
theorem I9{ls:List Lk}{h n:Nat}(hl:h<ls.length):DV (Fx ls h n)=DV ls:=by
 funext x;unfold DV Fx;rw[Fq hl];split
 ·rename_i e;subst e;rfl
 ·rfl
theorem IA{ls:List Lk}{h n:Nat}(hl:h<ls.length):DV (Fy ls h n)=DV ls:=by
 funext x;unfold DV Fy;rw[Fq hl];split
 ·rename_i e;subst e;rfl
 ·rfl
structure JE(ls:List Lk)(free:List Nat)(row:List (Nat×Value)):Prop where
 pos:0<ls.length
 all:∀h,(h∈row.map (·.1)\/h∈free)↔(0<h/\h<ls.length)
 nodup:(row.map (·.1)++free).Nodup
 stands:Ej (E3 ls) (E4 ls) (row.map (·.1))
 vals:∀e∈row,DV ls e.1=(e.2,true)
 gone:∀h∈free,(DV ls h).2=false
 zero:(DV ls 0).2=false
end Go.Hb
namespace Go.Hb
structure Rec(α:Type) where
 sz:Nat
 cells:α->List Value
 len:∀a,(cells a).length=sz
def Rec.int(k:IntKind):Rec Int:=⟨1,λn=>[.int k n],λ_=>rfl⟩
def Rec.str:Rec BA:=⟨1,λs=>[.string s],λ_=>rfl⟩
def Rec.ptr:Rec Nat:=⟨1,λb=>[.pointer (some ⟨b,0,none⟩)],λ_=>rfl⟩
def Rec.flat{α:Type}(E:Rec α)(rows:List α):List Value:=(rows.map E.cells).flatten
section
variable{α:Type}{E:Rec α}
theorem Rec.rows(E:Rec α){rows:List α}:∀r∈rows.map E.cells,r.length=E.sz:=by
 intro r hr;simp only[List.mem_map] at hr;obtain⟨l,_,rfl⟩:=hr;exact E.len l
theorem Rec.flat_length(E:Rec α)(rows:List α):(E.flat rows).length=rows.length*E.sz:=by
 unfold Rec.flat;rw[Aam E.rows];simp
theorem Rec.flat_get{rows:List α}{i j:Nat}{a:α}(h:rows[i]? = some a)(hj:j<E.sz):(E.flat rows)[i*E.sz+j]? = (E.cells a)[j]?:=by
 unfold Rec.flat;rw[Hb.flat_get E.rows hj,List.getElem?_map,h];rfl
theorem Rec.flat_set{rows:List α}{i j:Nat}{a a':α}{v:Value}(h:rows[i]? = some a)(hj:j<E.sz)(hl:(E.cells a).set j v=E.cells a'):(E.flat rows).set (i*E.sz+j) v=E.flat (rows.set i a'):=by
 unfold Rec.flat;rw[Hb.flat_set (r:=E.cells a) E.rows hj (by rw[List.getElem?_map,h];rfl),hl,List.map_set]
theorem Rec.flat_append(E:Rec α)(r1 r2:List α):E.flat (r1++r2)=E.flat r1++E.flat r2:=by simp[Rec.flat]
theorem Rec.flat_one(E:Rec α)(a:α):E.flat [a]=E.cells a:=by simp[Rec.flat]
theorem Rec.flat_nil(E:Rec α):E.flat []=[]:=rfl
end
def recs{α:Type}(E:Rec α)(s:Sl)(rows:List α):HP:=Mq E.sz s (E.flat rows)
def reca{α:Type}(E:Rec α)(b o:Nat)(s:Sl)(rows:List α):HP:=λh=>s.a=some ⟨b,o,none⟩/\recs E s rows h
class At(L:List HP)(b:Nat)(p:outParam HP)(F:outParam (HP->List HP)):Prop where
 pos:∃M,L.Perm (p::M)/\∀x,(F x).Perm (x::M)
class Km(L:List HP)(s:Sl)(p:outParam HP)(F:outParam (HP->List HP)):Prop where
 pos:∃M,L.Perm (p::M)/\∀x,(F x).Perm (x::M)
class AtO(L:List HP)(W:outParam World):Prop where
 pos:∃M,L.Perm (old W::M)
section
variable{L:List HP}{F:HP->List HP}{p c:HP}{b:Nat}{s:Sl}{W W0 w:World}
instance (priority:=low) At.there [h:At L b p F]:At (c::L) b p (λx=>c::F x):=⟨by
 obtain⟨M,h1,h2⟩:=h.pos;exact⟨c::M,(List.Perm.cons c h1).trans (List.Perm.swap _ _ _),λx=>(List.Perm.cons c (h2 x)).trans (List.Perm.swap _ _ _)⟩⟩
instance (priority:=low) Km.there [h:Km L s p F]:Km (c::L) s p (λx=>c::F x):=⟨by
 obtain⟨M,h1,h2⟩:=h.pos;exact⟨c::M,(List.Perm.cons c h1).trans (List.Perm.swap _ _ _),λx=>(List.Perm.cons c (h2 x)).trans (List.Perm.swap _ _ _)⟩⟩
instance (priority:=low) AtO.there [h:AtO L W]:AtO (c::L) W:=⟨by
 obtain⟨M,h1⟩:=h.pos;exact⟨c::M,(List.Perm.cons c h1).trans (List.Perm.swap _ _ _)⟩⟩
instance AtO.here:AtO (old W::L) W:=⟨L,List.Perm.refl _⟩
theorem DU:∃M,(p::L).Perm (p::M)/\∀x,((λx=>x::L) x).Perm (x::M):=⟨L,List.Perm.refl _,λ_=>List.Perm.refl _⟩
instance At.blk{cs:List Value}:At (blk b cs::L) b (blk b cs) (λx=>x::L):=⟨DU⟩
instance At.reca{α:Type}{E:Rec α}{o:Nat}{rows:List α}:At (reca E b o s rows::L) b (reca E b o s rows) (λx=>x::L):=⟨DU⟩
instance Km.recs{α:Type}{E:Rec α}{rows:List α}:Km (recs E s rows::L) s (recs E s rows) (λx=>x::L):=⟨DU⟩
instance Km.reca{α:Type}{E:Rec α}{b o:Nat}{rows:List α}:Km (Hb.reca E b o s rows::L) s (Hb.reca E b o s rows) (λx=>x::L):=⟨DU⟩
theorem At.turn{p':HP}[hA:At L b p F](h:Ab W0 w L)(hp:∀g,p g->p' g):Ab W0 w (F p'):=by
 obtain⟨M,h1,h2⟩:=hA.pos;have h3:=h.perm h1;exact(h3.turn (q:=0) rfl hp).perm (h2 p').symm
theorem At.call1{P:Program}{f:FuncId}{args:Array Value}{e0:Ending}{p':HP}[hA:At L b p F](h:Ab W0 w L)
  (hC:∀M,Ab W0 w (p::M)->Calls P f args w λe w'=>e=e0/\Ab W0 w' (p'::M)):Calls P f args w λe w'=>e=e0/\Ab W0 w' (F p'):=by
 obtain⟨M,h1,h2⟩:=hA.pos;exact(hC M (h.perm h1)).mono λe w' ⟨hr,hs⟩=>⟨hr,hs.perm (h2 p').symm⟩
theorem At.one[hA:At L b p F](h:Ab W0 w L){C:Prop}(hC:∀M,Ab W0 w (p::M)->(∀w' p',Ab W0 w' (p'::M)->Ab W0 w' (F p'))->C):C:=by
 obtain⟨M,h1,h2⟩:=hA.pos;exact hC M (h.perm h1) λw' p' h=>h.perm (h2 p').symm
theorem At.oneX[hA:At L b p F](h:Ab W0 w L){C:Prop}(hC:∀M,Ab W0 w (p::M)->(∀w' p' (X:List HP),Ab W0 w' (p'::(X++M))->Ab W0 w' (X++F p'))->C):C:=by
 obtain⟨M,h1,h2⟩:=hA.pos;exact hC M (h.perm h1) λw' p' X h=>h.perm ((List.perm_middle.symm).trans (List.Perm.append_left X (h2 p').symm))
theorem Km.one[hA:Km L s p F](h:Ab W0 w L){C:Prop}(hC:∀M,Ab W0 w (p::M)->(∀w' p',Ab W0 w' (p'::M)->Ab W0 w' (F p'))->C):C:=by
 obtain⟨M,h1,h2⟩:=hA.pos;exact hC M (h.perm h1) λw' p' h=>h.perm (h2 p').symm
class Ai9(cs:List Value)(o:Nat)(v:Value)(cs':outParam (List Value)):Prop where
 eq:cs.set o v=cs'
 lt:o<cs.length
instance Ai9.zero{x v:Value}{l:List Value}:Ai9 (x::l) 0 v (v::l):=⟨rfl,by simp⟩
instance Ai9.succ{x v:Value}{l l':List Value}{n:Nat}[h:Ai9 l n v l']:Ai9 (x::l) (n+1) v (x::l'):=⟨by rw[<- h.eq];rfl,by have:=h.lt;simp;omega⟩
theorem Ag{k:CK}{o:Nat}{cs:List Value}{x:k.ty}{K:k.ty->WP}(h:Ab W0 w L)[hA:At L b (Hb.blk b cs) F](hK:K x w)(hc:cs[o]? = some (k.val x):=by exact rfl)(hu:k ≠ .any:=by simp):ld k b o K w:=
 At.one (hA:=hA) h λ_ h _=>A9d 0 h rfl hc hK hu
theorem A0{o:Nat}{cs cs':List Value}{v:Value}{K:WP}(h:Ab W0 w L)[hA:At L b (Hb.blk b cs) F][hS:Ai9 cs o v cs'](hK:∀w',Ab W0 w' (F (Hb.blk b cs'))->K w'):st b o v K w:=
 At.one (hA:=hA) h λ_ h hb=>IX 0 h rfl hS.lt λw' h'=>hK w' (hb _ _ (by rw[<- hS.eq];exact h'))
theorem Am{k:CK}{o:Nat}{cs:List Value}{x:k.ty}{K:k.ty->WP}[hA:At L b (Hb.blk b cs) F](hK:K x w)(hc:cs[o]? = some (k.val x):=by exact rfl):WW (λw'=>Ab W0 w' L) k b o K w:=
 GM x (λw' h=>At.one (hA:=hA) h λ_ h _=>(h.cell (q:=0) rfl).trans hc) hK
theorem As{K:(World->Prop)->WP}(h:Ab W0 w L)(hK:∀w1,Ab W0 w1 L->K (λw'=>Ab W0 w' L) w1):A5 K w:=XO (λw'=>Ab W0 w' L) h.drew (hK _ h.drew)
section
variable{α:Type}[Inhabited α]{E:Rec α}{rows:List α}
theorem BV(h:Ab W0 w L)[hA:Km L s (Hb.recs E s rows) F](hpos:0<E.sz:=by decide):s.n=rows.length/\s.n<=s.c:=
 Km.one (hA:=hA) h λ_ h _=>by
  have:=IN (q:=0) h rfl;rw[Rec.flat_length] at this;exact⟨(Nat.eq_of_mul_eq_mul_right hpos this.1).symm,this.2⟩
theorem AK{i:Int}{K:Nat->Nat->WP}(h:Ab W0 w L)[hA:Km L s (Hb.recs E s rows) F]
  (hK:∀b o,Ab W0 w (F (Hb.reca E b o s rows))->K b o w) (h0:0<=i:=by first|omega|(simp only[List.length_set,List.length_append,List.length_cons,List.length_nil,List.length_take,List.length_drop,List.length_map,Int.toNat_natCast] <;> omega)|fail) (h1:i<(s.n:Int):=by first|omega|(simp only[List.length_set,List.length_append,List.length_cons,List.length_nil,List.length_take,List.length_drop,List.length_map,Int.toNat_natCast] <;> omega)|fail):CB s.a s.n i K w:=
 Km.one (hA:=hA) h λ_ h hb=>A61 0 h rfl h0 h1 λb o ha=>hK b o (hb _ _ (h.turn (q:=0) rfl λ_ hg=>⟨ha,hg⟩))
theorem BT{b o:Nat}{i:Int}{K:Nat->Nat->WP}(h:Ab W0 w L)[hA:Km L s (Hb.reca E b o s rows) F](hK:K b o w)(h0:0<=i:=by first|omega|(simp only[List.length_set,List.length_append,List.length_cons,List.length_nil,List.length_take,List.length_drop,List.length_map,Int.toNat_natCast] <;> omega)|fail)(h1:i<(s.n:Int):=by first|omega|(simp only[List.length_set,List.length_append,List.length_cons,List.length_nil,List.length_take,List.length_drop,List.length_map,Int.toNat_natCast] <;> omega)|fail):CB s.a s.n i K w:=
 Km.one (hA:=hA) h λ_ h _=>⟨b,o,h.pure (q:=0) rfl λ_ hg=>hg.1,⟨h0,h1⟩,hK⟩
theorem Vl{b o i j:Nat}{a:α}{M:List HP}(h:Ab W0 w (Hb.reca E b o s rows::M))(hi:rows[i]? = some a)(hj:j<E.sz):w.cell? ⟨b,o+(i*E.sz+j),none⟩=(E.cells a)[j]?:=by
 have ha:s.a=some ⟨b,o,none⟩:=h.pure (q:=0) rfl λ_ hg=>hg.1;have h':=h.turn (q:=0) (p':=Hb.recs E s rows) rfl λ_ hg=>hg.2;have hlt:=(List.getElem?_eq_some_iff.1 hi).1;have:=Sv (q:=0) (j:=i*E.sz+j) h' rfl ha (by rw[Rec.flat_length];calc _<i*E.sz+E.sz:=by omega
  _=(i+1)*E.sz:=by rw[Nat.add_mul,Nat.one_mul]
  _<=_:=Nat.mul_le_mul_right _ (by omega))
 rw[this,Rec.flat_get hi hj]
theorem getD_some{i:Nat}(h:i<rows.length):rows[i]? = some (rows.getD i default):=by
 rw[List.getD_eq_getElem?_getD,List.getElem?_eq_getElem h];rfl
theorem Atn{b o i j p:Nat}{k:CK}{x:k.ty}{K:k.ty->WP}(h:Ab W0 w L)[hA:At L b (Hb.reca E b o s rows) F](hp:p=o+(i*E.sz+j))(hi:i<rows.length)
  (hc:(E.cells (rows.getD i default))[j]? = some (k.val x)) (hK:K x w) (hu:k ≠ .any:=by simp):ld k b p K w:=by
 subst hp;refine At.one (hA:=hA) h λ_ h _=>WY ?_ hu hK;rw[Vl h (getD_some hi) (by rw[<- E.len (rows.getD i default)];exact(List.getElem?_eq_some_iff.1 hc).1),hc]
class Acp{α:Type}(E:Rec α)(a:α)(j:Nat)(v:Value)(a':outParam α):Prop where
 eq:(E.cells a).set j v=E.cells a'
 lt:j<E.sz
theorem A8a{b o i j p:Nat}{v:Value}{a':α}{K:WP}(h:Ab W0 w L)[hA:At L b (Hb.reca E b o s rows) F](hp:p=o+(i*E.sz+j))(hi:i<rows.length)
  (hS:(E.cells (rows.getD i default)).set j v=E.cells a') (hj:j<E.sz) (hK:∀w',Ab W0 w' (F (Hb.reca E b o s (rows.set i a')))->K w'):st b p v K w:=by
 subst hp;refine At.one (hA:=hA) h λM h hb=>?_;have ha:s.a=some ⟨b,o,none⟩:=h.pure (q:=0) rfl λ_ hg=>hg.1;have h':=h.turn (q:=0) (p':=Hb.recs E s rows) rfl λ_ hg=>hg.2;refine A8b (q:=0) (j:=i*E.sz+j) h' rfl ha rfl (by rw[Rec.flat_length];calc _<i*E.sz+E.sz:=by omega
  _=(i+1)*E.sz:=by rw[Nat.add_mul,Nat.one_mul]
  _<=_:=Nat.mul_le_mul_right _ (by omega)) λw' h2=>hK w' (hb _ _ ?_)
 rw[Rec.flat_set (getD_some hi) hj hS] at h2;exact h2.turn (q:=0) rfl λ_ hg=>⟨ha,hg⟩
theorem A3f{b o i:Nat}{a':α}{K:WP}(h:Ab W0 w L)[hA:At L b (Hb.reca E b o s rows) F](hi:i<rows.length)
  (hK:∀w',Ab W0 w' (F (Hb.reca E b o s (rows.set i a')))->K w'):sts (E.cells a') b (o+i*E.sz) K w:=by
 refine At.one (hA:=hA) h λM h hb=>?_;have ha:s.a=some ⟨b,o,none⟩:=h.pure (q:=0) rfl λ_ hg=>hg.1;have h':=h.turn (q:=0) (p':=Hb.recs E s rows) rfl λ_ hg=>hg.2;obtain⟨pre,tl,hp,hl,hn,ht,h2⟩:=h'.openS (q:=0) rfl ha;have h2:Ab W0 w (Hb.blk b (pre++E.flat rows++tl)::M):=h2;have hrows:rows=rows.take i++rows[i]::rows.drop (i+1):=by simp
 have hset:rows.set i a'=rows.take i++a'::rows.drop (i+1):=by
  rw[List.set_eq_take_append_cons_drop,if_pos hi]
 have hfl:pre++E.flat rows++tl=(pre++E.flat (rows.take i))++E.cells rows[i]++(E.flat (rows.drop (i+1))++tl):=by
  have hfr:E.flat rows=E.flat (rows.take i)++(E.cells rows[i]++E.flat (rows.drop (i+1))):=by
   have h:=congrArg E.flat hrows;rw[Rec.flat_append] at h;exact h
  rw[hfr];simp only[List.append_assoc]
 have hfs:pre++E.flat (rows.set i a')++tl=(pre++E.flat (rows.take i))++E.cells a'++(E.flat (rows.drop (i+1))++tl):=by
  rw[hset];simp[Rec.flat]
 rw[hfl] at h2;have hpl:(pre++E.flat (rows.take i)).length=o+i*E.sz:=by
  rw[List.length_append,hp,Rec.flat_length,List.length_take,Nat.min_eq_left (by omega)]
 rw[<- hpl];refine Qt 0 (E.cells a') w _ _ _ _ K h2 rfl (by rw[E.len,E.len]) λw' h3=>hK w' (hb _ _ ?_);have h3:Ab W0 w' (Hb.blk b (pre++E.flat (rows.take i)++E.cells a'++(E.flat (rows.drop (i+1))++tl))::M):=h3;rw[<- hfs] at h3;have h4:=h3.shutS (q:=0) (s:=s) (sz:=E.sz) rfl ha hp (by rw[Rec.flat_length,List.length_set,<- Rec.flat_length];exact hl) hn ht
 exact h4.turn (q:=0) rfl λ_ hg=>⟨ha,hg⟩
theorem Agc{b o i p:Nat}{vs:List Value}{a':α}{K K':WP}(h:Ab W0 w L)[hA:At L b (Hb.reca E b o s rows) F](hi:i<rows.length)(ha:E.cells a'=vs)(hp:p=o+i*E.sz)
  (hK:∀w',Ab W0 w' (F (Hb.reca E b o s (rows.set i a')))->K w') (hw:sts vs b p K=K'):K' w:=by
 subst hp hw ha;exact A3f (hA:=hA) h hi hK
theorem Cf{ty by_:Nat}{z:List Value}{b:Nat}{cs:List Value}{a:α}{n:Nat}{K:Sl->WP}{F':HP->List HP}(h:Ab W0 w L)[hA:Km L s (Hb.recs E s rows) F][hB:At L b (Hb.blk b cs) F'](ha:E.cells a=cs)(hn:n=E.sz)
  (hok:SW cs=true) (hz:z.length=E.sz) (hpos:0<E.sz) (hby:(rows.length+1)*by_<=140737488355328)
  (hK:∀s' w',s'.n=rows.length+1->Ab W0 w' (F (Hb.recs E s' (rows++[a])))->K s' w'):AU ty E.sz by_ z s 1 (λw=>F9 w (some ⟨b,0,none⟩) n) K w:=by
 have hnew:F9 w (some ⟨b,0,none⟩) n=some (E.cells a):=by
  refine At.one (hA:=hB) h λ_ h _=>?_;rw[ha];exact A7y 0 h rfl (by rw[hn,<- ha,E.len])
 have hl:=(BV (hA:=hA) h hpos).1;refine Km.one (hA:=hA) h λ_ h hb=>?_;refine Ams 0 (cs:=E.flat rows) (vs:=E.cells a) h rfl hnew (by rw[ha];exact hok) (by rw[E.len];omega) hz (by rw[hl];exact hby) λs' w' h1 h2 _ h3=>hK s' w' (by omega) (hb _ _ ?_)
 rw[<- Rec.flat_one E a,<- Rec.flat_append] at h3;exact h3
theorem DK{ty by_:Nat}{z:List Value}{new:List α}{n:Nat}{K:Sl->WP}{g:World->Option (List Value)}(h:Ab W0 w L)[hA:Km L s (Hb.recs E s rows) F](hnew:g w=some (E.flat new))(hn:n=new.length)
  (hok:SW (E.flat new)=true) (hz:z.length=E.sz) (hpos:0<E.sz) (hby:(rows.length+new.length)*by_<=140737488355328)
  (hK:∀s' w',s'.n=rows.length+new.length->Ab W0 w' (F (Hb.recs E s' (rows++new)))->K s' w'):AU ty E.sz by_ z s n g K w:=by
 have hl:=(BV (hA:=hA) h hpos).1;refine Km.one (hA:=hA) h λ_ h hb=>?_;refine Ams 0 (cs:=E.flat rows) (vs:=E.flat new) h rfl hnew hok (by rw[Rec.flat_length,hn]) hz (by rw[hl,hn];exact hby) λs' w' h1 h2 _ h3=>hK s' w' (by omega) (hb _ _ ?_)
 rw[<- Rec.flat_append] at h3;exact h3
end
theorem Ab.shut(s:Sl){α:Type}{E:Rec α}{b o:Nat}{rows:List α}(h:Ab W0 w L)[hA:Km L s (Hb.reca E b o s rows) F]:Ab W0 w (F (Hb.recs E s rows)):=
 Km.one (hA:=hA) h λM h hb=>hb _ _ (h.turn (q:=0) rfl λ_ hg=>hg.2)
inductive Aco:List HP->HP->List HP->Prop where
 | here {p:HP} {L:List HP}:Aco (p::L) p L
 | hereA {α:Type} {E:Rec α} {b o:Nat} {s:Sl} {rows:List α} {L:List HP}:Aco (Hb.reca E b o s rows::L) (recs E s rows) L
 | there {p c:HP} {L M:List HP}:Aco L p M->Aco (c::L) p (c::M)
theorem Aco.stars{L M:List HP}{p:HP}(h:Aco L p M):∀{g:Ll},stars L g->stars (p::M) g:=by
 induction h with
 | here=>exact λh=>h
 | hereA=>exact λ⟨h1,h2,a,b,c,d,e⟩=>⟨h1,h2,a,b,c,d.2,e⟩
 | there _ ih=>exact λ⟨h1,h2,a,b,c,d,e⟩=>Sx ⟨h1,h2,a,b,c,d,ih e⟩
inductive Td:List HP->List HP->Prop where
 | nil:Td [] []
 | refl (L:List HP):Td L L
 | any (L:List HP):Td L []
 | cons {p:HP} {L M:List HP}:Td L M->Td (p::L) (p::M)
 | reca {α:Type} {E:Rec α} {b o:Nat} {s:Sl} {rows:List α} {L M:List HP}:Td L M->Td (Hb.reca E b o s rows::L) (recs E s rows::M)
 | drop {p:HP} {L M:List HP}:Td L M->Td (p::L) M
 | pull {p:HP} {L L' M:List HP}:Aco L p L'->Td L' M->Td L (p::M)
theorem Td.stars{L M:List HP}(h:Td L M):∀{g:Ll},stars L g->stars M g:=by
 induction h with
 | nil=>exact λh=>h
 | refl L=>exact λh=>h
 | any L=>exact λ_=>trivial
 | cons _ ih=>exact λ⟨h1,h2,a,b,c,d,e⟩=>⟨h1,h2,a,b,c,d,ih e⟩
 | reca _ ih=>exact λ⟨h1,h2,a,b,c,d,e⟩=>⟨h1,h2,a,b,c,d.2,ih e⟩
 | drop _ ih=>exact λ⟨h1,h2,a,b,c,d,e⟩=>La (ih e) b
 | pull hp _ ih=>
  intro g h;obtain⟨h1,h2,a,b,c,d,e⟩:=hp.stars h;exact⟨h1,h2,a,b,c,d,ih e⟩
theorem Ab.imp{M:List HP}(h:Ab W0 w L)(hi:Td L M):Ab W0 w M:=⟨h.os,h.out,hi.stars h.st⟩
theorem Ab.fin{M:List HP}(h:Ab W0 w L)(hi:Td L M:=by first|exact .refl _|((repeat (first|refine .cons ?_|refine .reca ?_|(apply Td.pull;focus ((first|exact .there .here|exact .there .hereA|exact .there (.there .here)|exact .there (.there .hereA)|exact .there (.there (.there .here))|exact .there (.there (.there .hereA))|exact .there (.there (.there (.there .here)))|exact .there (.there (.there (.there .hereA)))|exact .there (.there (.there (.there (.there .here))))|exact .there (.there (.there (.there (.there .hereA))))|exact .there (.there (.there (.there (.there (.there .here)))))|exact .there (.there (.there (.there (.there (.there .hereA)))))|exact .there (.there (.there (.there (.there (.there (.there .here))))))|exact .there (.there (.there (.there (.there (.there (.there .hereA))))))|exact .there (.there (.there (.there (.there (.there (.there (.there .here)))))))|exact .there (.there (.there (.there (.there (.there (.there (.there .hereA)))))))|exact .there (.there (.there (.there (.there (.there (.there (.there (.there .here))))))))|exact .there (.there (.there (.there (.there (.there (.there (.there (.there .hereA))))))))|exact .there (.there (.there (.there (.there (.there (.there (.there (.there (.there .here)))))))))|exact .there (.there (.there (.there (.there (.there (.there (.there (.there (.there .hereA)))))))))|exact .there (.there (.there (.there (.there (.there (.there (.there (.there (.there (.there .here))))))))))|exact .there (.there (.there (.there (.there (.there (.there (.there (.there (.there (.there .hereA))))))))))|exact .there (.there (.there (.there (.there (.there (.there (.there (.there (.there (.there (.there .here)))))))))))|exact .there (.there (.there (.there (.there (.there (.there (.there (.there (.there (.there (.there .hereA))))))))))))))|refine .drop ?_));first|exact .any _|exact .refl _|fail)|fail):Ab W0 w M:=h.imp hi
theorem Ae{M:List HP}{K:WP}(h:Ab W0 w L)(hK:K w)(hi:Td L M:=by first|exact .refl _|((repeat (first|refine .cons ?_|refine .reca ?_|(apply Td.pull;focus ((first|exact .there .here|exact .there .hereA|exact .there (.there .here)|exact .there (.there .hereA)|exact .there (.there (.there .here))|exact .there (.there (.there .hereA))|exact .there (.there (.there (.there .here)))|exact .there (.there (.there (.there .hereA)))|exact .there (.there (.there (.there (.there .here))))|exact .there (.there (.there (.there (.there .hereA))))|exact .there (.there (.there (.there (.there (.there .here)))))|exact .there (.there (.there (.there (.there (.there .hereA)))))|exact .there (.there (.there (.there (.there (.there (.there .here))))))|exact .there (.there (.there (.there (.there (.there (.there .hereA))))))|exact .there (.there (.there (.there (.there (.there (.there (.there .here)))))))|exact .there (.there (.there (.there (.there (.there (.there (.there .hereA)))))))|exact .there (.there (.there (.there (.there (.there (.there (.there (.there .here))))))))|exact .there (.there (.there (.there (.there (.there (.there (.there (.there .hereA))))))))|exact .there (.there (.there (.there (.there (.there (.there (.there (.there (.there .here)))))))))|exact .there (.there (.there (.there (.there (.there (.there (.there (.there (.there .hereA)))))))))|exact .there (.there (.there (.there (.there (.there (.there (.there (.there (.there (.there .here))))))))))|exact .there (.there (.there (.there (.there (.there (.there (.there (.there (.there (.there .hereA))))))))))|exact .there (.there (.there (.there (.there (.there (.there (.there (.there (.there (.there (.there .here)))))))))))|exact .there (.there (.there (.there (.there (.there (.there (.there (.there (.there (.there (.there .hereA))))))))))))))|refine .drop ?_));first|exact .any _|exact .refl _|fail)|fail):Ap true (λw'=>Ab W0 w' M) K w:=A9 (h.imp hi) hK
theorem Ao(M:List HP){K:(World->Prop)->WP}(h:Ab W0 w L)(hK:∀w1,Ab W0 w1 L->K (λw'=>Ab W0 w' M) w1)(hi:Td L M:=by first|exact .refl _|((repeat (first|refine .cons ?_|refine .reca ?_|(apply Td.pull;focus ((first|exact .there .here|exact .there .hereA|exact .there (.there .here)|exact .there (.there .hereA)|exact .there (.there (.there .here))|exact .there (.there (.there .hereA))|exact .there (.there (.there (.there .here)))|exact .there (.there (.there (.there .hereA)))|exact .there (.there (.there (.there (.there .here))))|exact .there (.there (.there (.there (.there .hereA))))|exact .there (.there (.there (.there (.there (.there .here)))))|exact .there (.there (.there (.there (.there (.there .hereA)))))|exact .there (.there (.there (.there (.there (.there (.there .here))))))|exact .there (.there (.there (.there (.there (.there (.there .hereA))))))|exact .there (.there (.there (.there (.there (.there (.there (.there .here)))))))|exact .there (.there (.there (.there (.there (.there (.there (.there .hereA)))))))|exact .there (.there (.there (.there (.there (.there (.there (.there (.there .here))))))))|exact .there (.there (.there (.there (.there (.there (.there (.there (.there .hereA))))))))|exact .there (.there (.there (.there (.there (.there (.there (.there (.there (.there .here)))))))))|exact .there (.there (.there (.there (.there (.there (.there (.there (.there (.there .hereA)))))))))|exact .there (.there (.there (.there (.there (.there (.there (.there (.there (.there (.there .here))))))))))|exact .there (.there (.there (.there (.there (.there (.there (.there (.there (.there (.there .hereA))))))))))|exact .there (.there (.there (.there (.there (.there (.there (.there (.there (.there (.there (.there .here)))))))))))|exact .there (.there (.there (.there (.there (.there (.there (.there (.there (.there (.there (.there .hereA))))))))))))))|refine .drop ?_));first|exact .any _|exact .refl _|fail)|fail):A5 K w:=XO (λw'=>Ab W0 w' M) (h.imp hi).drew (hK _ h.drew)
theorem AW{c:Prop}{K:WP}(hK:K w)(hc:c:=by first|omega|(simp only[List.length_set,List.length_append,List.length_cons,List.length_nil,List.length_take,List.length_drop,List.length_map,Int.toNat_natCast] <;> omega)|fail):Bw c K w:=Az hc hK
def AO(Ps:List HP):HP:=λh=>stars Ps h
theorem Ab.openL:∀{Ps M:List HP},Ab W0 w (AO Ps::M)->Ab W0 w (Ps++M)
 | [],_,h=>h.drop
 | p::Ps,M,h=>by
  have h1:Ab W0 w (p::AO Ps::M):=Ab.split (p:=p) (q:=AO Ps) h;have h2:=(h1.perm (List.Perm.swap _ _ _));exact(Ab.openL_aux h2)
where Ab.openL_aux {p:HP} {Ps M:List HP} (h:Ab W0 w (AO Ps::p::M)):Ab W0 w (p::Ps++M):=
 (Ab.openL h).perm List.perm_middle
theorem Ab.shutL:∀{Ps M:List HP},Ab W0 w (Ps++M)->Ab W0 w (AO Ps::M)
 | [],M,h=>⟨h.os,h.out,λ_=>none,DM w,(λ_ _ hx=>by cases hx),Fh.refl _,λ_=>.inl rfl,trivial,h.st⟩
 | p::Ps,M,h=>by
  have h1:Ab W0 w (Ps++(p::M)):=h.perm List.perm_middle.symm;exact Ab.join (p:=p) (q:=AO Ps) ((Ab.shutL h1).perm (List.Perm.swap _ _ _))
def Ks{α:Type}(p:α->HP):HP:=λh=>∃x,p x h
def F6(c:Prop)(p:HP):HP:=λh=>c/\p h
theorem Ab.openE{α:Type}{p:α->HP}{M:List HP}(h:Ab W0 w (Ks p::M)):∃x,Ab W0 w (p x::M):=Ab.ex (q:=0) h rfl
theorem Ab.shutE{α:Type}{p:α->HP}{M:List HP}(x:α)(h:Ab W0 w (p x::M)):Ab W0 w (Ks p::M):=h.turn (q:=0) rfl λ_ hg=>⟨x,hg⟩
theorem Ab.openA{c:Prop}{p:HP}{M:List HP}(h:Ab W0 w (F6 c p::M)):c/\Ab W0 w (p::M):=⟨h.pure (q:=0) rfl λ_ hg=>hg.1,h.turn (q:=0) rfl λ_ hg=>hg.2⟩
theorem Ab.shutA{c:Prop}{p:HP}{M:List HP}(hc:c)(h:Ab W0 w (p::M)):Ab W0 w (F6 c p::M):=h.turn (q:=0) rfl λ_ hg=>⟨hc,hg⟩
end
end Go.Hb
namespace Go.Hb
open Go.ChangeShapes Go.WideShapes
structure Ja(W W':World):Prop where
 os:W'.os=W.os
 out:W'.output=W.output
 heap:∀(b:Nat)(o:Obj),W.heap[b]? = some o->W'.heap[b]? = some o
theorem Ab.kept{W w:World}{q:Nat}{L:List HP}(h:Ab W w L)(hq:L[q]? = some (old W)):Ja W w:=by
 obtain⟨g,hg,ho⟩:=h.get hq;exact⟨h.os,h.out,λb o hb=>hg _ _ (ho _ _ hb)⟩
theorem Ab.begin(W:World):Ab W W [old W]:=
 ⟨rfl,rfl,DM W,λ_=>none,Fh.refl _,(λ_ _ hx=>by cases hx),λ_=>.inr rfl,Fh.refl _,trivial⟩
section
variable{H:Type}{enc:TypeId×Value->H}{P:Program}{W W':World}
theorem Ja.cell(hk:Ja W W'){a:Addr}{v:Value}(h:W.cell? a=some v):W'.cell? a=some v:=by
 unfold World.cell? at h ⊢;cases hb:W.heap[a.block]? with
 | none=>rw[hb] at h;cases h
 | some o=>rw[hk.heap _ _ hb];rw[hb] at h;exact h
theorem GE{α β:Type}{f g:α->Option β}:∀{l:List α}{xs:List β},l.mapM f=some xs->(∀i∈l,∀y∈xs,f i=some y->g i=some y)->l.mapM g=some xs
 | [],xs,h,_=>by simpa using h
 | a::l,xs,h,hg=>by
  simp only[List.mapM_cons,Option.bind_eq_bind,Option.pure_def,Option.bind_eq_some_iff] at h;obtain⟨y,hy,ys,hys,hx⟩:=h;cases hx;simp only[List.mapM_cons,Option.bind_eq_bind,Option.pure_def,Option.bind_eq_some_iff];exact⟨y,hg a (.head _) y (.head _) hy,ys,GE hys (λi hi z hz=>hg i (.tail _ hi) z (.tail _ hz)),rfl⟩
theorem Acw(hk:Ja W W'){base:Nat}{a:Addr}{n:Nat}{cs:List Value}(h:W.cells? base a n=some cs):W'.cells? base a n=some cs:=by
 unfold World.cells? at h ⊢;split at h
 ·rename_i hb;rw[if_pos hb];exact GE h λi _ y _ hy=>hk.cell hy
 ·cases h
def J6(P:Program):Nat->TypeId->Bool
 | 0,_=>false
 | d+1,t=>match P.underlying t with
  | some .bool|some (.int _)|some .string=>true
  | some (.struct fs)=>fs.toList.all λf=>J6 P d f.type
  | some (.array _ e)=>J6 P d e
  | some (.slice e)=>!Nat.beq (P.cellsOf e) 0 && J6 P d e
  | _=>false
theorem A2i{a:Addr}{n:Nat}(hn:0<n):∃p∈MemPlace.row a n,p.block=a.block:=by
 refine⟨MemPlace.cell a.block a.off,?_,rfl⟩;unfold MemPlace.row;simp only[List.mem_map,List.mem_range];exact⟨0,hn,by simp[MemPlace.cell]⟩
theorem Amc(hk:Ja W W'){sp:Nat->Bool}:∀(d fuel:Nat)(t:TypeId)(cs:List Value)(x:DataW H×List MemPlace),J6 P d t=true ->
  DataW.trod enc P W 0 (λ_=>true) true fuel t cs=some x->(∀p∈x.2,sp p.block=true)->DataW.trod enc P W' 0 sp true fuel t cs=some x:=by
 intro d
 induction d with
 | zero=>intro fuel t cs x h;cases h
 | succ d ih=>
  intro fuel t cs x hp h hs;cases fuel with
  | zero=>cases h
  | succ fuel=>
   unfold J6 at hp;cases hu:P.underlying t with
   | none=>rw[hu] at hp;cases hp
   | some td=>
   rw[hu] at hp;unfold DataW.trod at h ⊢;rw[hu] at h ⊢;cases td <;> try (cases hp;done)
   case bool=>rcases cs with _|⟨v,_|_⟩ <;> first|exact h|(cases v <;> exact h)
   case int k=>rcases cs with _|⟨v,_|_⟩ <;> first|exact h|(cases v <;> exact h)
   case string=>rcases cs with _|⟨v,_|_⟩ <;> first|exact h|(cases v <;> exact h)
   case struct fs=>
    simp only at h ⊢;split at h
    ·rename_i hl;rw[if_pos hl];simp only[Option.map_eq_some_iff] at h ⊢;obtain⟨xs,hxs,rfl⟩:=h;refine⟨xs,GE hxs λf hf y hy hfy=>?_,rfl⟩;exact ih fuel _ _ y (List.all_eq_true.1 hp f hf) hfy λp hp'=>hs p (List.mem_flatMap.2 ⟨y,hy,hp'⟩)
    ·cases h
   case array n e=>
    simp only at h ⊢;split at h
    ·rename_i hl;rw[if_pos hl];simp only[Option.map_eq_some_iff] at h ⊢;obtain⟨xs,hxs,rfl⟩:=h;refine⟨xs,GE hxs λf hf y hy hfy=>?_,rfl⟩;exact ih fuel _ _ y hp hfy λp hp'=>hs p (List.mem_flatMap.2 ⟨y,hy,hp'⟩)
    ·cases h
   case slice e=>
    simp only[Bool.and_eq_true,Bool.not_eq_eq_eq_not,Bool.not_true] at hp;obtain⟨hne,hpe⟩:=hp;have hne':P.cellsOf e≠0:=λh0=>by rw[h0] at hne;cases hne
    cases cs with
    | nil=>exact h
    | cons v cs=>
    cases cs with
    | cons _ _=>cases v <;> first|exact h|(rename_i sa len cap;cases sa <;> first|exact h|cases h|(cases len <;> cases cap <;> first|exact h|cases h))
    | nil=>
    cases v <;> first|exact h|skip
    rename_i sa len cap;cases sa with
    | none=>first|exact h|(cases len <;> cases cap <;> first|exact h|cases h)
    | some a=>
    simp only at h ⊢;split at h
    case isFalse=>cases h
    rename_i hb;rw[if_pos hb];simp only[if_true,Option.bind_eq_some_iff,Option.map_eq_some_iff] at h ⊢;obtain⟨elems,hel,rest,hre,rfl⟩:=h;have one:∀(zs:List (DataW H×List MemPlace))(i:Nat)(y:DataW H×List MemPlace),y∈zs->(∀z∈zs,∀p∈z.2,sp p.block=true) ->
      (W.cells? 0 (a.add (i*P.cellsOf e)) (P.cellsOf e)).bind (DataW.trod enc P W 0 (λ_=>true) true fuel e)=some y ->
      (W'.cells? 0 (a.add (i*P.cellsOf e)) (P.cellsOf e)).bind (DataW.trod enc P W' 0 sp true fuel e)=some y:=by
     intro zs i y hy hz h;simp only[Option.bind_eq_some_iff] at h ⊢;obtain⟨c,hc,hd⟩:=h;exact⟨c,Acw hk hc,ih fuel e c y hpe hd (hz y hy)⟩
    have hall:∀z∈elems++rest,∀p∈z.2,sp p.block=true:=λz hz p hp=>hs p (List.mem_append_right _ (List.mem_flatMap.2 ⟨z,hz,hp⟩));refine⟨elems,GE hel λi _ y hy h=>one elems i y hy (λz hz=>hall z (List.mem_append_left _ hz)) h,rest,?_,rfl⟩;have hlr:rest.length=cap-len:=by
     have:∀{l:List Nat}{f:Nat->Option (DataW H×List MemPlace)}{xs},l.mapM f=some xs->xs.length=l.length:=by
      intro l
      induction l with
      | nil=>intro f xs h;simp at h;subst h;rfl
      | cons i l ih=>
       intro f xs h;simp only[List.mapM_cons,Option.bind_eq_bind,Option.pure_def,Option.bind_eq_some_iff] at h;obtain⟨y,_,ys,hys,hx⟩:=h;cases hx;simp[ih hys]
     simpa using this hre
    have hkeep:(List.range (cap-len)).mapM (λj=>(W'.cells? 0 (a.add ((len+j)*P.cellsOf e)) (P.cellsOf e)).bind (DataW.trod enc P W' 0 sp true fuel e))=some rest:=
     GE hre λj _ y hy h=>one rest (len+j) y hy (λz hz=>hall z (List.mem_append_right _ hz)) h
    by_cases h0:(elems.length+rest.length)*P.cellsOf e=0
    ·have hr0:rest=[]:=by
      rcases Nat.mul_eq_zero.1 h0 with h1|h1
      ·exact List.length_eq_zero_iff.1 (by omega)
      ·exact absurd h1 hne'
     split
     ·exact hkeep
     ·rw[hr0]
    ·have hsa:sp a.block=true:=by
      obtain⟨p,hp,hpb⟩:=A2i (a:=a) (Nat.pos_of_ne_zero h0);rw[<- hpb];exact hs p (List.mem_append_left _ hp)
     rw[if_pos hsa];exact hkeep
theorem Mu(hk:Ja W W'){sp:Nat->Bool}:∀{ts:List TypeId}{vs:List Value}{ds:List (DataW H)}{ps:List MemPlace},(ts.all λt=>J6 P 9 t)=true ->
  DataW.TrodAll enc P W 0 (λ_=>true) true ts vs ds ps->(∀p∈ps,sp p.block=true)->DataW.TrodAll enc P W' 0 sp true ts vs ds ps
 | [],[],[],_,_,h,_=>h
 | t::ts,v::vs,d::ds,_,hp,⟨p,q,⟨fuel,h1⟩,h2,hpq⟩,hs=>by
  subst hpq;simp only[List.all_cons,Bool.and_eq_true] at hp;exact⟨p,q,⟨fuel,Amc hk 9 fuel t _ _ hp.1 h1 λx hx=>hs x (List.mem_append_left _ hx)⟩,Mu hk hp.2 h2 λx hx=>hs x (List.mem_append_right _ hx),rfl⟩
 | [],_::_,_,_,_,h,_=>h.elim
 | [],[],_::_,_,_,h,_=>h.elim
 | _::_,[],_,_,_,h,_=>h.elim
 | _::_,_::_,[],_,_,h,_=>h.elim
theorem Atk{f:Func}{s:ChangeSpec}{bt:TypeId}{args:Array Value}{ds gs:List (DataW H)}{before:List MemPlace}(hv:s.vars=[])(hrt:f.resultTypes=#[bt])(hb:P.underlying bt=some .bool)
  (hpl:(f.params.toList.all λt=>J6 P 9 t)=true) (hW:DataW.Whole enc P f.params.toList s.vars false W args.toList ds gs before)
  (hs:(s.fn H (ds++gs)).results=[.lit (.bool true)]/\(s.fn H (ds++gs)).args=ds/\(s.fn H (ds++gs)).vars=[]) (hk:Ja W W') :
  s.post enc P f false true false false W args (.bool true) W':=by
 have hW':=hW;obtain⟨p,q,hA,hV,rfl,hz,hn⟩:=hW;have hV':gs=[]/\q=[]:=by
  rw[hv] at hV;cases gs with
  | nil=>exact⟨rfl,hV⟩
  | cons _ _=>exact hV.elim
 obtain⟨rfl,rfl⟩:=hV';refine⟨ds,[],p++[],[],p,[],hW',?_,?_,?_,?_,λh=>by cases h⟩
 ·rw[hs.1,hrt];exact⟨[],[],⟨1,by simp[DataW.trod,Value.cells,hb]⟩,rfl,rfl⟩
 ·rw[hs.2.1];exact Mu hk hpl hA λx hx=>by simpa using hW'.lt x (by simpa using hx)
 ·rw[hs.2.2,hv];rfl
 ·refine⟨hk.os,hk.out,λi hi=>?_⟩;have h1:W.heap[i]? = some W.heap[i]:=by simp[hi]
  have h2:=hk.heap i _ h1;rw[h1,h2];cases W.heap[i] <;> first|exact⟨rfl,rfl,rfl,λ_ _=>rfl⟩|exact .inr ⟨rfl,rfl⟩|rfl
end
end Go.Hb
namespace Go.Hb
open Go.ChangeShapes Go.WideShapes Go.RowKit
def okV:CK->Value->Prop
 | .int k,v=>∃n,v = .int k n/\(Lit.int k n).wf=true
 | .bool,v=>∃b,v = .bool b
 | .str,v=>∃s,v = .string s/\s.size<=reachBytes
 | _,_=>False
def E9:List CK->List Value->Prop
 | [],[]=>True
 | k::ks,v::vs=>okV k v/\E9 ks vs
 | _,_=>False
theorem MO:∀{ks:List CK}{vs:List Value},E9 ks vs->vs.length=ks.length
 | [],[],_=>rfl
 | _::_,_::_,h=>by simp[MO h.2]
theorem IF:∀{ks ls:List CK}{vs us:List Value},E9 ks vs->E9 ls us->E9 (ks++ls) (vs++us)
 | [],_,[],_,_,h=>h
 | _::_,_,_::_,_,h,h'=>⟨h.1,IF h.2 h'⟩
theorem Va{ks:List CK}:∀{n:Nat}{rows:List (List Value)},rows.length=n->(∀r∈rows,E9 ks r)->E9 (A2x ks n) rows.flatten
 | 0,[],_,_=>trivial
 | n+1,r::rows,h,hr=>IF (hr r (.head _)) (Va (by simpa using h) λx hx=>hr x (.tail _ hx))
def Aaj(P:Program)(rec:TypeId->Option (List CK)):Nat->List Field->Option (List CK)
 | _,[]=>some []
 | o,f::fs=>if f.offset=o then match rec f.type with
  | some ks=>if ks.length=P.cellsOf f.type then (Aaj P rec (o+ks.length) fs).map (ks ++ ·) else none
  | none=>none else none
def UD(P:Program):Nat->TypeId->Option (List CK)
 | 0,_=>none
 | d+1,t=>match P.underlying t with
  | some .bool=>some [.bool]
  | some (.int k)=>some [.int k]
  | some .string=>some [.str]
  | some (.struct fs)=>match Aaj P (UD P d) 0 fs.toList with
   | some ks=>if ks.length=P.cellsOf t then some ks else none
   | none=>none
  | some (.array n e)=>match UD P d e with
   | some ks=>if ks.length=P.cellsOf e/\n*ks.length=P.cellsOf t then some (A2x ks n) else none
   | none=>none
  | _=>none
section
variable{H:Type}{enc:TypeId×Value->H}{P:Program}{W:World}{sp:Nat->Bool}{held:Bool}{base:Nat}
theorem Aa8{α β:Type}{f:α->Option β}:∀{l:List α}{xs:List β},l.mapM f=some xs->∀a∈l,∃y,f a=some y
 | [],_,_,_,h=>by cases h
 | a::l,xs,h,b,hb=>by
  simp only[List.mapM_cons,Option.bind_eq_bind,Option.pure_def,Option.bind_eq_some_iff] at h;obtain⟨y,hy,ys,hys,_⟩:=h;cases hb with
  | head=>exact⟨y,hy⟩
  | tail _ hb=>exact Aa8 hys b hb
theorem Mc{α β:Type}{f:α->Option β}:∀{l:List α}{xs:List β}{i:Nat}{a:α},l.mapM f=some xs->l[i]? = some a->∃y,xs[i]? = some y/\f a=some y
 | [],_,_,_,_,h=>by simp at h
 | b::l,xs,i,a,h,hi=>by
  simp only[List.mapM_cons,Option.bind_eq_bind,Option.pure_def,Option.bind_eq_some_iff] at h;obtain⟨y,hy,ys,hys,hx⟩:=h;cases hx;cases i with
  | zero=>simp only[List.getElem?_cons_zero,Option.some.injEq] at hi;subst hi;exact⟨y,rfl,hy⟩
  | succ i=>exact Mc (l:=l) (i:=i) hys (by simpa using hi)
def IT(P:Program)(t:TypeId)(d:DataW H):Prop:=∀n∈d.weights P t,n<=reachBytes
theorem J3{e:TypeId}:∀{ds:List (DataW H)}{d:DataW H}{n:Nat},d∈ds->n∈d.weights P e->n∈DataW.weightsAll P e ds
 | [],_,_,h,_=>by cases h
 | x::ds,d,n,h,hn=>by
  simp only[DataW.weightsAll,List.mem_append];cases h with
  | head=>exact .inl hn
  | tail _ h=>exact .inr (J3 h hn)
theorem light_each{ts:List TypeId}{ds:List (DataW H)}(h:∀n∈DataW.weightsEach P ts ds,n<=reachBytes){j:Nat}{t:TypeId}{d:DataW H}(ht:ts[j]? = some t)(hd:ds[j]? = some d):IT P t d:=λn hn=>
 h n (DataW.weights_mem_each ht hd n hn)
theorem MG{e:TypeId}{ds:List (DataW H)}(h:∀n∈DataW.weightsAll P e ds,n<=reachBytes){d:DataW H}(hd:d∈ds):IT P e d:=λn hn=>h n (J3 hd hn)
theorem Aak{rec:TypeId->Option (List CK)}{cs:List Value}(hrec:∀t ks us,rec t=some ks->(∃fuel x,DataW.trod enc P W base sp held fuel t us=some x/\IT P t x.1)->E9 ks us) :
  ∀(fs:List Field)(o:Nat)(ks:List CK),Aaj P rec o fs=some ks->(∀f∈fs,∃fuel x,DataW.trod enc P W base sp held fuel f.type ((cs.drop f.offset).take (P.cellsOf f.type))=some x/\IT P f.type x.1) ->
   E9 ks ((cs.drop o).take ks.length)
 | [],o,ks,h,_=>by simp only[Aaj,Option.some.injEq] at h;subst h;simp[E9]
 | f::fs,o,ks,h,hf=>by
  simp only[Aaj] at h;split at h
  case isFalse=>cases h
  rename_i ho;split at h
  case h_2=>cases h
  rename_i l hl;split at h
  case isFalse=>cases h
  rename_i hn;simp only[Option.map_eq_some_iff] at h;obtain⟨m,hm,rfl⟩:=h;have h1:=hrec _ _ _ hl (hf f (.head _));have h2:=Aak hrec fs _ _ hm λg hg=>hf g (.tail _ hg);rw[ho,<- hn] at h1;have:(cs.drop o).take (l++m).length=(cs.drop o).take l.length++(cs.drop (o+l.length)).take m.length:=by
   rw[List.length_append,List.take_add,List.drop_drop]
  rw[this];exact IF h1 h2
theorem Aal:∀(d:Nat)(t:TypeId)(ks:List CK)(us:List Value),UD P d t=some ks->(∃fuel x,DataW.trod enc P W base sp held fuel t us=some x/\IT P t x.1)->E9 ks us:=by
 intro d
 induction d with
 | zero=>intro t ks us h;cases h
 | succ d ih=>
  intro t ks us h ⟨fuel,x,hx,hlt⟩;unfold UD at h;cases hu:P.underlying t with
  | none=>rw[hu] at h;cases h
  | some td=>
  rw[hu] at h;cases td <;> try (cases h;done)
  case bool=>
   cases h;obtain⟨b,rfl,_⟩:=DataW.trod_bool hu hx;exact⟨⟨b,rfl⟩,trivial⟩
  case int k=>
   cases h;obtain⟨n,rfl,_,hw⟩:=DataW.trod_int hu hx;exact⟨⟨n,rfl,hw⟩,trivial⟩
  case string=>
   cases h;obtain⟨s,rfl,rfl,hw⟩:=DataW.trod_string hu hx;have:=hlt s.data.toList.length (by simp[DataW.weights]);exact⟨⟨s,rfl,by simpa using this⟩,trivial⟩
  case struct fs=>
   simp only at h;split at h
   case h_2=>cases h
   rename_i l hl;split at h
   case isFalse=>cases h
   rename_i hn;cases h;cases fuel with
   | zero=>cases hx
   | succ fuel=>
   unfold DataW.trod at hx;rw[hu] at hx;simp only at hx;split at hx
   case isFalse=>cases hx
   rename_i hlen;simp only[Option.map_eq_some_iff] at hx;obtain⟨xs,hxs,rfl⟩:=hx;have hlt':∀n∈DataW.weightsEach P (fs.toList.map (·.type)) (xs.map (·.1)),n<=reachBytes:=λn hn=>hlt n (by simp only[DataW.weights,hu];exact hn)
   have:=Aak (enc:=enc) (W:=W) (sp:=sp) (held:=held) (base:=base) (cs:=us) ih fs.toList 0 _ hl λf hf=>by
    obtain⟨i,hi,hfi⟩:=List.mem_iff_getElem.1 hf;obtain⟨y,hy,hfy⟩:=Mc hxs (List.getElem?_eq_getElem hi);rw[hfi] at hfy;exact⟨fuel,y,hfy,light_each hlt' (j:=i) (by rw[List.getElem?_map,List.getElem?_eq_getElem hi,hfi];rfl) (by rw[List.getElem?_map,hy];rfl)⟩
   rw[List.drop_zero,List.take_of_length_le (by omega)] at this;exact this
  case array n e=>
   simp only at h;split at h
   case h_2=>cases h
   rename_i l hl;split at h
   case isFalse=>cases h
   rename_i hn;cases h;cases fuel with
   | zero=>cases hx
   | succ fuel=>
   unfold DataW.trod at hx;rw[hu] at hx;simp only at hx;split at hx
   case isFalse=>cases hx
   rename_i hlen;simp only[Option.map_eq_some_iff] at hx;obtain⟨xs,hxs,rfl⟩:=hx;have hlt':∀n∈DataW.weightsAll P e (xs.map (·.1)),n<=reachBytes:=λn hn=>hlt n (by simp only[DataW.weights,hu];exact hn)
   have hrows:us=((List.range n).map λi=>(us.drop (i*P.cellsOf e)).take (P.cellsOf e)).flatten:=by
    have:∀(n:Nat)(us:List Value),us.length=n*P.cellsOf e->us=((List.range n).map λi=>(us.drop (i*P.cellsOf e)).take (P.cellsOf e)).flatten:=by
     intro n
     induction n with
     | zero=>intro us h;simpa using h
     | succ n ih=>
      intro us h;rw[List.range_succ_eq_map];simp only[List.map_cons,List.map_map,List.flatten_cons,Nat.zero_mul,List.drop_zero]
      conv=>lhs;rw[<- List.take_append_drop (P.cellsOf e) us]
      congr 1;rw[ih (us.drop (P.cellsOf e)) (by simp[h,Nat.add_mul])];congr 1;apply List.map_congr_left;intro i _;simp only[Function.comp,List.drop_drop,Nat.succ_mul];rw[Nat.add_comm]
    exact this n us (by rw[hlen,<- hn.2,hn.1])
   rw[hrows];refine Va (by simp) λr hr=>?_;simp only[List.mem_map] at hr;obtain⟨i,hi,rfl⟩:=hr;obtain⟨j,hj,hji⟩:=List.mem_iff_getElem.1 hi;obtain⟨y,hy,hfy⟩:=Mc hxs (List.getElem?_eq_getElem hj);rw[hji] at hfy;exact ih _ _ _ hl ⟨fuel,y,hfy,MG hlt' (List.mem_map.2 ⟨y,List.mem_of_getElem? hy,rfl⟩)⟩
theorem open_slc{t e:TypeId}{v:Value}{d:DataW H}{ps:List MemPlace}{ks:List CK}{r:Reach}{b0:Nat}(ht:P.underlying t=some (.slice e))(hks:UD P 9 e=some ks)(hsz:P.cellsOf e=ks.length)(_hpos:0<ks.length)
  (hval:Value.okWide P W r b0 t v) (hd:DataW.Trod enc P W base sp held t v d ps) (hlt:IT P t d) :
  ∃(s:Sl) (rows:List (List Value)),v = .slice s.a s.n s.c/\s.n=rows.length/\s.n*P.bytesOf e<=reachBytes/\Agq W ks.length s rows.flatten/\∀x∈rows,E9 ks x:=by
 obtain⟨a,len,cap,rfl⟩:=okWide_slice ht hval;obtain⟨fuel,hf⟩:=hd;rcases DataW.trod_slice ht hf with⟨h,_⟩|⟨a',len',cap',elems,rest,n,rfl,h,hd',_,hlc,hcm,hel,hcell,_,_⟩
 ·simp only[Value.cells,List.cons.injEq,Value.slice.injEq,and_true] at h;obtain⟨rfl,rfl,rfl⟩:=h;exact⟨⟨none,0,0⟩,[],rfl,rfl,by simp,⟨by simp,.inl ⟨rfl,rfl⟩⟩,λ_ hx=>by cases hx⟩
 ·simp only[Value.cells,List.cons.injEq,Value.slice.injEq,and_true] at h;obtain⟨rfl,rfl,rfl⟩:=h;simp only[Prod.mk.injEq] at hd';obtain⟨rfl,rfl⟩:=hd';have hwt:(elems.length+rest.length)*P.bytesOf e<=reachBytes:=by
   have:=hlt ((elems.length+rest.length)*P.bytesOf e) (by simp[DataW.weights,ht]);exact this
  have hle:∀y∈elems,IT P e y.1:=λy hy=>MG (P:=P) (e:=e) (ds:=elems.map (·.1)) (λn hn=>hlt n (by simp only[DataW.weights,ht,List.mem_cons,List.mem_append];exact .inr (.inl hn))) (List.mem_map.2 ⟨y,hy,rfl⟩);have hspot:a'.spot=none:=by
   simp only[Value.okWide,ht,Cell.okWide,Cell.ok] at hval;exact hval.2.2.2.1
  obtain⟨b,o,spot⟩:=a';simp only at hspot;subst hspot;have hrow:∀i,i<len->∃c,W.cells? base (Addr.add ⟨b,o,none⟩ (i*P.cellsOf e)) (P.cellsOf e)=some c/\E9 ks c:=by
   intro i hi;have h1:=hcell i hi;rw[List.getElem?_eq_getElem (by omega)] at h1;simp only[Option.bind_eq_some_iff] at h1;obtain⟨c,hc,hx⟩:=h1;exact⟨c,hc,Aal 9 e ks c hks ⟨_,_,hx,hle _ (List.getElem_mem _)⟩⟩
  have hrow2:∀i,∃c,i<len->W.cells? base (Addr.add ⟨b,o,none⟩ (i*P.cellsOf e)) (P.cellsOf e)=some c/\E9 ks c:=by
   intro i
   by_cases hi:i<len
   ·obtain⟨c,hc⟩:=hrow i hi;exact⟨c,λ_=>hc⟩
   ·exact⟨[],λh=>absurd h hi⟩
  let f:Nat->List Value:=λi=>Classical.choose (hrow2 i);have hf:∀i,i<len->W.cells? base (Addr.add ⟨b,o,none⟩ (i*P.cellsOf e)) (P.cellsOf e)=some (f i)/\E9 ks (f i):=λi hi=>Classical.choose_spec (hrow2 i) hi;have hadd:∀j,Addr.add ⟨b,o,none⟩ j=⟨b,o+j,none⟩:=by
   intro j;unfold Addr.add;split
   ·simp_all
   ·rfl
  have hcells:∀(i n:Nat)(c:List Value),W.cells? base ⟨b,i,none⟩ n=some c->c.length=n/\∀j,j<n->W.cell? ⟨b,i+j,none⟩=c[j]?:=by
   intro i n c h;unfold World.cells? at h;have h:(List.range n).mapM (λi_1=>W.cell? (Addr.add ⟨b,i,none⟩ i_1))=some c:=by
    by_cases hb:base<=b
    ·rwa [if_pos hb] at h
    ·rw[if_neg hb] at h;cases h
   have:∀(l:List Nat)(c:List Value),l.mapM (λi_1=>W.cell? (Addr.add ⟨b,i,none⟩ i_1))=some c->c.length=l.length/\∀j (hj:j<l.length),W.cell? (Addr.add ⟨b,i,none⟩ l[j])=c[j]?:=by
    intro l
    induction l with
    | nil=>intro c h;simp only[List.mapM_nil,Option.pure_def,Option.some.injEq] at h;subst h;exact⟨rfl,λj hj=>by simp at hj⟩
    | cons x l ih=>
     intro c h;simp only[List.mapM_cons,Option.bind_eq_bind,Option.pure_def,Option.bind_eq_some_iff] at h;obtain⟨y,hy,ys,hys,hc⟩:=h;cases hc;obtain⟨h1,h2⟩:=ih ys hys;refine⟨by simp[h1],λj hj=>?_⟩;cases j with
     | zero=>simpa using hy
     | succ j=>simpa using h2 j (by simpa using hj)
   obtain⟨h1,h2⟩:=this _ _ h;refine⟨by simpa using h1,λj hj=>?_⟩;have:=h2 j (by simpa using hj);simp only[List.getElem_range] at this;rw[<- this];unfold Addr.add;split
   ·simp_all
   ·rfl
  refine⟨⟨some ⟨b,o,none⟩,len,cap⟩,(List.range len).map f,rfl,by simp,by simp only;exact Nat.le_trans (Nat.mul_le_mul_right _ (by omega)) hwt,⟨?_,.inr ⟨b,o,rfl,?_⟩⟩,?_⟩
  ·simp only;have:∀(l:List (List Value)),(∀x∈l,x.length=ks.length)->l.flatten.length=l.length*ks.length:=by
    intro l
    induction l with
    | nil=>simp
    | cons x l ih=>intro h;simp[ih λy hy=>h y (.tail _ hy),h x (.head _),Nat.add_mul,Nat.add_comm]
   rw[this]
   ·simp
   ·intro x hx;simp only[List.mem_map,List.mem_range] at hx;obtain⟨i,hi,rfl⟩:=hx;exact MO (hf i hi).2
  ·have:∀(n:Nat)(g:Nat->List Value)(p:Nat),(∀i,i<n->(g i).length=ks.length/\∀j,j<ks.length->W.cell? ⟨b,p+i*ks.length+j,none⟩=(g i)[j]?) ->
     ∀j,j<((List.range n).map g).flatten.length->W.cell? ⟨b,p+j,none⟩=((List.range n).map g).flatten[j]?:=by
    intro n
    induction n with
    | zero=>intro g p _ j hj;simp at hj
    | succ n ih=>
     intro g p h j hj;have hr:(List.range (n+1)).map g=g 0::(List.range n).map (g ∘ Nat.succ):=by
      rw[List.range_succ_eq_map];simp
     rw[hr] at hj ⊢;simp only[List.flatten_cons] at hj ⊢;obtain⟨h0,h0'⟩:=h 0 (by omega)
     by_cases hj0:j<ks.length
     ·rw[List.getElem?_append_left (by omega)];simpa using h0' j hj0
     ·rw[List.getElem?_append_right (by omega)];have:=ih (g ∘ Nat.succ) (p+ks.length) (λi hi=>by
       obtain⟨a1,a2⟩:=h (i+1) (by omega);refine⟨a1,λj hj=>?_⟩;have:=a2 j hj;show _=(g (i+1))[j]?;rw[<- this];congr 2;rw[Nat.add_mul];omega) (j-ks.length) (by simp at hj ⊢;omega)
      rw[h0,<- this];congr 2;omega
   refine this len f o λi hi=>?_;obtain⟨h1,h2⟩:=hf i hi;rw[hadd,hsz] at h1;obtain⟨h3,h4⟩:=hcells _ _ _ h1;exact⟨h3,h4⟩
  ·intro x hx;simp only[List.mem_map,List.mem_range] at hx;obtain⟨i,hi,rfl⟩:=hx;exact(hf i hi).2
end
theorem law_lifted{H:Type}{enc:TypeId×Value->H}{C:Checked}{os:Os}{f:FuncId}{fn:Func}{s:ChangeSpec}{conds:List PathCond}{bt:TypeId}
  (own:ownKnob C.prog.godebug=none) (started:os.Started) (noInit:C.prog.inits.idxOf? f=none) (hfn:C.prog.funcs[f]? = some fn)
  (witness:∃(w:World) (tape:Tape) (i:Input),w.os=os/\(w.forCall tape i).Shaped C.prog/\i.vars=[]/\Input.okWide C.prog (w.forCall tape i) .any w.heap.size f i /\
   s.pre6 enc C.prog fn conds false (w.forCall tape i).memory i.args/\({}:Assume).holds C.prog (lone (Frame.enter C.prog f i.args .normal) [] (w.forCall tape i)))
  (hv:s.vars=[]) (hrt:fn.resultTypes=#[bt]) (hb:C.prog.underlying bt=some .bool) (hpl:(fn.params.toList.all λt=>J6 C.prog 9 t)=true)
  (contract:∀(W:World)(base:Nat)(args:Array Value)(ds:List (DataW H))(p:List MemPlace),
   (∀(j:Nat) t v,fn.params[j]? = some t->args[j]? = some v->Value.okWide C.prog W .any base t v) ->
   DataW.TrodAll enc C.prog W 0 (λ_=>true) true fn.params.toList args.toList ds p ->
   (∀n∈DataW.weightsEach C.prog fn.params.toList ds,n<=reachBytes) ->
   ((s.fn H ds).results=[.lit (.bool true)]/\(s.fn H ds).args=ds/\(s.fn H ds).vars=[]) /\
   Calls C.prog f args W λe W'=>e = .returned (.bool true)/\Ja W W') :
  ReturnsInHanded {} C os f .any (s.pre6 enc C.prog fn conds false) (s.post enc C.prog fn false true false false):=by
 refine returnsInHanded_of_change_sized own started noInit hfn witness ?_;intro W base args ds gs before hval hW _ hwt _;have hW':=hW;obtain⟨p,q,hA,hV,rfl,_,_⟩:=hW;have hgs:gs=[]:=by
  rw[hv] at hV;cases gs with
  | nil=>rfl
  | cons _ _=>exact hV.elim
 subst hgs;have hvt:s.plain.varTypes C.prog=[]:=by
  unfold DataSpec.varTypes;rw[show s.plain.vars=s.vars from rfl,hv];rfl
 obtain⟨h1,h2⟩:=contract W base args ds p hval hA (by
  intro n hn;rw[hvt,List.append_nil,List.append_nil] at hwt;simpa using List.all_eq_true.1 hwt n hn)
 refine h2.mono λe W' ⟨he,hk⟩=>⟨_,he,?_⟩;exact Atk hv hrt hb hpl hW' (by simpa using h1) hk
end Go.Hb
namespace Go.Hb
theorem Ax{k:CK}{b o:Nat}{K:k.ty->WP}{w:World}(h:ld k b o K w):ld k b o K w:=h
theorem AX{k:CK}{b o:Nat}{S:World->Prop}{K:k.ty->WP}{w:World}(h:WW S k b o K w):WW S k b o K w:=h
theorem AS{b o:Nat}{v:Value}{K:WP}{w:World}(h:st b o v K w):st b o v K w:=h
theorem AM{a:OA}{n:Nat}{i:Int}{K:Nat->Nat->WP}{w:World}(h:CB a n i K w):CB a n i K w:=h
theorem Bf{cs:List Value}{T:TypeId}{K:Nat->WP}{w:World}(h:A1 cs T K w):A1 cs T K w:=h
theorem AA{b:Bool}{S:World->Prop}{K:WP}{w:World}(h:Ap b S K w):Ap b S K w:=h
theorem Bx{c:Prop}{K:WP}{w:World}(h:Bw c K w):Bw c K w:=h
theorem AZ{K:(World->Prop)->WP}{w:World}(h:A5 K w):A5 K w:=h
def Rec.nat:Rec Nat:=⟨1,λn=>[.int .i64 (n:Int)],λ_=>rfl⟩
section
variable{L:List HP}{F:HP->List HP}{b:Nat}{s:Sl}{W W0 w:World}
variable{α:Type}[Inhabited α]{E:Rec α}{rows:List α}
section
variable{o i n j1 j2 j3 j4 j5:Nat}{k:CK}{x:k.ty}{K:k.ty->WP}
theorem Bb(h:Ab W0 w L)[hA:At L b (reca E b o s rows) F](hK:K x w)(hi:i<rows.length:=by first|omega|(simp only[List.length_set,List.length_append,List.length_cons,List.length_nil,List.length_take,List.length_drop,List.length_map,Int.toNat_natCast] <;> omega)|fail)(hc:(E.cells (rows.getD i default))[0]? = some (k.val x):=by exact rfl)(hn:n=E.sz:=by exact rfl)(hu:k ≠ .any:=by simp):ld k b (o+i*n) K w:=
 Atn (hA:=hA) h (by rw[hn];rfl) hi hc hK hu
theorem BG(h:Ab W0 w L)[hA:At L b (reca E b o s rows) F](hK:K x w)(hi:i<rows.length:=by first|omega|(simp only[List.length_set,List.length_append,List.length_cons,List.length_nil,List.length_take,List.length_drop,List.length_map,Int.toNat_natCast] <;> omega)|fail)(hc:(E.cells (rows.getD i default))[j1]? = some (k.val x):=by exact rfl)(hn:n=E.sz:=by exact rfl)(hu:k ≠ .any:=by simp):ld k b (o+i*n+j1) K w:=
 Atn (hA:=hA) h (by rw[hn];omega) hi hc hK hu
theorem Cn(h:Ab W0 w L)[hA:At L b (reca E b o s rows) F](hK:K x w)(hi:i<rows.length:=by first|omega|(simp only[List.length_set,List.length_append,List.length_cons,List.length_nil,List.length_take,List.length_drop,List.length_map,Int.toNat_natCast] <;> omega)|fail)(hc:(E.cells (rows.getD i default))[j1+j2]? = some (k.val x):=by exact rfl)(hn:n=E.sz:=by exact rfl)(hu:k ≠ .any:=by simp):ld k b (o+i*n+j1+j2) K w:=
 Atn (hA:=hA) h (by rw[hn];omega) hi hc hK hu
theorem Cv(h:Ab W0 w L)[hA:At L b (reca E b o s rows) F](hK:K x w)(hi:i<rows.length:=by first|omega|(simp only[List.length_set,List.length_append,List.length_cons,List.length_nil,List.length_take,List.length_drop,List.length_map,Int.toNat_natCast] <;> omega)|fail)(hc:(E.cells (rows.getD i default))[j1+j2+j3]? = some (k.val x):=by exact rfl)(hn:n=E.sz:=by exact rfl)(hu:k ≠ .any:=by simp):ld k b (o+i*n+j1+j2+j3) K w:=
 Atn (hA:=hA) h (by rw[hn];omega) hi hc hK hu
theorem C7(h:Ab W0 w L)[hA:At L b (reca E b o s rows) F](hK:K x w)(hi:i<rows.length:=by first|omega|(simp only[List.length_set,List.length_append,List.length_cons,List.length_nil,List.length_take,List.length_drop,List.length_map,Int.toNat_natCast] <;> omega)|fail)(hc:(E.cells (rows.getD i default))[j1+j2+j3+j4]? = some (k.val x):=by exact rfl)(hn:n=E.sz:=by exact rfl)(hu:k ≠ .any:=by simp):ld k b (o+i*n+j1+j2+j3+j4) K w:=
 Atn (hA:=hA) h (by rw[hn];omega) hi hc hK hu
theorem Atm{L':List HP}{F':HP->List HP}{rows':List α}{w':World}{p j:Nat}(h:Ab W0 w' L')[hB:At L' b (reca E b o s rows') F'][hA:Km L s (recs E s rows) F](hp:p=o+(i*E.sz+j))(hi:i<rows.length)(hc:(E.cells (rows.getD i default))[j]? = some (k.val x))(hK:K x w) :
  WW (λw'=>Ab W0 w' L) k b p K w:=by
 have ha:s.a=some ⟨b,o,none⟩:=At.one (hA:=hB) h λ_ h _=>h.pure (q:=0) rfl λ_ hg=>hg.1;subst hp;refine GM x (λw' h=>Km.one (hA:=hA) h λ_ h _=>?_) hK;have h2:=h.turn (q:=0) (p':=reca E b o s rows) rfl λ_ hg=>⟨ha,hg⟩;exact(Vl h2 (getD_some hi) (by rw[<- E.len (rows.getD i default)];exact(List.getElem?_eq_some_iff.1 hc).1)).trans hc
theorem Bn{L':List HP}{F':HP->List HP}{rows':List α}{w':World}(h:Ab W0 w' L')[hB:At L' b (reca E b o s rows') F'][hA:Km L s (recs E s rows) F](hK:K x w)(hi:i<rows.length:=by first|omega|(simp only[List.length_set,List.length_append,List.length_cons,List.length_nil,List.length_take,List.length_drop,List.length_map,Int.toNat_natCast] <;> omega)|fail)(hc:(E.cells (rows.getD i default))[0]? = some (k.val x):=by exact rfl)(hn:n=E.sz:=by exact rfl) :
  WW (λw'=>Ab W0 w' L) k b (o+i*n) K w:=Atm (hA:=hA) (hB:=hB) h (j:=0) (by rw[hn];rfl) hi hc hK
theorem Bs{L':List HP}{F':HP->List HP}{rows':List α}{w':World}(h:Ab W0 w' L')[hB:At L' b (reca E b o s rows') F'][hA:Km L s (recs E s rows) F](hK:K x w)(hi:i<rows.length:=by first|omega|(simp only[List.length_set,List.length_append,List.length_cons,List.length_nil,List.length_take,List.length_drop,List.length_map,Int.toNat_natCast] <;> omega)|fail)(hc:(E.cells (rows.getD i default))[j1]? = some (k.val x):=by exact rfl)(hn:n=E.sz:=by exact rfl) :
  WW (λw'=>Ab W0 w' L) k b (o+i*n+j1) K w:=Atm (hA:=hA) (hB:=hB) h (j:=j1) (by rw[hn];omega) hi hc hK
end
section
variable{o i n j1 j2 j3:Nat}{v:Value}{a':α}{K:WP}
theorem Ct(h:Ab W0 w L)[hA:At L b (reca E b o s rows) F][hS:Acp E (rows.getD i default) 0 v a']
  (hK:∀w',Ab W0 w' (F (reca E b o s (rows.set i a')))->K w') (hi:i<rows.length:=by first|omega|(simp only[List.length_set,List.length_append,List.length_cons,List.length_nil,List.length_take,List.length_drop,List.length_map,Int.toNat_natCast] <;> omega)|fail) (hn:n=E.sz:=by exact rfl):st b (o+i*n) v K w:=
 A8a (hA:=hA) h (by rw[hn];rfl) hi hS.eq hS.lt hK
theorem C1(h:Ab W0 w L)[hA:At L b (reca E b o s rows) F][hS:Acp E (rows.getD i default) j1 v a']
  (hK:∀w',Ab W0 w' (F (reca E b o s (rows.set i a')))->K w') (hi:i<rows.length:=by first|omega|(simp only[List.length_set,List.length_append,List.length_cons,List.length_nil,List.length_take,List.length_drop,List.length_map,Int.toNat_natCast] <;> omega)|fail) (hn:n=E.sz:=by exact rfl):st b (o+i*n+j1) v K w:=
 A8a (hA:=hA) h (by rw[hn];omega) hi hS.eq hS.lt hK
end
class Ln{α:Type}(E:Rec α)(vs:List Value)(a:outParam α):Prop where
 eq:E.cells a=vs
section
variable{o i n:Nat}{a':α}{K:WP}
theorem Bi{v0 v1 v2:Value}(h:Ab W0 w L)[hA:At L b (reca E b o s rows) F][hR:Ln E [v0,v1,v2] a']
  (hK:∀w',Ab W0 w' (F (reca E b o s (rows.set i a')))->K w') (hi:i<rows.length:=by first|omega|(simp only[List.length_set,List.length_append,List.length_cons,List.length_nil,List.length_take,List.length_drop,List.length_map,Int.toNat_natCast] <;> omega)|fail) (hn:n=E.sz:=by exact rfl):st b (o+i*n) v0 (st b (o+i*n+1) v1 (st b (o+i*n+1+1) v2 (K))) w:=
 Agc (hA:=hA) h hi hR.eq (by rw[hn]) hK rfl
theorem Ba{v0 v1 v2 v3:Value}(h:Ab W0 w L)[hA:At L b (reca E b o s rows) F][hR:Ln E [v0,v1,v2,v3] a']
  (hK:∀w',Ab W0 w' (F (reca E b o s (rows.set i a')))->K w') (hi:i<rows.length:=by first|omega|(simp only[List.length_set,List.length_append,List.length_cons,List.length_nil,List.length_take,List.length_drop,List.length_map,Int.toNat_natCast] <;> omega)|fail) (hn:n=E.sz:=by exact rfl):st b (o+i*n) v0 (st b (o+i*n+1) v1 (st b (o+i*n+1+1) v2 (st b (o+i*n+1+1+1) v3 (K)))) w:=
 Agc (hA:=hA) h hi hR.eq (by rw[hn]) hK rfl
theorem Bk{v0 v1 v2 v3 v4:Value}(h:Ab W0 w L)[hA:At L b (reca E b o s rows) F][hR:Ln E [v0,v1,v2,v3,v4] a']
  (hK:∀w',Ab W0 w' (F (reca E b o s (rows.set i a')))->K w') (hi:i<rows.length:=by first|omega|(simp only[List.length_set,List.length_append,List.length_cons,List.length_nil,List.length_take,List.length_drop,List.length_map,Int.toNat_natCast] <;> omega)|fail) (hn:n=E.sz:=by exact rfl):st b (o+i*n) v0 (st b (o+i*n+1) v1 (st b (o+i*n+1+1) v2 (st b (o+i*n+1+1+1) v3 (st b (o+i*n+1+1+1+1) v4 (K))))) w:=
 Agc (hA:=hA) h hi hR.eq (by rw[hn]) hK rfl
end
instance Acp.int{k:IntKind}{a n:Int}:Acp (Rec.int k) a 0 (.int k n) n:=⟨rfl,Nat.one_pos⟩
theorem Qy(b o k:Nat):Addr.add ⟨b,o,none⟩ k=⟨b,o+k,none⟩:=by
 unfold Addr.add;split
 ·simp_all
 ·rfl
theorem A8x{lo hi c:Nat}{a:OA}(h:Ab W0 w L)[hA:Km L s (recs E s rows) F](ha:a=GC s.a lo c E.sz)(hlo:lo<=hi)(hhi:hi<=rows.length)(hc:c=s.c)(hpos:0<E.sz) :
  Ab W0 w (F (recs E ⟨a,hi-lo,c-lo⟩ ((rows.drop lo).take (hi-lo)))):=by
 have hn:=BV (hA:=hA) h hpos;refine Km.one (hA:=hA) h λM h hb=>hb _ _ (h.turn (q:=0) rfl λg hg=>?_);subst ha hc;obtain⟨⟨h1,h2⟩,h3⟩:=hg;refine⟨⟨?_,?_⟩,?_⟩
 ·rw[Rec.flat_length];simp only[List.length_take,List.length_drop];congr 1;omega
 ·simp only;omega
 rcases h3 with⟨h4,h5,h6⟩|⟨b,o,pre,tl,h4,h5,h6,h7⟩
 ·left;refine⟨?_,?_,?_⟩
  ·simp only;unfold GC;split
   ·exact h4
   ·rw[h4];rfl
  ·simp only;omega
  ·simp only;omega
 ·right;have hrows:rows=rows.take lo++((rows.drop lo).take (hi-lo)++rows.drop hi):=by
   conv=>lhs;rw[<- List.take_append_drop lo rows]
   congr 1
   conv=>lhs;rw[<- List.take_append_drop (hi-lo) (rows.drop lo)]
   rw[List.drop_drop];congr 2;omega
  have hfl:E.flat rows=E.flat (rows.take lo)++(E.flat ((rows.drop lo).take (hi-lo))++E.flat (rows.drop hi)):=by
   rw[<- Rec.flat_append,<- Rec.flat_append];exact congrArg E.flat hrows
  have hlast:(s.c-lo-(hi-lo))*E.sz<=(E.flat (rows.drop hi)++tl).length:=by
   rw[List.length_append,Rec.flat_length,List.length_drop];have:(s.c-lo-(hi-lo))*E.sz=(rows.length-hi)*E.sz+(s.c-s.n)*E.sz:=by rw[<- Nat.add_mul];congr 1;omega
   omega
  by_cases hm:s.c=lo
  ·
   have hlo':lo=hi:=by omega
   have hr:rows.length=lo:=by omega
   refine⟨b,o,pre,E.flat rows++tl,?_,h5,?_,?_⟩
   ·show GC s.a lo s.c E.sz=_;unfold GC;rw[if_pos hm];exact h4
   ·have:(rows.drop lo).take (hi-lo)=[]:=by rw[hlo',Nat.sub_self,List.take_zero]
    show Hb.blk b (pre++E.flat ((rows.drop lo).take (hi-lo))++(E.flat rows++tl)) g;rw[this,Rec.flat_nil,List.append_nil,<- List.append_assoc];exact h6
   ·have:s.c-lo-(hi-lo)=0:=by omega
    show(s.c-lo-(hi-lo))*E.sz<=_;rw[this,Nat.zero_mul];exact Nat.zero_le _
  ·refine⟨b,o+lo*E.sz,pre++E.flat (rows.take lo),E.flat (rows.drop hi)++tl,?_,?_,?_,hlast⟩
   ·show GC s.a lo s.c E.sz=_;unfold GC;rw[if_neg hm,h4]
    simp only[Option.map_some,Option.some.injEq];exact Qy _ _ _
   ·rw[List.length_append,h5,Rec.flat_length,List.length_take,Nat.min_eq_left (by omega)]
   ·show Hb.blk b (pre++E.flat (rows.take lo)++E.flat ((rows.drop lo).take (hi-lo))++(E.flat (rows.drop hi)++tl)) g;rw[hfl] at h6;simpa[List.append_assoc] using h6
end
end Go.Hb
namespace Go.Hb
class CO(W:World)(s:Sl){α:outParam Type}(E:outParam (Rec α))(rows:outParam (List α)):Prop where
 len:s.n=rows.length
 at_:(s.a=none/\s.n=0)\/∃b o,s.a=some ⟨b,o,none⟩/\∀i j a,rows[i]? = some a->j<E.sz->W.cell? ⟨b,o+(i*E.sz+j),none⟩=(E.cells a)[j]?
theorem CO.of{W:World}{s:Sl}{α:Type}{E:Rec α}{rows:List α}(hpos:0<E.sz)(h:Agq W E.sz s (E.flat rows)):CO W s E rows:=by
 have hl:s.n=rows.length:=by
  have:=h.1;rw[Rec.flat_length] at this;exact(Nat.eq_of_mul_eq_mul_right hpos this).symm
 refine⟨hl,?_⟩;rcases h.2 with h1|⟨b,o,h1,h2⟩
 ·exact .inl h1
 ·refine .inr ⟨b,o,h1,λi j a ha hj=>?_⟩;have hlt:=(List.getElem?_eq_some_iff.1 ha).1;rw[h2 (i*E.sz+j) (by rw[Rec.flat_length];calc _<i*E.sz+E.sz:=by omega
   _=(i+1)*E.sz:=by rw[Nat.add_mul,Nat.one_mul]
   _<=_:=Nat.mul_le_mul_right _ (by omega)),Rec.flat_get ha hj]
class IU(W0:World)(L:List HP)(s:Sl){α:outParam Type}(E:outParam (Rec α))(rows:outParam (List α)):Prop where
 rd:∀w,Ab W0 w L->CO w s E rows
section
variable{L:List HP}{F:HP->List HP}{b:Nat}{s:Sl}{W W0 w:World}
section
variable{α:Type}{E:Rec α}{rows:List α}
class Gv{α:Type}(E:Rec α):Prop where
 pos:0<E.sz
instance {k:IntKind}:Gv (Rec.int k):=⟨Nat.one_pos⟩
instance:Gv Rec.str:=⟨Nat.one_pos⟩
instance:Gv Rec.nat:=⟨Nat.one_pos⟩
instance IU.recs[hA:Km L s (recs E s rows) F][hp:Gv E]:IU W0 L s E rows:=⟨λw h=>by
 refine Km.one (hA:=hA) h λM h _=>CO.of hp.pos ?_;refine⟨(IN (q:=0) h rfl).1,?_⟩;obtain⟨g,hg,⟨h1,h2⟩,h3⟩:=h.get (q:=0) rfl;rcases h3 with⟨h4,h5,_⟩|⟨b,o,pre,tl,h4,_⟩
 ·exact .inl ⟨h4,h5⟩
 ·exact .inr ⟨b,o,h4,λj hj=>Sv (q:=0) h rfl h4 hj⟩⟩
instance IU.old[hA:AtO L W][hr:CO W s E rows]:IU W0 L s E rows:=⟨λw h=>by
 obtain⟨M,h1⟩:=hA.pos;have h2:=h.perm h1;refine⟨hr.len,?_⟩;rcases hr.at_ with h3|⟨b,o,h3,h4⟩
 ·exact .inl h3
 ·refine .inr ⟨b,o,h3,λi j a ha hj=>?_⟩;have h5:=h4 i j a ha hj;rw[List.getElem?_eq_getElem (by rw[E.len];exact hj)] at h5 ⊢
  exact h2.cell_old (q:=0) rfl h5⟩
theorem Bt(h:Ab W0 w L)[hR:IU W0 L s E rows]:s.n=rows.length:=(hR.rd w h).len
theorem AB{i:Int}{K:Nat->Nat->WP}(h:Ab W0 w L)[hR:IU W0 L s E rows](hK:∀b o,s.a=some ⟨b,o,none⟩->K b o w)(h0:0<=i:=by first|omega|(simp only[List.length_set,List.length_append,List.length_cons,List.length_nil,List.length_take,List.length_drop,List.length_map,Int.toNat_natCast] <;> omega)|fail)(h1:i<(s.n:Int):=by first|omega|(simp only[List.length_set,List.length_append,List.length_cons,List.length_nil,List.length_take,List.length_drop,List.length_map,Int.toNat_natCast] <;> omega)|fail):CB s.a s.n i K w:=by
 rcases(hR.rd w h).at_ with⟨_,h3⟩|⟨b,o,h3,_⟩
 ·omega
 ·exact⟨b,o,h3,⟨h0,h1⟩,hK b o h3⟩
theorem GS(h:Ab W0 w L)[hR:IU W0 L s E rows]:F9 w s.a (s.n*E.sz)=some (E.flat rows):=by
 have hr:=hR.rd w h;rw[hr.len];rcases hr.at_ with⟨h1,h2⟩|⟨b,o,h1,h2⟩
 ·have:rows=[]:=List.length_eq_zero_iff.1 (by rw[<- hr.len];exact h2);rw[h1,this];rfl
 ·rw[h1,<- Rec.flat_length];refine Sc (E.flat rows) o λj hj=>?_;rw[Rec.flat_length] at hj;have hsz:0<E.sz:=Nat.pos_of_ne_zero λh=>by rw[h] at hj;omega
  have hd:=Nat.div_add_mod j E.sz;have hi:j / E.sz<rows.length:=(Nat.div_lt_iff_lt_mul hsz).2 hj;have hm:=Nat.mod_lt j hsz;have h3:=h2 (j / E.sz) (j % E.sz) rows[j / E.sz] (List.getElem?_eq_getElem hi) hm;have hj2:j / E.sz*E.sz+j % E.sz=j:=by rw[Nat.mul_comm];exact hd
  rw[hj2] at h3;rw[h3,<- Rec.flat_get (List.getElem?_eq_getElem hi) hm,hj2]
end
section
variable{α:Type}[Inhabited α]{E:Rec α}{rows:List α}
theorem Ait{b o i j:Nat}(hR:CO w s E rows)(ha:s.a=some ⟨b,o,none⟩)(hi:i<rows.length)(hj:j<E.sz):w.cell? ⟨b,o+(i*E.sz+j),none⟩=(E.cells (rows.getD i default))[j]?:=by
 rcases hR.at_ with⟨h3,_⟩|⟨b',o',h3,h4⟩
 ·rw[h3] at ha;cases ha
 ·rw[h3] at ha;cases ha
  exact h4 i j _ (getD_some hi) hj
theorem Aik{b o i j p:Nat}{k:CK}{x:k.ty}{K:k.ty->WP}(ha:s.a=some ⟨b,o,none⟩)(h:Ab W0 w L)[hR:IU W0 L s E rows](hp:p=o+(i*E.sz+j))(hi:i<rows.length)
  (hc:(E.cells (rows.getD i default))[j]? = some (k.val x)) (hK:K x w) (hu:k ≠ .any:=by simp):ld k b p K w:=by
 subst hp;exact WY ((Ait (hR.rd w h) ha hi (by rw[<- E.len (rows.getD i default)];exact(List.getElem?_eq_some_iff.1 hc).1)).trans hc) hu hK
theorem WX{b o i j p:Nat}{k:CK}{x:k.ty}{K:k.ty->WP}(ha:s.a=some ⟨b,o,none⟩)[hR:IU W0 L s E rows](hp:p=o+(i*E.sz+j))(hi:i<rows.length)
  (hc:(E.cells (rows.getD i default))[j]? = some (k.val x)) (hK:K x w):WW (λw'=>Ab W0 w' L) k b p K w:=by
 subst hp;exact GM x (λw' h=>(Ait (hR.rd w' h) ha hi (by rw[<- E.len (rows.getD i default)];exact(List.getElem?_eq_some_iff.1 hc).1)).trans hc) hK
section
variable{o i n j1 j2 j3 j4:Nat}{k:CK}{x:k.ty}{K:k.ty->WP}
theorem AE(ha:s.a=some ⟨b,o,none⟩)(h:Ab W0 w L)[hR:IU W0 L s E rows](hK:K x w)(hi:i<rows.length:=by first|omega|(simp only[List.length_set,List.length_append,List.length_cons,List.length_nil,List.length_take,List.length_drop,List.length_map,Int.toNat_natCast] <;> omega)|fail)(hc:(E.cells (rows.getD i default))[0]? = some (k.val x):=by exact rfl)(hn:n=E.sz:=by exact rfl)(hu:k ≠ .any:=by simp):ld k b (o+i*n) K w:=
 Aik (hR:=hR) ha h (j:=0) (by rw[hn];rfl) hi hc hK hu
theorem Bh(ha:s.a=some ⟨b,o,none⟩)[hR:IU W0 L s E rows](hK:K x w)(hi:i<rows.length:=by first|omega|(simp only[List.length_set,List.length_append,List.length_cons,List.length_nil,List.length_take,List.length_drop,List.length_map,Int.toNat_natCast] <;> omega)|fail)(hc:(E.cells (rows.getD i default))[0]? = some (k.val x):=by exact rfl)(hn:n=E.sz:=by exact rfl):WW (λw'=>Ab W0 w' L) k b (o+i*n) K w:=
 WX (hR:=hR) ha (j:=0) (by rw[hn];rfl) hi hc hK
theorem BD(ha:s.a=some ⟨b,o,none⟩)(h:Ab W0 w L)[hR:IU W0 L s E rows](hK:K x w)(hi:i<rows.length:=by first|omega|(simp only[List.length_set,List.length_append,List.length_cons,List.length_nil,List.length_take,List.length_drop,List.length_map,Int.toNat_natCast] <;> omega)|fail)(hc:(E.cells (rows.getD i default))[j1]? = some (k.val x):=by exact rfl)(hn:n=E.sz:=by exact rfl)(hu:k ≠ .any:=by simp):ld k b (o+i*n+j1) K w:=
 Aik (hR:=hR) ha h (j:=j1) (by rw[hn];omega) hi hc hK hu
theorem Bp(ha:s.a=some ⟨b,o,none⟩)[hR:IU W0 L s E rows](hK:K x w)(hi:i<rows.length:=by first|omega|(simp only[List.length_set,List.length_append,List.length_cons,List.length_nil,List.length_take,List.length_drop,List.length_map,Int.toNat_natCast] <;> omega)|fail)(hc:(E.cells (rows.getD i default))[j1]? = some (k.val x):=by exact rfl)(hn:n=E.sz:=by exact rfl):WW (λw'=>Ab W0 w' L) k b (o+i*n+j1) K w:=
 WX (hR:=hR) ha (j:=j1) (by rw[hn];omega) hi hc hK
theorem BI(ha:s.a=some ⟨b,o,none⟩)(h:Ab W0 w L)[hR:IU W0 L s E rows](hK:K x w)(hi:i<rows.length:=by first|omega|(simp only[List.length_set,List.length_append,List.length_cons,List.length_nil,List.length_take,List.length_drop,List.length_map,Int.toNat_natCast] <;> omega)|fail)(hc:(E.cells (rows.getD i default))[j1+j2]? = some (k.val x):=by exact rfl)(hn:n=E.sz:=by exact rfl)(hu:k ≠ .any:=by simp):ld k b (o+i*n+j1+j2) K w:=
 Aik (hR:=hR) ha h (j:=j1+j2) (by rw[hn];omega) hi hc hK hu
theorem Bq(ha:s.a=some ⟨b,o,none⟩)[hR:IU W0 L s E rows](hK:K x w)(hi:i<rows.length:=by first|omega|(simp only[List.length_set,List.length_append,List.length_cons,List.length_nil,List.length_take,List.length_drop,List.length_map,Int.toNat_natCast] <;> omega)|fail)(hc:(E.cells (rows.getD i default))[j1+j2]? = some (k.val x):=by exact rfl)(hn:n=E.sz:=by exact rfl):WW (λw'=>Ab W0 w' L) k b (o+i*n+j1+j2) K w:=
 WX (hR:=hR) ha (j:=j1+j2) (by rw[hn];omega) hi hc hK
theorem BJ(ha:s.a=some ⟨b,o,none⟩)(h:Ab W0 w L)[hR:IU W0 L s E rows](hK:K x w)(hi:i<rows.length:=by first|omega|(simp only[List.length_set,List.length_append,List.length_cons,List.length_nil,List.length_take,List.length_drop,List.length_map,Int.toNat_natCast] <;> omega)|fail)(hc:(E.cells (rows.getD i default))[j1+j2+j3]? = some (k.val x):=by exact rfl)(hn:n=E.sz:=by exact rfl)(hu:k ≠ .any:=by simp):ld k b (o+i*n+j1+j2+j3) K w:=
 Aik (hR:=hR) ha h (j:=j1+j2+j3) (by rw[hn];omega) hi hc hK hu
theorem Br(ha:s.a=some ⟨b,o,none⟩)[hR:IU W0 L s E rows](hK:K x w)(hi:i<rows.length:=by first|omega|(simp only[List.length_set,List.length_append,List.length_cons,List.length_nil,List.length_take,List.length_drop,List.length_map,Int.toNat_natCast] <;> omega)|fail)(hc:(E.cells (rows.getD i default))[j1+j2+j3]? = some (k.val x):=by exact rfl)(hn:n=E.sz:=by exact rfl):WW (λw'=>Ab W0 w' L) k b (o+i*n+j1+j2+j3) K w:=
 WX (hR:=hR) ha (j:=j1+j2+j3) (by rw[hn];omega) hi hc hK
end
end
end
section
variable{L:List HP}{F:HP->List HP}{b:Nat}{s:Sl}{W W0 w:World}{α:Type}{E:Rec α}{rows:List α}
theorem J7{lo c k n:Nat}(h:Ab W0 w L)[hR:IU W0 L s E rows](hk:lo+k<=rows.length)(hc:rows.length<=c)(hn:n=k*E.sz):F9 w (GC s.a lo c E.sz) n=some (E.flat ((rows.drop lo).take k)):=by
 have hr:=hR.rd w h;have hfl:(E.flat ((rows.drop lo).take k)).length=k*E.sz:=by
  rw[Rec.flat_length,List.length_take,List.length_drop,Nat.min_eq_left (by omega)]
 by_cases hk0:k=0
 ·subst hk0;rw[hn,Nat.zero_mul,List.take_zero,Rec.flat_nil];unfold GC;rcases hr.at_ with⟨h1,h2⟩|⟨b,o,h1,h2⟩
  ·rw[h1];simp[F9]
  ·rw[h1];split
   ·rfl
   ·simp only[Option.map_some,Qy];rfl
 ·rcases hr.at_ with⟨h1,h2⟩|⟨b,o,h1,h2⟩
  ·have:=hr.len;omega
  ·have hs:GC s.a lo c E.sz=some ⟨b,o+lo*E.sz,none⟩:=by
    unfold GC;rw[if_neg (by omega),h1]
    simp only[Option.map_some,Qy]
   rw[hs,hn,<- hfl];refine Sc _ _ λj hj=>?_;rw[hfl] at hj;have hsz:0<E.sz:=Nat.pos_of_ne_zero λh=>by rw[h] at hj;omega
   have hd:=Nat.div_add_mod j E.sz;have hi:j / E.sz<k:=(Nat.div_lt_iff_lt_mul hsz).2 hj;have hm:=Nat.mod_lt j hsz;have hlt:lo+j / E.sz<rows.length:=by omega
   have h3:=h2 (lo+j / E.sz) (j % E.sz) rows[lo+j / E.sz] (List.getElem?_eq_getElem hlt) hm;have hj2:j / E.sz*E.sz+j % E.sz=j:=by rw[Nat.mul_comm];exact hd
   have hj3:o+((lo+j / E.sz)*E.sz+j % E.sz)=o+lo*E.sz+j:=by rw[Nat.add_mul];omega
   rw[hj3] at h3;rw[h3];have h4:((rows.drop lo).take k)[j / E.sz]? = some rows[lo+j / E.sz]:=by
    rw[List.getElem?_take_of_lt hi,List.getElem?_drop,List.getElem?_eq_getElem hlt]
   rw[<- Rec.flat_get h4 hm,hj2]
theorem Ab.blkS{cs:List Value}{n:Nat}(E:Rec α)(rows:List α)[hA:At L b (blk b cs) F](h:Ab W0 w L)(hc:E.flat rows=cs)(hn:rows.length=n):Ab W0 w (F (Hb.recs E ⟨some ⟨b,0,none⟩,n,n⟩ rows)):=
 At.turn (hA:=hA) h λg hg=>by
  subst hc hn;exact⟨⟨by rw[Rec.flat_length],Nat.le_refl _⟩,.inr ⟨b,0,[],[],rfl,rfl,by simpa using hg,by simp⟩⟩
theorem Avl{ty by_ k n:Nat}{z:List Value}{cs:List Value}{rows new:List α}{K:Sl->WP}{g:World->Option (List Value)}[Inhabited α](h:Ab W0 w (blk b cs::L))(E:Rec α)(hc:E.flat rows=cs)(hk:rows.length=k)(hnew:g w=some (E.flat new))(hn:n=new.length)
  (hok:SW (E.flat new)=true) (hz:z.length=E.sz) (hpos:0<E.sz) (hby:(rows.length+new.length)*by_<=140737488355328)
  (hK:∀s' w',s'.n=rows.length+new.length->Ab W0 w' (Hb.recs E s' (rows++new)::L)->K s' w'):AU ty E.sz by_ z ⟨some ⟨b,0,none⟩,k,k⟩ n g K w:=by
 have h2:Ab W0 w (Hb.recs E ⟨some ⟨b,0,none⟩,k,k⟩ rows::L):=Ab.blkS (b:=b) (L:=blk b cs::L) E rows h hc hk;exact DK (s:=⟨some ⟨b,0,none⟩,k,k⟩) h2 hnew hn hok hz hpos hby hK
theorem Ab.nilR(E:Rec α)(h:Ab W0 w L):Ab W0 w (Hb.recs E ⟨none,0,0⟩ []::L):=Bad h
end
class OkR{α:Type}(E:Rec α):Prop where
 ok:∀a,SW (E.cells a)=true
theorem RW:∀{a b:List Value},SW a=true->SW b=true->SW (a++b)=true
 | [],_,_,h=>h
 | v::a,b,h,h'=>by cases v <;> first|exact RW (a:=a) h h'|cases h
theorem Cx{α:Type}{E:Rec α}[h:OkR E]:∀(rows:List α),SW (E.flat rows)=true
 | []=>rfl
 | a::rows=>RW (h.ok a) (Cx rows)
instance:OkR Rec.str:=⟨λ_=>rfl⟩
instance {k:IntKind}:OkR (Rec.int k):=⟨λ_=>rfl⟩
theorem CA{α:Type}[Inhabited α]{l:List α}{i:Nat}(h:i<l.length):l.take (i+1)=l.take i++[l.getD i default]:=by
 rw[List.take_add_one,List.getD_eq_getElem?_getD,List.getElem?_eq_getElem h];rfl
theorem HE(a b:BA):Vr a b=decide (a=b):=by
 unfold Vr;rw[Bool.eq_iff_iff,beq_iff_eq,decide_eq_true_eq,ByteArray.toList_eq,ByteArray.toList_eq];constructor
 ·intro h;exact ByteArray.ext (Array.toList_inj.1 h)
 ·rintro rfl;rfl
section
variable{K M:WP}{w:World}{a b:Int}
theorem Bg(h1:a<b->K w)(h2:¬a<b->M w):Aj (decide (a<b)) K M w:=Al (λh=>h1 (of_decide_eq_true h)) λh=>h2 (of_decide_eq_false h)
theorem CF(h1:a<=b->K w)(h2:¬a<=b->M w):Aj (decide (a<=b)) K M w:=Al (λh=>h1 (of_decide_eq_true h)) λh=>h2 (of_decide_eq_false h)
theorem De(h1:b<a->K w)(h2:¬b<a->M w):Aj (decide (a>b)) K M w:=Al (λh=>h1 (of_decide_eq_true h)) λh=>h2 (of_decide_eq_false h)
theorem Dd(h1:b<=a->K w)(h2:¬b<=a->M w):Aj (decide (a>=b)) K M w:=Al (λh=>h1 (of_decide_eq_true h)) λh=>h2 (of_decide_eq_false h)
theorem Be(h1:a=b->K w)(h2:¬a=b->M w):Aj (a==b) K M w:=Al (λh=>h1 (by simpa using h)) λh=>h2 (by simpa using h)
theorem CW(h1:¬a=b->K w)(h2:a=b->M w):Aj (a != b) K M w:=Al (λh=>h1 (by simpa using h)) λh=>h2 (by simpa using h)
theorem Cd{c:Prop}[Decidable c](h1:c->K w)(h2:¬c->M w):Aj (decide c) K M w:=Al (λh=>h1 (of_decide_eq_true h)) λh=>h2 (of_decide_eq_false h)
theorem C5{c:Prop}[Decidable c](h1:¬c->K w)(h2:c->M w):Aj (!decide c) K M w:=Al (λh=>h1 (by simpa using h)) λh=>h2 (by simpa using h)
theorem Cp{α:Type}{o:Option α}(h1:∀x,o=some x->K w)(h2:o=none->M w):Aj o.isSome K M w:=by
 cases o with
 | none=>exact h2 rfl
 | some x=>exact h1 x rfl
end
end Go.Hb
namespace Go.Hb
def Gq(b:Nat)(o:Obj):HP:=λh=>h b=some o
section
variable{W0 w:World}{L M:List HP}{b:Nat}
theorem Ab.swapC{w':World}{o o':Obj}(h:Ab W0 w (Gq b o::L))(ho:w'.os=w.os)(hu:w'.output=w.output)(hb:w'.heap[b]? = some o')(hk:∀x y,x≠b->w.heap[x]? = some y->w'.heap[x]? = some y) :
  Ab W0 w' (Gq b o'::L):=by
 obtain⟨h1,h2,ha,hb2,hc,hd,he⟩:=h.st;refine⟨ho.trans h.os,hu.trans h.out,λx=>if x=b then some o' else none,h2,λx y hx=>?_,λx y hx=>?_,λx=>?_,by simp[Gq],he⟩
 ·simp only at hx;split at hx
  ·rename_i hxb;subst hxb;cases hx;exact hb
  ·cases hx
 ·have hxb:x≠b:=by
   intro hxb;subst hxb
   rcases hc x with h'|h'
   ·have hd:h1 x=some o:=hd;rw[hd] at h';cases h'
   ·rw[hx] at h';cases h'
  exact hk x y hxb (hb2 _ _ hx)
 ·simp only
  by_cases hxb:x=b
  ·subst hxb;rcases hc x with h'|h'
   ·have hd:h1 x=some o:=hd;rw[hd] at h';cases h'
   ·exact .inr h'
  ·left;rw[if_neg hxb]
theorem Ab.allocC{o:Obj}(h:Ab W0 w L):Ab W0 (w.alloc o) (Gq w.heap.size o::L):=by
 have hold:Fh (DM w) (DM (w.alloc o)):=by
  intro x y hx;simp only[DM,World.alloc,Array.getElem?_push] at hx ⊢;have hlt:x<w.heap.size:=(Array.getElem?_eq_some_iff.1 hx).1;rw[if_neg (by omega)];exact hx
 refine⟨h.os,h.out,λx=>if x=w.heap.size then some o else none,DM w,λx y hx=>?_,hold,λx=>?_,by simp[Gq],h.st⟩
 ·simp only at hx;split at hx
  ·rename_i hxb;subst hxb;cases hx;show(w.heap.push _)[w.heap.size]? = _;simp
  ·cases hx
 ·simp only
  by_cases hxb:x=w.heap.size
  ·right;subst hxb;simp[DM]
  ·left;rw[if_neg hxb]
theorem Ab.objC{o:Obj}(h:Ab W0 w (Gq b o::M)):w.heap[b]? = some o:=by
 obtain⟨g,hg,hb⟩:=h.get (q:=0) rfl;exact hg _ _ hb
def chn(c cap:Nat)(buf:List Value):HP:=Ks λ(z:Nat×Nat)=>Gq c (.chan cap buf.toArray false z.1 z.2 false)
theorem Lt{c cap:Nat}{buf:List Value}(h:Ab W0 w (chn c cap buf::M)):∃s r,Ab W0 w (Gq c (.chan cap buf.toArray false s r false)::M):=by
 obtain⟨⟨s,r⟩,h⟩:=h.openE;exact⟨s,r,h⟩
theorem El{c cap s r:Nat}{buf:List Value}(h:Ab W0 w (Gq c (.chan cap buf.toArray false s r false)::M)):Ab W0 w (chn c cap buf::M):=Ab.shutE (s,r) h
end
end Go.Hb
