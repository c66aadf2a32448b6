import Derived.WalkKit
import Derived.OrdersHeld
import Derived.Laws.StructEq
import Derived.Deep.LoopGhost
import Derived.Test.YtjipofkjmmpjdaaGreatChecked
import Derived.KernelRfl
set_option linter.unusedVariables false
set_option linter.unusedSimpArgs false
set_option linter.unnecessarySimpa false
set_option linter.unusedSectionVars false
set_option maxRecDepth 100000
open Go.Proofs.Tryz
open List (range drop_drop foldl_cons all_cons mapM_cons map_cons getElem?_toArray mem_cons all_eq_true mem_range mem_filter mem_map replicate mem_cons_self mem_cons_of_mem all_nil)
open Nat (beq ble lt_of_lt_of_le eq_of_beq_eq_true succ_mul beq_refl le_refl le_trans add_mul zero_add mul_pos)
open Option (isSome_iff_exists isSome_none isSome_some bind_some)
open Go.Sem (run_bind run_pure run_ite)
open Go.Result (andThen_ok)
open Array (getElem?_toList toList_inj)
open Go.Instr (fieldAt sureAddr indexAt sliceBound sliceAt fill loadAt storeAt)
open Bool (and_eq_true not_eq_eq_eq_not or_eq_false_iff false_eq_true or_eq_true)
namespace Go.Hb
abbrev WP:=World->Prop
abbrev VW:=Value->WP
abbrev BA:=ByteArray
def JT:Nat->List Bool->List Bool
 |0,l=>l
 |n+1,l=>true::JT n l
abbrev pq(b o:Nat):Value:=.pointer (some ⟨b,o,none⟩)
abbrev _root_.Go.Value.i(x:Int):Value:=.int .i64 x
abbrev _root_.Go.Value.s(x:ByteArray):Value:=.string x
abbrev _root_.Go.Value.p(x:Option Addr):Value:=.pointer x
abbrev _root_.Go.Value.b(x:Bool):Value:=.bool x
abbrev _root_.Go.Value.l(a:Option Addr)(n c:Nat):Value:=.slice a n c
abbrev OA:=Option Addr
abbrev Dy:=List Value
abbrev EW:=Dy->WP
def unk:Value:=.complex .f32 0 0
def gt:Dy->Nat->Value
 | [],_=>unk
 | v::_,0=>v
 | _::a,t+1=>gt a t
def pt:Dy->Nat->Value->Dy
 | [],_,_=>[]
 | _::a,0,v=>v::a
 | u::a,t+1,v=>u::pt a t v
def ptO(a:Dy):Option Nat->Value->Dy
 | none,_=>a
 | some t,v=>pt a t v
def ev(a:Dy):Operand->Value
 | .tmp t=>gt a t
 | .const v=>v
 | .global g=>.pointer (some ⟨g,0,none⟩)
 | .func f=>.func (.func f) #[] #[]
def IF:Operand->Bool
 | .global _=>true
 | _=>false
def isU:Value->Bool
 | .complex _ _ _=>true
 | _=>false
inductive CK where
 | int (k:IntKind)|bool|str|ptr|slc|any
structure Sl where
 a:OA
 n:Nat
 c:Nat
abbrev CK.ty:CK->Type
 | .int _=>Int
 | .bool=>Bool
 | .str=>BA
 | .ptr=>OA
 | .slc=>Sl
 | .any=>Value
def CK.val:(k:CK)->k.ty->Value
 | .int k,n=>.int k n
 | .bool,b=>.bool b
 | .str,s=>.string s
 | .ptr,p=>.pointer p
 | .slc,s=>.slice s.a s.n s.c
 | .any,v=>v
def Nb:IntKind->IntKind->Bool
 | .i8,.i8|.i16,.i16|.i32,.i32|.i64,.i64|.u8,.u8|.u16,.u16|.u32,.u32|.u64,.u64=>true
 | _,_=>false
def CK.un:(k:CK)->Value->Option k.ty
 | .int k,v=>match v with
  | .int d n=>cond (Nb k d) (some n) none
  | _=>none
 | .bool,v=>match v with
  | .bool b=>some b
  | _=>none
 | .str,v=>match v with
  | .string b=>some b
  | _=>none
 | .ptr,v=>match v with
  | .pointer b=>some b
  | _=>none
 | .slc,v=>match v with
  | .slice a n c=>some ⟨a,n,c⟩
  | _=>none
 | .any,v=>cond (isU v) none (some v)
def A61:List (Option<|List CK)->Option (List CK)
 | []=>some []
 | some a::l=>match A61 l with
  | some b=>some (a++b)
  | none=>none
 | none::_=>none
def A5s(l:List CK):Nat->List CK
 | 0=>[]
 | n+1=>l++A5s l n
def Ud(P:Program):Nat->TypeId->Option (List CK)
 | 0,_=>none
 | d+1,t=>match P.underlying t with
  | some (.int k)=>some [.int k]
  | some .bool=>some [.bool]
  | some .string=>some [.str]
  | some (.pointer _)=>some [.ptr]
  | some (.slice _)=>some [.slc]
  | some (.interface _)=>some [.any]
  | some (.func ..)=>some [.any]
  | some (.map ..)=>some [.any]
  | some (.struct fs)=>A61 (fs.toList.map λf=>Ud P d f.type)
  | some (.array n e)=>match Ud P d e with
   | some l=>some (A5s l n)
   | none=>none
  | _=>none
def G8(P:Program)(t:TypeId):Bool:=
 match P.underlying t with
 | some (.struct _)|some (.array _ _)=>true
 | _=>false
def Ex(P:Program)(t:TypeId):Nat:=
 match P.info? t with
 | some i=>i.size
 | none=>0
def Cv:WP:=λ_=>False
def ld(k:CK)(b o:Nat)(K:k.ty->WP):WP:=λw=>
 match (w.cell? ⟨b,o,none⟩).bind k.un with
 | some x=>K x w
 | none=>False
def Mk(b o:Nat)(N:WP)(K:TypeId->VW):WP:=λw=>
 match w.cell? ⟨b,o,none⟩ with
 | some .nilIface=>N w
 | some (.iface t v)=>K t v w
 | _=>False
def lds:List CK->Nat->Nat->(List Value->WP)->WP
 | [],_,_,K=>K []
 | k::ks,b,o,K=>ld k b o λx=>lds ks b (o+1) λvs=>K (k.val x::vs)
def st(b o:Nat)(v:Value)(K:WP):WP:=λw=>
 (w.cell? ⟨b,o,none⟩).isSome=true/\w.frozen? ⟨b,o,none⟩=false/\K (w.setCell ⟨b,o,none⟩ v)
def T7:List Value->Nat->Nat->WP->WP
 | [],_,_,K=>K
 | v::vs,b,o,K=>st b o v (T7 vs b (o+1) K)
def Az(a:List Value)(T:TypeId)(K:Nat->WP):WP:=λw=>K w.heap.size (w.alloc<|.cells a.toArray T)
def Ac(p:OA)(K:Nat->Nat->WP):WP:=λw=>∃b o,p=some ⟨b,o,none⟩/\K b o w
def AV(c:Prop)(K:WP):WP:=λw=>c/\K w
def Aj(b:Bool)(K L:WP):WP:=match b with
 | true=>K
 | false=>L
def Cd:Value->List Value
 | .agg cs=>cs.toList
 | v=>[v]
def Mv:List Value->Bool
 | []=>true
 | v::l=>match v with
  | .agg _=>false
  | .tuple _=>false
  | .complex _ _ _=>false
  | _=>Mv l
def HJ(k:IntKind)(x y:Int):Int:=k.wrap (x*2 ^ (min y.toNat k.bits))
def CV(k:IntKind)(x y:Int):Int:=x.fdiv (2 ^ (min y.toNat k.bits))
def sEq(x y:BA):Bool:=x.toList==y.toList
def sLt(x y:BA):Bool:=Op.bytesLess x.toList y.toList
def Ab6(op:BinOp)(k:IntKind)(a b:Int)(K:Value->Prop):Prop:=
 match op with
 | .add=>K (.int k<|k.wrap<|a+b)
 | .sub=>K (.int k<|k.wrap<|a-b)
 | .mul=>K (.int k<|k.wrap<|a*b)
 | .quo=>b≠0/\K (.int k<|k.wrap<|a.tdiv b)
 | .rem=>b≠0/\K (.int k<|a.tmod b)
 | .and=>K (.int k<|bits .and k a b)
 | .or=>K (.int k<|bits .or k a b)
 | .xor=>K (.int k<|bits .xor k a b)
 | .andNot=>K (.int k<|bits .andNot k a b)
 | .eql=>K (.bool<|a==b)
 | .neq=>K (.bool<|a != b)
 | .lss=>K (.bool<|decide<|a<b)
 | .leq=>K (.bool<|decide<|a<=b)
 | .gtr=>K (.bool<|decide<|a>b)
 | .geq=>K (.bool<|decide<|a>=b)
 | _=>False
def Ahd(op:BinOp)(a b:BA)(K:Value->Prop):Prop:=
 match op with
 | .add=>a.size+b.size<=9223372036854775807/\K (.string<|a++b)
 | .eql=>K (.bool<|sEq a b)
 | .neq=>K (.bool<|!sEq a b)
 | .lss=>K (.bool<|sLt a b)
 | .leq=>K (.bool<|sLt a b || sEq a b)
 | .gtr=>K (.bool !(sLt a b || sEq a b))
 | .geq=>K (.bool !sLt a b)
 | _=>False
def Avf(P:Program)(t:TypeId):Bool:=match P.underlying t with
 | some (.pointer _)=>true
 | _=>false
def J9(P:Program)(t:TypeId):Bool:=match P.underlying t with
 | some (.slice _)=>true
 | _=>false
def Ajo(P:Program)(t:TypeId):Bool:=match P.underlying t with
 | some .bool=>true
 | _=>false
def Dg(P:Program)(t:TypeId):Bool:=match P.underlying t with
 | some (.interface _)=>true
 | _=>false
def CD(P:Program)(t:TypeId):Bool:=match P.underlying t with
 | some .string=>true
 | _=>false
def eqI(op:BinOp)(b:Bool)(K:Value->Prop):Prop:=match op with
 | .eql=>K (.bool b)
 | .neq=>K (.bool<|!b)
 | _=>False
def HC(k:IntKind):List Value->List Value->(Bool->Prop)->Prop
 | [],ys,K=>match ys with
  | []=>K true
  | _=>False
 | x::xs,ys,K=>match x with
  | .int c a=>match ys with
   | y::ys=>match y with
    | .int d b=>cond (Nb k c && Nb k d) (HC k xs ys λr=>K<|(a==b) && r) False
    | _=>False
   | []=>False
  | _=>False
def HB(P:Program)(xs ys:List Value):List Field->(Bool->Prop)->Prop
 | [],K=>K true
 | f::fs,K=>match P.underlying f.type with
  | some (.int k)=>match xs[f.offset]? with
   | some (.int c a)=>match ys[f.offset]? with
    | some (.int d b) => cond (Nb k c && Nb k d && !(f.name == "_")) (HB P xs ys fs fun r => K ((a == b) && r)) False
    | _=>False
   | _=>False
  | _=>False
def Rg(P:Program)(op:BinOp)(t:TypeId)(u v:Value)(K:Value->Prop):Prop:=
 match u with
 | .agg xs=>match v with
  | .agg ys=>match P.underlying t with
   | some (.array n e)=>match P.underlying e with
    | some (.int k)=>cond ((P.info? e).isSome && beq (P.cellsOf e) 1 && beq xs.toList.length n) (HC k xs.toList ys.toList λb=>eqI op b K) False
    | _=>False
   | some (.struct fs)=>cond (P.stoodInHeld t) False (HB P xs.toList ys.toList fs.toList λb=>eqI op b K)
   | _=>False
  | _=>False
 | .int k a=>match v with
  | .int c b=>match op with
   | .shl=>0<=b/\K (.int k<|HJ k a b)
   | .shr=>0<=b/\K (.int k<|CV k a b)
   | op=>cond (Nb k c) (Ab6 op k a b K) False
  | _=>False
 | .string a=>match v with
  | .string b=>Ahd op a b K
  | _=>False
 | .pointer a=>match v with
  | .pointer none=>cond (Avf P t) (eqI op a.isNone K) False
  | _=>False
 | .slice a _ _=>match v with
  | .slice none _ _=>cond (J9 P t) (eqI op a.isNone K) False
  | _=>False
 | .bool a=>match v with
  | .bool b=>cond (Ajo P t) (eqI op (a==b) K) False
  | _=>False
 | _=>False
def Acx(P:Program)(op:BinOp)(t:TypeId)(u:Value)(K:Value->Prop):Prop:=
 match u with
 | .nilIface=>cond (Dg P t) (eqI op true K) False
 | .iface _ _=>cond (Dg P t) (eqI op false K) False
 | _=>False
def EO(P:Program)(t:TypeId):Bool:=match P.underlying t with
 | some (.func _ _ _)=>true
 | _=>false
def OO(P:Program)(op:BinOp)(t:TypeId)(u:Value)(K:Value->Prop):Prop:=
 match u with
 | .nilFunc=>cond (EO P t) (eqI op true K) False
 | .func _ _ _=>cond (EO P t) (eqI op false K) False
 | _=>False
def unI(op:UnOp)(v:Value)(K:Value->Prop):Prop:=
 match op with
 | .not=>match v with
  | .bool b=>K (.bool<|!b)
  | _=>False
 | .neg=>match v with
  | .int k n=>K (.int k<|k.wrap<|0-n)
  | _=>False
 | _=>False
def Jk(base:OA)(l m s:Nat):OA:=if m=l then base else base.map (·.add (l*s))
def loB(v:Option Value)(h:Nat)(K:Nat->Prop):Prop:=
 match v with
 | none=>K 0
 | some (.int _ i)=>(0<=i/\i<=(h:Int))/\K i.toNat
 | _=>False
def hiB(v:Option Value)(n c:Nat)(K:Nat->Prop):Prop:=
 match v with
 | none=>K n
 | some (.int _ i)=>(0<=i/\i<=(c:Int))/\K i.toNat
 | _=>False
def mxB(v:Option Value)(c:Nat)(K:Nat->Prop):Prop:=
 match v with
 | none=>K c
 | some (.int _ i)=>(0<=i/\i<=(c:Int))/\K i.toNat
 | _=>False
def GV(P:Program)(t:TypeId)(x:Value)(lo hi b:Option Value)(K:Value->Prop):Prop:=
 match x with
 | .string s=>cond (CD P t) (match b with
  | none=>hiB hi s.size s.size λh=>loB lo h λl=>K (.string<|s.extract l h)
  | some _=>False) False
 | .slice a n c=>match P.underlying t with
  | some (.slice e)=>cond (P.info? e).isSome (match hi with
   | none=>(match b with
    | none=>loB lo n λl=>K (.slice (Jk a l c<|Ex P e) (n-l)<|c-l)
    | some _=>False)
   | some _=>mxB b c λm=>hiB hi n m λh=>loB lo h λl=>K<|.slice (Jk a l m<|Ex P e) (h-l)<|m-l) False
  | _=>False
 | _=>False
def ID(P:Program)(t:TypeId)(f:Nat):Option (Nat×TypeId):=
 match P.underlying t with
 | some (.struct fs)=>match fs.toList[f]? with
  | some g=>some (g.offset,g.type)
  | none=>none
 | _=>none
def Hi(P:Program)(t:TypeId)(x:Value)(f:Nat)(K:Value->Prop):Prop:=
 match x with
 | .pointer (some ⟨b,o,none⟩)=>match ID P t f with
  | some (a,c)=>match Ex P c with
   | 0=>False
   | _+1=>K (.pointer<|some ⟨b,o+a,none⟩)
  | none=>False
 | _=>False
def Acz(P:Program)(t:TypeId)(cs:Array Value)(a:Nat)(K:Value->Prop):Prop:=
 match G8 P t with
 | true=>K (.agg ((cs.toList.drop a).take<|Ex P t).toArray)
 | false=>match cs.toList[a]? with
  | some v=>cond (isU v) False (K v)
  | none=>False
def KS(P:Program)(t:TypeId)(x:Value)(f:Nat)(K:Value->Prop):Prop:=
 match x with
 | .agg cs=>match ID P t f with
  | some (a,b)=>cond (P.underlying b).isSome (Acz P b cs a K) False
  | none=>False
 | _=>False
def Hm(P:Program)(t:TypeId)(x i:Value)(K:Value->Prop):Prop:=
 match i with
 | .int _ i=>match P.underlying t with
  | some (.slice e)=>match x with
   | .slice a n _=>cond (P.info? e).isSome (∃b o,a=some ⟨b,o,none⟩/\(0<=i/\i<(n:Int))/\K (.pointer<|some ⟨b,o+i.toNat*Ex P e,none⟩)) False
   | _=>False
  | some (.array n e)=>match x with
   | .pointer (some ⟨b,o,none⟩)=>cond (P.info? e).isSome ((0<=i/\i<(n:Int))/\K (.pointer<|some ⟨b,o+i.toNat*Ex P e,none⟩)) False
   | _=>False
  | _=>False
 | _=>False
def Bc(s:BA)(i:Nat):Int:=((s.data.toList[i]?).getD 0).toNat
def J8(P:Program)(t:TypeId)(x i:Value)(K:Value->Prop):Prop:=
 match i with
 | .int _ i=>match x with
  | .string s=>cond (CD P t) ((0<=i/\i<(s.size:Int))/\K (.int .u8<|Bc s i.toNat)) False
  | .agg cs=>match P.underlying t with
   | some (.array n e)=>match Ud P 9 e with
    | some [k]=>cond (G8 P e || !beq (Ex P e) 1 || !(P.info? e).isSome) False<| (0<=i/\i<(n:Int))/\∃x:k.ty,cs.toList[i.toNat]? = some (k.val x)/\isU (k.val x)=false/\K (k.val x)
    | _=>False
   | _=>False
  | _=>False
 | _=>False
def FT(x:Value)(i:Nat)(K:Value->Prop):Prop:=
 match x with
 | .tuple vs=>match vs.toList[i]? with
  | some v=>K v
  | none=>False
 | _=>False
def KA:List Value->Nat->List Value->List Value
 | cs,_,[]=>cs
 | cs,o,v::vs=>KA (pt cs o v) (o+1) vs
def DS:Value->Bool
 | .tuple _=>true
 | _=>false
def Ajh:Value->Bool
 | .pointer _=>true
 | .int _ _=>true
 | .string _=>true
 | .bool _=>true
 | _=>false
def GF(b:Nat->Option (Nat×Nat)):List Value->List (Nat×Value)->Option (List Value)
 | a,[]=>some a
 | a,(i,v)::r=>match b i with
  | none=>none
  | some (d,c)=>cond (isU v || !(beq (Cd v).length c) || !(ble (d+c) a.length)) none (cond (DS v) none<|GF b (KA a d<|Cd v) r)
def Di(P:Program)(t:TypeId):Option (List Value):=
 match P.info? t with
 | some i=>match i.zero with
  | some z=>some (Cd z)
  | none=>none
 | none=>none
def Yu(P:Program)(fs:List Field)(i:Nat):Option (Nat×Nat):=
 match fs[i]? with
 | some f=>some (f.offset,Ex P f.type)
 | none=>none
def FM(a:Dy):List (Nat×Operand)->List (Nat×Value)
 | []=>[]
 | (i,x)::l=>(i,ev a x)::FM a l
def Jv(P:Program)(t:TypeId)(a:List (Nat×Value)):Option (List Value):=
 match Di P t with
 | none=>none
 | some z=>match P.underlying t with
  | some (.struct fs)=>cond (fs.toList.all λf=>(P.info? f.type).isSome) (GF (Yu P fs.toList) z a) none
  | some (.array _ e)=>cond (P.info? e).isSome (GF (λi=>some (i*Ex P e,Ex P e)) z a) none
  | _=>none
def KL(P:Program)(t:TypeId)(a:List (Nat×Value))(K:Value->Prop):Prop:=
 match Jv P t a with
 | some cs=>K (.agg cs.toArray)
 | none=>False
def K7(P:Program)(d:TypeId)(x:Value)(K:Value->Prop):Prop:=
 match x with
 | .int _ n=>match P.underlying d with
  | some (.int k)=>K (.int k<|k.wrap n)
  | _=>False
 | .string s=>cond (CD P d) (K<|.string s) False
 | _=>False
def Aci(P:Program)(t:TypeId)(x:Value)(K:Value->Prop):Prop:=
 match x with
 | .string s=>cond (CD P t) (K<|.int .i64 (s.size:Int)) False
 | .slice _ n _=>cond (J9 P t) (K<|.int .i64 (n:Int)) False
 | .agg _=>match P.underlying t with
  | some (.array n _)=>K (.int .i64 (n:Int))
  | _=>False
 | _=>False
def Acp(x y:Value)(K:Value->Prop):Prop:=
 match x with
 | .int k a=>match y with
  | .int _ b=>K (.int k<|if b>a then b else a)
  | _=>False
 | _=>False
def Acu(x y:Value)(K:Value->Prop):Prop:=
 match x with
 | .int k a=>match y with
  | .int _ b=>K (.int k<|if b<a then b else a)
  | _=>False
 | _=>False
def mn(a b:Int):Int:=if b<a then b else a
def OL(x y z u:Value)(K:Value->Prop):Prop:=
 match x with
 | .int k a=>match y with
  | .int _ b=>match z with
   | .int _ c=>match u with
    | .int _ d=>K (.int k<|mn (mn (mn a b) c) d)
    | _=>False
   | _=>False
  | _=>False
 | _=>False
def SC(d:Dy)(c a b:Operand)(K:Value->Prop):Prop:=
 match ev d c with
 | .bool t=>match t with
  | true=>K (ev d a)
  | false=>K (ev d b)
 | _=>False
def JK(v:Value)(K:Value->Prop):Prop:=
 match v with
 | .pointer p=>∃b o,p=some ⟨b,o,none⟩/\K (.pointer<|some ⟨b,o,none⟩)
 | _=>False
def evO(a:Dy):Option Operand->Option Value
 | none=>none
 | some x=>some (ev a x)
def Fz(P:Program)(g:Dy)(o:Op):Option ((Value->Prop)->Prop):=
 match o with
 | .move x=>some λK=>K (ev g x)
 | .assign x=>some λK=>K (ev g x)
 | .pick c a b=>some (SC g c a b)
 | .nilCheck x=>some (JK<|ev g x)
 | .binOp op t x y _=>(match y with
  | .const c=>(match c with
   | .nilIface=>some (Acx P op t<|ev g x)
   | .nilFunc=>some (OO P op t<|ev g x)
   | c=>some<|Rg P op t (ev g x) c)
  | y=>some<|Rg P op t (ev g x)<|ev g y)
 | .makeInterface t x=>some λK=>cond ((P.underlying t).isSome && !Dg P t && !isU (ev g x)) (cond (Ajh<|ev g x) (K<|.iface t<|ev g x) False) False
 | .unOp op _ x=>some (unI op<|ev g x)
 | .convert s d x=>(match ev g x with
  | .int _ n=>cond (P.underlying s).isSome (some<|K7 P d<|.int .i64 n) none
  | .string b=>cond (CD P s) (cond (CD P d) (some<|K7 P d<|.string b) none) none
  | _=>none)
 | .slice t x lo hi e=>some (GV P t (ev g x) (evO g lo) (evO g hi)<|evO g e)
 | .fieldAddr t x f=>some (Hi P t (ev g x) f)
 | .field t x f=>some (KS P t (ev g x) f)
 | .indexAddr t x i=>some (Hm P t (ev g x)<|ev g i)
 | .index t x i=>some (J8 P t (ev g x)<|ev g i)
 | .extract t i=>some (FT (ev g t) i)
 | .build t ps=>some (KL P t<|FM g ps.toList)
 | .call c=>(match c.callee with
  | .builtin b=>(match b with
   | .len=>(match c.args.toList with
    | [x]=>(match c.argTypes.toList with
     | [t]=>some (Aci P t<|ev g x)
     | _=>none)
    | _=>none)
   | .max=>(match c.args.toList with
    | [x,y]=>some (Acp (ev g x)<|ev g y)
    | _=>none)
   | .min=>(match c.args.toList with
    | [x,y]=>some (Acu (ev g x)<|ev g y)
    | [x,y,z,u]=>some (OL (ev g x) (ev g y) (ev g z)<|ev g u)
    | _=>none)
   | _=>none)
  | _=>none)
 | _=>none
def eqL:List Nat->List Nat->Bool
 | [],[]=>true
 | a::l,b::m=>beq a b && eqL l m
 | _,_=>false
def Ao5(ps rs:List TypeId):Nat->List Func->List FuncId
 | _,[]=>[]
 | i,f::l=>cond (eqL f.params.toList ps && eqL f.resultTypes.toList rs) (i::Ao5 ps rs (i+1) l) (Ao5 ps rs (i+1) l)
def A6v(P:Program)(t:TypeId):List FuncId:=
 match P.underlying t with
 | some (.func ps rs _)=>Ao5 ps.toList rs.toList 0 P.funcs.toList
 | _=>[]
def Mq(K:FuncId->WP):List FuncId->List (FuncId×WP)
 | []=>[]
 | f::l=>(f,K f)::Mq K l
def ldV(b o:Nat)(N:WP)(l:List (FuncId×WP)):WP:=λw=>
 match w.cell? ⟨b,o,none⟩ with
 | some .nilFunc=>N w
 | some (.func (.func f) first cap)=>first=#[]/\cap=#[]/\∃p∈l,p.1=f/\p.2 w
 | _=>False
def Avr(S:World->Prop)(b o:Nat)(N:WP)(l:List (FuncId×WP)):WP:=λw=>
 ((∀w',S w'->w'.cell? ⟨b,o,none⟩=some .nilFunc)/\N w)\/∃p∈l,(∀w',S w'->w'.cell? ⟨b,o,none⟩=some (.func (.func p.1) #[] #[]))/\p.2 w
def GN(P:Program)(t:TypeId)(x:Value)(K:VW):WP:=
 match x with
 | .pointer (some ⟨b,o,none⟩)=>match Ud P 9 t with
  | some ks=>cond ((P.underlying t).isSome && (P.info? t).isSome && beq (Ex P t) ks.length) (match G8 P t with
   | true=>lds ks b o λvs=>K (.agg vs.toArray)
   | false=>match ks with
    | [k]=>match Dg P t with
     | true=>Mk b o (K .nilIface) λt v=>K (.iface t v)
     | false=>match EO P t with
      | true=>ldV b o (K .nilFunc) (Mq (λf=>K<|.func (.func f) #[] #[])<|A6v P t)
      | false=>ld k b o λx=>K (k.val x)
    | _=>Cv) Cv
  | none=>Cv
 | _=>Cv
def FH(P:Program)(t:TypeId)(x v:Value)(K:WP):WP:=
 match x with
 | .pointer (some ⟨b,o,none⟩)=>cond ((P.info? t).isSome && beq (Ex P t) (Cd v).length && Mv (Cd v) && !(Cd v).any isU) (T7 (Cd v) b o K) Cv
 | _=>Cv
def Jt(P:Program)(t:TypeId)(K:VW):WP:=
 match Di P t with
 | some z=>Az z t λb=>K (.pointer<|some ⟨b,0,none⟩)
 | none=>Cv
def YT(t:TypeId)(v:Value)(K:VW):WP:=
 cond (isU v) Cv (cond (DS v) Cv<|Az (Cd v) t λb=>K<|.pointer<|some ⟨b,0,none⟩)
def CH(z:List Value):Nat->List Value
 | 0=>[]
 | n+1=>z++CH z n
def CZ(P:Program)(t:TypeId)(n:Nat)(a:List (Nat×Value))(K:VW):WP:=
 match P.underlying t with
 | some (.slice e)=>match Di P e with
  | some z=>cond ((P.info? e).isSome && beq z.length (Ex P e) && ble (n*Ex P e) 65536) (match GF (λi=>some (i*Ex P e,Ex P e)) (CH z n) a with
   | some cs=>Az cs e λb=>K (.slice (some ⟨b,0,none⟩) n n)
   | none=>Cv) Cv
  | none=>Cv
 | _=>Cv
def Ij(e a:Nat)(z:List Value)(l c:Int)(K:Sl->WP):WP:=λw=>
 (0<=l/\l<=c/\c<=4611686018427387904/\(a:Int)*c<=281474976710656)/\Az (CH z c.toNat) e (λb=>K ⟨some ⟨b,0,none⟩,l.toNat,c.toNat⟩) w
def byT(P:Program)(t:TypeId):Nat:=
 match P.info? t with
 | some i=>i.bytes
 | none=>0
def D7(P:Program)(t:TypeId)(l c:Value)(K:VW):WP:=
 match P.underlying t with
 | some (.slice e)=>match Di P e with
  | some z=>match l with
   | .int _ l=>match c with
    | .int _ c=>cond ((P.info? e).isSome && beq z.length (Ex P e)) (Ij e (byT P e) z l c λs=>K<|.slice s.a s.n s.c) Cv
    | _=>Cv
   | _=>Cv
  | none=>Cv
 | _=>Cv
def T5(w:World)(b:Nat):Nat->Nat->Option (List Value)
 | _,0=>some []
 | o,n+1=>match w.cell? ⟨b,o,none⟩ with
  | some v=>match T5 w b (o+1) n with
   | some l=>some (v::l)
   | none=>none
  | none=>none
def H3(w:World)(a:OA)(n:Nat):Option (List Value):=
 match a with
 | none=>some []
 | some ⟨b,o,none⟩=>T5 w b o n
 | some ⟨_,_,some _⟩=>none
def stA(a:OA)(c:Nat)(vs:List Value)(K:WP):WP:=
 match a with
 | none=>match vs with
  | []=>K
  | _::_=>Cv
 | some ⟨b,o,none⟩=>T7 vs b (o+c) K
 | some ⟨_,_,some _⟩=>Cv
class Ext where
 calls:Program->FuncId->Array Value->World->(Ending->World->Prop)->Prop
 app:Nat->Nat->Nat->List Value->Sl->Nat->(World->Option (List Value))->(Sl->WP)->WP
 one:List WP->WP
 inv:Program->TypeId->Value->String->(FuncId->VW)->WP
def Ahw(e b d:Nat)(z:List Value)(s:Sl)(n:Nat)(new:World->Option (List Value))(K:Sl->WP):WP:=λw=>
 ∃vs,new w=some vs/\Mv vs=true /\
  if s.n+n<=s.c then stA s.a (s.n*b) vs (K ⟨s.a,s.n+n,s.c⟩) w
  else Builtin.nextslicecap (s.n+n) s.c*d<=281474976710656/\∃f,H3 w s.a (s.n*b)=some f /\
   ∀N,s.n+n<=N->K ⟨some ⟨w.heap.size,0,none⟩,s.n+n,N⟩ (w.drew.alloc<|.cells (f++vs++CH z (N-(s.n+n))).toArray e)
variable[Ext]
def Bl(e b a:Nat)(z:List Value)(s:Sl)(n:Nat)(new:World->Option (List Value))(K:Sl->WP):WP:=Ext.app e b a z s n new K
def GB(s:BA):List Value:=s.data.toList.map λb=>.int .u8 b.toNat
def Gp(P:Program)(t t2:TypeId)(s x:Value)(K:VW):WP:=
 match P.underlying t with
 | some (.slice e)=>match Di P e with
  | some z=>match s with
   | .slice a n c=>cond ((P.info? e).isSome && beq z.length (Ex P e) && !beq (byT P e) 0) (match x with
    | .slice a' n' _=>cond (J9 P t2) (Bl e (Ex P e) (byT P e) z ⟨a,n,c⟩ n' (λw=>H3 w a'<|n'*Ex P e) λs=>K<|.slice s.a s.n s.c) Cv
    | .string b=>cond (CD P t2) (Bl e (Ex P e) (byT P e) z ⟨a,n,c⟩ b.size (λ_=>some<|GB b) λs=>K<|.slice s.a s.n s.c) Cv
    | _=>Cv) Cv
   | _=>Cv
  | none=>Cv
 | _=>Cv
def b2s(a:OA)(n:Nat)(K:BA->WP):WP:=λw=>∃s:BA,H3 w a n=some (GB s)/\K s w
def I1(P:Program)(s d:TypeId)(x:Value)(K:VW):WP:=
 match x with
 | .slice a n _=>match P.underlying s with
  | some (.slice e)=>match P.underlying e with
   | some (.int k)=>cond (Nb k .u8 && CD P d) (b2s a n λs=>K<|.string s) Cv
   | _=>Cv
  | _=>Cv
 | _=>Cv
def exV:List CK->(List Value->Prop)->Prop
 | [],K=>K []
 | k::ks,K=>∃x:k.ty,exV ks λvs=>K (k.val x::vs)
def exT(P:Program)(t:TypeId)(F:Value->Prop):Prop:=
 match Ud P 9 t with
 | some ks=>(match G8 P t with
  | true=>exV ks λvs=>F (.agg vs.toArray)
  | false=>match ks with
   | [k]=>match Dg P t with
    | true=>F .nilIface\/∃t v,F (.iface t v)
    | false=>∃x:k.ty,F (k.val x)
   | _=>False)
 | none=>False
def WO(P:Program):List TypeId->(List Value->Prop)->Prop
 | [],F=>F []
 | t::ts,F=>exT P t λv=>WO P ts λvs=>F (v::vs)
def TN(P:Program)(ts:List TypeId)(F:Value->Prop):Prop:=
 match ts with
 | []=>F (.tuple #[])
 | [t]=>exT P t F
 | ts=>WO P ts λvs=>F (.tuple vs.toArray)
def evL(a:Dy):List Operand->List Value
 | []=>[]
 | x::l=>ev a x::evL a l
def TZ(P:Program)(f:FuncId)(args:List Value)(R:(Value->Prop)->Prop)(K:VW):WP:=λw=>
 Ext.calls P f args.toArray w λe w'=>R λv=>e = .returned v/\K v w'
def Lb (s : String) : Bool := !(s == "runtime.NumGoroutine")
def L4(P:Program)(f:Value)(args:List Value)(K:VW):WP:=
 match f with
 | .func (.func f) first a=>match P.funcs[f]? with
  | some b=>cond (b.body.isSome && Lb b.name && !args.any isU) (TZ P f (first.toList++args++a.toList) (TN P b.resultTypes.toList) K) Cv
  | none=>Cv
 | _=>Cv
def Bdf(P:Program)(t:TypeId)(v:Value)(a:String)(C:FuncId->VW):WP:=λw=>
 ∃f c b,(method (P.types.size+Made.depth) t v a).run P w = .ok (f,c) w/\P.funcs[f]? = some b/\b.body.isSome=true/\Lb b.name=true/\C f c w
def Fu(P:Program)(t:TypeId)(v:Value)(a:String)(C:FuncId->VW):WP:=Ext.inv P t v a C
def Bde(P:Program)(t:TypeId)(v:Value)(a:String)(args:List Value)(R:(Value->Prop)->Prop)(K:VW):WP:=Fu P t v a λf b=>TZ P f (b::args) R K
def Bdr(P:Program)(t:TypeId):List TypeId:=
 match P.underlying t with
 | some (.tuple ts)=>ts.toList
 | _=>[t]
def Yb(P:Program)(ty:TypeId)(x:Value)(a:String)(args:List Value)(K:VW):WP:=
 match x with
 | .iface t v=>cond (!args.any isU) (Bde P t v a args (TN P<|Bdr P ty) K) Cv
 | _=>Cv
def Ms(P:Program)(t:TypeId)(n:Value)(K:Nat->WP):WP:=λw=>∃w',(Instr.makeChan t n).run P w = .ok (.chan<|some w.heap.size) w'/\K w.heap.size w'
def Ayt(z:List Value)(a:OA)(n:Nat)(K:WP):WP:=cond (Mv<|CH z n) (stA a 0 (CH z n) K) Cv
def MT(P:Program)(t:TypeId)(x:Value)(K:WP):WP:=
 match x with
 | .slice a n _=>match P.underlying t with
  | some (.slice e)=>match Di P e with
   | some z=>Ayt z a n K
   | none=>Cv
  | _=>Cv
 | _=>Cv
def Bdl(K:Nat->WP):WP:=λw=>K w.heap.size (w.alloc<|.map #[] 0)
def mUp(P:Program)(t:TypeId)(m k x:Value)(K:WP):WP:=λw=>∃w',(Instr.mapUpdate t m k x).run P w = .ok () w'/\K w'
def Bcm(P:Program)(t:TypeId)(m k:Value)(c:CK)(K:c.ty->WP):WP:=λw=>∃x:c.ty,(Instr.lookup t m k false).run P w = .ok (c.val x) w/\K x w
def VI(P:Program)(t:TypeId)(m k:Value)(K:VW):WP:=
 match P.underlying t with
 | some (.map _ e)=>match Ud P 9 e with
  | some [c]=>cond (G8 P e || isU m || isU k) Cv (Bcm P t m k c λx=>K<|c.val x)
  | _=>Cv
 | _=>Cv
def OP(P:Program)(e:Dy)(ty:TypeId)(o:Op)(K:VW):WP:=
 match Fz P e o with
 | some F=>λw=>F λv=>K v w
 | none=>match o with
  | .load t x=>cond (IF x) Cv (GN P t (ev e x) K)
  | .store t x v=>FH P t (ev e x) (ev e v) (K undef)
  | .alloc t=>Jt P t K
  | .box t v=>YT t (ev e v) K
  | .buildSlice t n ps=>CZ P t n (FM e ps.toList) K
  | .makeSlice t l c=>D7 P t (ev e l) (ev e c) K
  | .convert s d x=>I1 P s d (ev e x) K
  | .makeMap _ r=>(match r with
   | none=>Bdl λb=>K (.map<|some b)
   | some _=>Cv)
  | .mapUpdate t m k x=>cond (isU (ev e m) || isU (ev e k) || isU (ev e x)) Cv (mUp P t (ev e m) (ev e k) (ev e x)<|K undef)
  | .lookup t m k c=>(match c with
   | false=>VI P t (ev e m) (ev e k) K
   | true=>Cv)
  | .makeChan t n=>cond (isU<|ev e n) Cv (Ms P t (ev e n) λb=>K<|.chan<|some b)
  | .call c=>(match c.callee with
   | .value f=>L4 P (ev e f) (evL e c.args.toList) K
   | .invoke r a=>Yb P ty (ev e r) a (evL e c.args.toList) K
   | .builtin b=>(match b with
    | .append=>(match c.args.toList with
     | [s,x]=>(match c.argTypes.toList with
      | [t,t2]=>Gp P t t2 (ev e s) (ev e x) K
      | _=>Cv)
     | _=>Cv)
    | .clear=>(match c.args.toList with
     | [x]=>(match c.argTypes.toList with
      | [t]=>MT P t (ev e x) (K<|.tuple #[])
      | _=>Cv)
     | _=>Cv)
    | _=>Cv))
  | _=>Cv
def Ro(all:List Oper)(j:Nat):Option Nat:=
 match all[j]? with
 | some o=>o.dst
 | none=>none
def DM(all:List Oper)(f:Dy)(o:Oper)(c e:EW):WP:=
 match o.guard with
 | none=>c f
 | some (j,a)=>match Ro all j with
  | none=>e f
  | some d=>match gt f d with
   | .complex _ _ _=>Cv
   | .bool b=>Aj b (cond a (c<|pt f d<|.bool true)<|e<|pt f d<|.bool true) (cond a (e<|pt f d<|.bool false)<|c<|pt f d<|.bool false)
   | _=>e f
def IN(P:Program)(all:List Oper):List Oper->Dy->(EW)->WP
 | [],a,K=>K a
 | o::l,a,K=>DM all a o (λa=>OP P a o.type o.op λv=>IN P all l (ptO a o.dst v) K) (λa=>IN P all l (ptO a o.dst undef) K)
def Im(i:Nat):List Nat->Bool
 | []=>false
 | j::l=>beq i j || Im i l
def Gh:List Edge->List Nat
 | []=>[]
 | e::l=>match e.ground with
  | .textOnly _=>Gh l
  | .gcOnly _=>Gh l
  | _=>e.on::Gh l
def Jd(all:List Oper)(i:Nat):List Nat:=
 match all[i]? with
 | some o=>Gh o.after.toList
 | none=>[]
def rdy(all:List Oper)(a:List Nat)(i:Nat):Bool:=!Im i a && (Jd all i).all (Im · a)
def Au4(all:List Oper)(a:List Nat)(i:Nat)(o:Oper):Bool:=
 (range all.length).all λj=>beq j i || Im j a || Im i (Jd all j) || (match all[j]? with
  | some b=>o.apart all.toArray b
  | none=>true)
def IL(a:List Nat):List Nat->Nat
 | []=>0
 | e::b=>(2 ^ e ||| a.getD e 0) ||| IL a b
def Gl:List Oper->List Nat->List Nat
 | [],a=>a
 | o::l,a=>Gl l (a++[IL a<|Gh o.after.toList])
def Ds(A a:List Nat)(j:Nat):Bool:=A.any λk=>!(a.getD j 0).testBit k
def Amq(all:List Oper)(i:Nat):Bool:=
 match all[i]? with
 | some o=>(match o.op with
  | .load _ _=>true
  | _=>false)
 | none=>false
def DU(all:List Oper)(A:List Nat):List Nat:=A.filter (Amq all)
def Lm(all:List Oper)(a:List Nat):List Nat:=(range all.length).filter (rdy all a)
def ON(all:List Oper)(a:List Nat):List Nat->Option Nat
 | []=>none
 | i::A=>match rdy all a i with
  | true=>some i
  | false=>ON all a A
def TK(S:World->Prop)(k:CK)(b o:Nat)(K:k.ty->WP):WP:=λw=>
 ∃x:k.ty,(∀w',S w'->w'.cell? ⟨b,o,none⟩=some (k.val x))/\K x w
def Agl(S:World->Prop)(b o:Nat)(N:WP)(K:TypeId->VW):WP:=λw=>
 ((∀w',S w'->w'.cell? ⟨b,o,none⟩=some .nilIface)/\N w)\/∃t v,(∀w',S w'->w'.cell? ⟨b,o,none⟩=some (.iface t v))/\K t v w
def TL(S:World->Prop):List CK->Nat->Nat->(List Value->WP)->WP
 | [],_,_,K=>K []
 | k::ks,b,o,K=>TK S k b o λx=>TL S ks b (o+1) λvs=>K (k.val x::vs)
def GO(P:Program)(S:World->Prop)(t:TypeId)(x:Value)(K:VW):WP:=
 match x with
 | .pointer (some ⟨b,o,none⟩)=>match Ud P 9 t with
  | some ks=>cond ((P.underlying t).isSome && (P.info? t).isSome && beq (Ex P t) ks.length) (match G8 P t with
   | true=>TL S ks b o λvs=>K (.agg vs.toArray)
   | false=>match ks with
    | [k]=>match Dg P t with
     | true=>Agl S b o (K .nilIface) λt v=>K (.iface t v)
     | false=>match EO P t with
      | true=>Avr S b o (K .nilFunc) (Mq (λf=>K<|.func (.func f) #[] #[])<|A6v P t)
      | false=>TK S k b o λx=>K (k.val x)
    | _=>Cv) Cv
  | none=>Cv
 | _=>Cv
def stI(P:Program)(S:World->Prop)(a:Dy)(o:Op)(K:VW):WP:=
 match Fz P a o with
 | some F=>λw=>F λv=>K v w
 | none=>match o with
  | .load t x=>cond (IF x) Cv (GO P S t (ev a x) K)
  | _=>Cv
def Al(b:Bool)(S:World->Prop)(K:WP):WP:=
 match b with
 | true=>λw=>S w/\K w
 | false=>K
def Bbw:List WP->WP
 | []=>Cv
 | [p]=>p
 | p::l=>λw=>p w/\Bbw l w
def Gn(l:List WP):WP:=Ext.one l
def BQ(P:Program)(all:List Oper)(S:World->Prop)(A c b:List Nat):Nat->List Nat->Dy->(EW)->WP
 | 0,a,d,K=>cond ((range all.length).all (Im · a)) (K d) Cv
 | n+1,a,d,K=>match ON all a A with
  | some i=>match all[i]? with
   | none=>Cv
   | some o=>cond (Au4 all a i o)
     (DM all d o (λd=>stI P S d o.op λv=>BQ P all S A c b n (i::a) (ptO d o.dst v) K)<|λd=>BQ P all S A c b n (i::a) (ptO d o.dst undef) K) Cv
  | none=>Gn ((Lm all a).map λi=>match all[i]? with
   | none=>Cv
   | some o=>DM all d o (λd=>OP P d o.type o.op λv=>Al (Ds c b i) S<|BQ P all S A c b n (i::a) (ptO d o.dst v) K)
     (λd=>Al (Ds c b i) S<|BQ P all S A c b n (i::a) (ptO d o.dst undef) K))
structure KP where
 live:List (Nat×List Nat)
 ord:List (Nat×List Nat)
def Ih:List (Nat×List Nat)->Nat->Option (List Nat)
 | [],_=>none
 | (k,l)::r,n=>match beq k n with
  | true=>some l
  | false=>Ih r n
def clean:List Nat->Nat->Dy->Dy
 | _,_,[]=>[]
 | [],i,_::a=>unk::clean [] (i+1) a
 | k::ks,i,v::a=>match beq k i with
  | true=>v::clean ks (i+1) a
  | false=>unk::clean (k::ks) (i+1) a
def cleanAt(kp:KP)(n:Nat)(a:Dy):Dy:=
 match Ih kp.live n with
 | some ks=>clean ks 0 a
 | none=>a
def J2:Code->Option Nat
 | .region id _ _=>some id
 | .seq a b=>match J2 a with
  | some i=>some i
  | none=>J2 b
 | .cond _ a b=>match J2 a with
  | some i=>some i
  | none=>J2 b
 | .block _ b=>J2 b
 | .loop b=>J2 b
 | _=>none
def Pj(c:Code):Nat:=match J2 c with
 | some i=>2*i+2
 | none=>0
def Jh(c:Code):Nat:=match J2 c with
 | some i=>2*i+3
 | none=>1
def Hr(a:(EW)->EW)(b:Dy->Dy):Nat->EW
 | 0,_=>Cv
 | m+1,d=>a (λc=>Hr a b m<|b c) d
def Av9(o:Oper):Bool:=match o.op with
 | .select _ _=>false
 | _=>true
def Aj2(kp:KP)(id:Nat):List Nat:=
 match Ih kp.ord id with
 | some l=>l
 | none=>[]
def A75(P:Program)(kp:KP)(id:Nat)(all:List Oper)(a:Dy)(n:EW):WP:=λw=>
 ∃S:World->Prop,S w.drew/\BQ P all S (Aj2 kp id) (DU all<|Aj2 kp id) (Gl all []) all.length [] a n w.drew
abbrev Jn:=Nat->(EW)->EW
def AU:Jn:=λ_ f a=>f a
def AD(P:Program)(kp:KP)(e:Jn):Code->(EW)->(Nat->EW)->(EW)->EW
 | .skip,n,_,_,f=>n f
 | .region id ops d,n,_,_,f=>match d with
  | false=>IN P ops.toList ops.toList f n
  | true=>cond (ops.toList.all Av9) (A75 P kp id ops.toList f n) Cv
 | .seq a b,n,x,r,f=>AD P kp e a (λf=>match Ih kp.live (Pj b) with
  | some ks=>e (Pj b) (λf=>AD P kp e b n x r f) (clean ks 0 f)
  | none=>AD P kp e b n x r f) x r f
 | .cond c a b,n,x,r,f=>match ev f c with
  | .bool t=>Aj t (AD P kp e a n x r f) (AD P kp e b n x r f)
  | _=>Cv
 | .block id b,n,x,r,f=>AD P kp e b n (λi f=>match beq i id with
  | true=>n f
  | false=>x i f) r f
 | .loop b,_,x,r,f=>λw=>∃m,Hr (λk f=>AD P kp e b k x r f) (cleanAt kp<|Jh b) m (cleanAt kp (Jh b) f) w
 | .exit id,_,x,_,f=>x id f
 | .ret,_,_,r,f=>r f
 | _,_,_,_,_=>Cv
def Iq(P:Program):List ResultVar->Dy->(List Value->WP)->WP
 | [],_,K=>K []
 | .tmp t::l,b,K=>cond (isU<|gt b t) Cv (cond (DS<|gt b t) Cv<|Iq P l b λvs=>K (gt b t::vs))
 | .cell a t::l,b,K=>GN P t (gt b a) λv=>cond (DS v) Cv (Iq P l b λvs=>K (v::vs))
def P7(P:Program)(rs:List ResultVar)(a:Dy)(Q:VW):WP:=
 Iq P rs a λvs=>match vs with
  | [v]=>Q v
  | vs=>Q (.tuple vs.toArray)
def AC(a:Func):Code:=match a.body with
 | some c=>c
 | none=>.skip
def Jc:Nat->Dy
 | 0=>[]
 | n+1=>undef::Jc n
def Aw(b:Jn)(P:Program)(kp:KP)(a:Func)(args:List Value)(Q:VW):WP:=
 AD P kp b (AC a) (λc=>P7 P a.results.toList c Q) (λ_ _=>Cv) (λc=>P7 P a.results.toList c Q) (args++Jc (a.ntmps-args.length))
def us:Nat->Dy->Dy
 | 0,l=>l
 | n+1,l=>unk::us n l
def CU(a:OA)(n:Nat)(i:Int)(K:Nat->Nat->WP):WP:=λw=>∃b o,a=some ⟨b,o,none⟩/\(0<=i/\i<(n:Int))/\K b o w
def HT(P:Program)(f:FuncId)(args:List Value)(K:WP):WP:=λw=>
 Ext.calls P f args.toArray w λe w'=>e = .returned (.tuple #[])/\K w'
def call1(k:CK)(P:Program)(f:FuncId)(args:List Value)(K:k.ty->WP):WP:=λw=>
 Ext.calls P f args.toArray w λe w'=>∃x:k.ty,e = .returned (k.val x)/\K x w'
def GC(k l:CK)(P:Program)(f:FuncId)(args:List Value)(K:k.ty->l.ty->WP):WP:=λw=>
 Ext.calls P f args.toArray w λe w'=>∃x:k.ty,∃y:l.ty,e = .returned (.tuple #[k.val x,l.val y])/\K x y w'
def Bb0(k l m:CK)(P:Program)(f:FuncId)(args:List Value)(K:k.ty->l.ty->m.ty->WP):WP:=λw=>
 Ext.calls P f args.toArray w λe w'=>∃x:k.ty,∃y:l.ty,∃z:m.ty,e = .returned (.tuple #[k.val x,l.val y,m.val z])/\K x y z w'
def Rh(l:CK)(P:Program)(f:FuncId)(args:List Value)(N:l.ty->WP)(K:TypeId->Value->l.ty->WP):WP:=λw=>
 Ext.calls P f args.toArray w λe w'=>(∃y:l.ty,e = .returned (.tuple #[.nilIface,l.val y])/\N y w')\/∃t v,∃y:l.ty,e = .returned (.tuple #[.iface t v,l.val y])/\K t v y w'
def lft:Code->Code
 | .seq a _=>a
 | .cond _ a _=>a
 | .block _ b=>b
 | .loop b=>b
 | c=>c
def rgt:Code->Code
 | .seq _ b=>b
 | .cond _ _ b=>b
 | c=>c
def Gg:List Bool->Code->Code
 | [],c=>c
 | false::l,c=>Gg l (lft c)
 | true::l,c=>Gg l (rgt c)
def W4:List Nat->Code->Code
 | [],c=>c
 | 0::l,c=>W4 l (lft c)
 | _::l,c=>W4 l (rgt c)
def Bg(P:Program)(a:Func)(Q:VW):EW:=λb=>P7 P a.results.toList b Q
def A8:Nat->EW:=λ_ _=>Cv
def IV(P:Program)(kp:KP)(a:Jn)(b:Code)(n:EW)(x:Nat->EW)(r:EW):EW:=λc=>match Ih kp.live (Pj b) with
 | some ks=>a (Pj b) (λc=>AD P kp a b n x r c) (clean ks 0 c)
 | none=>AD P kp a b n x r c
def AA(id:Nat)(n:EW)(x:Nat->EW):Nat->EW:=λi a=>match beq i id with
 | true=>n a
 | false=>x i a
def JG(P:Program)(kp:KP)(a:Jn)(c:Code)(x:Nat->EW)(r:EW)(m:Nat):EW:=λb=>
 Hr (λk b=>AD P kp a c k x r b) (cleanAt kp<|Jh c) m (cleanAt kp (Jh c) b)
def Dl(P:Program)(kp:KP)(a:Jn)(c:Code)(x:Nat->EW)(r:EW)(m:Nat)(b:Dy):WP:=
 Hr (λk b=>AD P kp a c k x r b) (cleanAt kp<|Jh c) m b
def A5(K:(World->Prop)->WP):WP:=λw=>∃S:World->Prop,S w.drew/\K S w.drew
def Em(L:Nat->WP):WP:=λw=>∃m,L m w
end Go.Hb
namespace Go.Hb
instance Bn:Ext:=⟨λP f a w R=>Calls P f a w R,Ahw,Bbw,Bdf⟩
def Le(v a:Value):Prop:=v=unk\/v=a
theorem Le.refl(v:Value):Le v v:=.inr rfl
theorem Le.eq{v a:Value}(h:Le v a)(b:isU v=false):a=v:=by
 rcases h with h|h
 ·subst h;simp[isU,unk] at b
 ·exact h.symm
structure JX(ρ:Dy)(a:Act):Prop where
 defers:a.defers=[]
 size:ρ.length<=a.tmps.size
 get:∀t,Le (gt ρ t) (a.tmps.getD t undef)
theorem A60(b:Dy)(t u:Nat)(v:Value):gt (pt b t v) u=if u=t/\t<b.length then v else gt b u:=by
 induction b generalizing t u with
 | nil=>simp[pt,gt]
 | cons x b a=>
  cases t with
  | zero=>cases u <;> simp[pt,gt]
  | succ t=>cases u with
   | zero=>simp[pt,gt]
   | succ u=>simp[pt,gt,a]
theorem VE(b:Dy)(t:Nat)(v:Value):(pt b t v).length=b.length:=by
 induction b generalizing t with
 | nil=>simp[pt]
 | cons x b a=>cases t <;> simp[pt,a]
theorem JX.put{m:Dy}{a:Act}(h:JX m a)(b:Option Nat){v e:Value}(j:Le v e):JX (ptO m b v) (a.put b e):=by
 cases b with
 | none=>exact h
 | some t=>
  refine⟨h.defers,by simpa[ptO,VE,Act.put] using h.size,λu=>?_⟩;simp only[ptO,A60,Act.put]
  by_cases f:u=t/\t<m.length
  ·obtain⟨rfl,c⟩:=f;have g:u<a.tmps.size:=lt_of_lt_of_le c h.size;simp[c,g];exact j
  ·rw[if_neg f]
   by_cases d:u=t
   ·subst d;have c:¬u<m.length:=λc=>f ⟨rfl,c⟩;have:gt m u=unk:=by
     have key:∀(l:Dy)(n:Nat),¬n<l.length->gt l n=unk:=by
      intro l
      induction l with
      | nil=>intros;rfl
      | cons x l k=>intro n i;cases n with
       | zero=>simp at i
       | succ n=>exact k n (by simpa using i)
     exact key m u c
    exact .inl this
   ·have:(a.tmps.setIfInBounds t e).getD u undef=a.tmps.getD u undef:=by
     simp[Array.getElem?_setIfInBounds_ne<|Ne.symm d]
    rw[this];exact h.get u
theorem Zg{b:Dy}{a:Act}(h:JX b a)(x:Operand):Le (ev b x) (a.eval x):=by
 cases x with
 | tmp t=>exact h.get t
 | _=>exact Le.refl _
theorem BN{d:Dy}{a:Act}(h:JX d a){x:Operand}{v:Value}(b:ev d x=v)(c:isU v=false):a.eval x=v:=by
 have:=(Zg h x).eq (by rw[b];exact c);rw[this,b]
theorem Nc{k a:IntKind}(h:Nb k a=true):k=a:=by
 cases k <;> cases a <;> simp_all [Nb]
def A6u(P:Program)(o:Oper)(a:Act)(v:Value):Prop:=∀w,(execOp a.eval o).run P w = .ok (.value v) w
theorem P9{P:Program}{t e:TypeId}(a:P.underlying t=some (.pointer e))(d:Nat)(p:OA)(w:World) :
  (Op.equalIn (d+1) t (.pointer p)<|.pointer none).run P w = .ok p.isNone w:=by
 cases p <;> simp[Op.equalIn,run_underlying a]
theorem PA{P:Program}{t e:TypeId}(a:P.underlying t=some (.slice e))(d:Nat)(p:OA)(n c m k:Nat)(w:World) :
  (Op.equalIn (d+1) t (.slice p n c)<|.slice none m k).run P w = .ok p.isNone w:=by
 cases p <;> simp[Op.equalIn,run_underlying a]
theorem Nw{P:Program}{t:TypeId}(a:P.underlying t=some .bool)(d:Nat)(p q:Bool)(w:World) :
  (Op.equalIn (d+1) t (.bool p)<|.bool q).run P w = .ok (p==q) w:=by
 simp[Op.equalIn,run_underlying a]
theorem HI{P:Program}{t:TypeId}{u v:Value}{b:Bool}{w:World}{op:BinOp}(a:op = .eql\/op = .neq)
  (d:(∃p,u = .pointer p/\∃q,v = .pointer q)\/(∃p n c,u = .slice p n c/\∃p n c,v = .slice p n c)\/(∃p,u = .bool p/\∃q,v = .bool q))
  (h:(Op.equalIn 10000 t u v).run P w = .ok b w):(binOp op t u v).run P w = .ok (.bool<|if op = .eql then b else !b) w:=by
 have e:(Op.equal t u v).run P w = .ok b w:=h;rcases a with rfl|rfl <;> rcases d with⟨p,rfl,q,rfl⟩|⟨p,n,c,rfl,p',n',f,rfl⟩|⟨p,rfl,q,rfl⟩ <;>
  (simp only[binOp,run_bind,e,andThen_ok];rfl)
section
variable{P:Program}{ρ:Dy}{a:Act}
theorem Gv{e:TypeId}{k:IntKind}{w:World}(a:P.underlying e=some (.int k)){xs:Array Value}{o:Nat}{v:Value}(h:xs.toList[o]? = some v):(part e xs o).run P w = .ok v w:=by
 have b:xs[o]? = some v:=by rw[<- getElem?_toList];exact h
 unfold part;simp[isAgg,run_underlying a,b]
theorem run_equalIn_int{e:TypeId}{k:IntKind}{w:World}(c:P.underlying e=some (.int k))(d:Nat)(a b:Int):(Op.equalIn (d+1) e (.int k a)<|.int k b).run P w = .ok (a==b) w:=by
 simp[Op.equalIn,run_underlying c]
theorem Zf{e:TypeId}{k:IntKind}(f:P.underlying e=some (.int k))(d:Nat)(xs ys:Array Value):∀(l m:List Value)(o:Nat)(K:Bool->Prop),xs.toList.drop o=l->ys.toList.drop o=m->HC k l m K ->
  ∃r,K r/\∀w,(Op.eqItems (d+1) e 1 xs ys<|List.range' o l.length).run P w = .ok r w:=by
 intro l
 induction l with
 | nil=>
  intro m o K g i h;cases m with
  | nil=>exact⟨true,h,λw=>by simp[Op.eqItems]⟩
  | cons _ _=>exact h.elim
 | cons x l p=>
  intro m o K g i h;unfold HC at h;cases x <;> try exact h.elim
  rename_i q a;cases m with
  | nil=>exact h.elim
  | cons y m=>
  cases y <;> try exact h.elim
  rename_i s b;simp only at h;cases c:Nb k q && Nb k s with
  | false=>rw[c] at h;exact h.elim
  | true=>
   rw[c] at h;simp only[and_eq_true] at c;obtain rfl:=Nc c.1;obtain rfl:=Nc c.2;have t:xs.toList[o]? = some (.int k a):=by
    have:=congrArg (·[0]?) g;simpa using this
   have u:ys.toList[o]? = some (.int k b):=by
    have:=congrArg (·[0]?) i;simpa using this
   have j:xs.toList.drop (o+1)=l:=by rw[<- drop_drop,g];rfl
   have n:ys.toList.drop (o+1)=m:=by rw[<- drop_drop,i];rfl
   obtain⟨r,v,z⟩:=p m (o+1) _ j n h;refine⟨_,v,λw=>?_⟩;simp only[List.length_cons,List.range'_succ,Op.eqItems,run_bind,Nat.mul_one,Gv f t,Gv f u,andThen_ok,run_equalIn_int f];cases A:(a==b) with
   | true=>simpa using z w
   | false=>simp
theorem Ze(d:Nat)(xs ys:Array Value):∀(fs:List Field)(K:Bool->Prop),HB P xs.toList ys.toList fs K ->
  (∃r,K r/\∀w,(Op.eqFields (d+1) xs ys fs).run P w = .ok r w)/\∀f∈fs,∃k,P.underlying f.type=some (.int k):=by
 intro fs
 induction fs with
 | nil=>intro K h;exact⟨⟨true,h,λw=>by simp[Op.eqFields]⟩,λf o=>by cases o⟩
 | cons f fs p=>
  intro K h;unfold HB at h;cases c:P.underlying f.type with
  | none=>simp only[c] at h
  | some q=>
  simp only[c] at h;cases q <;> try exact h.elim
  rename_i k;simp only at h;cases j:xs.toList[f.offset]? with
  | none=>simp only[j] at h
  | some x=>
  simp only[j] at h;cases x <;> try exact h.elim
  rename_i s a;simp only at h;cases l:ys.toList[f.offset]? with
  | none=>simp only[l] at h
  | some y=>
  simp only[l] at h;cases y <;> try exact h.elim
  rename_i t b;simp only at h;cases e : (Nb k s && Nb k t && !(f.name == "_")) with
  | false=>rw[e] at h;exact h.elim
  | true=>
   rw[e] at h;simp only[and_eq_true,not_eq_eq_eq_not,Bool.not_true,beq_eq_false_iff_ne] at e;obtain rfl:=Nc e.1.1;obtain rfl:=Nc e.1.2;obtain⟨⟨r,u,v⟩,i⟩:=p _ h;refine⟨⟨_,u,λw=>?_⟩,λg m=>?_⟩
   ·have n : f.name ≠ "_" := e.2;simp only [Op.eqFields,n,ne_eq,not_false_eq_true,if_true,run_bind,Gv c j,Gv c l,andThen_ok,Hb.run_equalIn_int c];cases z:(a == b) with
    | true=>simpa using v w
    | false=>simp
   ·cases m with
    | head=>exact⟨_,c⟩
    | tail _ m=>exact i g m
theorem Aek{op:BinOp}{t:TypeId}{x y:Operand}{u v:Value}{K:Value->Prop}(h:Rg P op t u v K) :
  ∃r,K r/\isU u=false/\isU v=false/\∀w,((do eqGuard op t x y u v;binOp op t u v:Sem Value)).run P w = .ok r w:=by
 unfold Rg at h;cases u <;> try exact h.elim
 case agg xs=>
  cases v <;> try exact h.elim
  case agg ys=>
   simp only at h;split at h
   case h_3=>exact h.elim
   case h_2=>
    rename_i fs o;cases z:P.stoodInHeld t with
    | true=>rw[z] at h;exact h.elim
    | false=>
    rw[z] at h;have B:P.fieldsOf t=fs:=by simp[Program.fieldsOf,o]
    obtain⟨⟨r,g,C⟩,D⟩:=Ze (P:=P) 9998 xs ys fs.toList _ h;have A:∀w,(Op.equalIn 10000 t (.agg xs)<|.agg ys).run P w = .ok r w:=by
     intro w;rw[run_equalIn_struct (P:=P) w 9999 t xs ys (by rw[B];exact o) z,B]
     exact C w
    have F:P.eqGuardType P.depth t=false:=by
     obtain⟨d,G⟩:∃d,P.depth=d+2:=⟨_,rfl⟩;rw[G];simp only[Program.eqGuardType,o];rw[Array.any_eq_false'];intro f I;obtain⟨k,j⟩:=D f (by simpa using I);simp[j]
    have a:∀w,(Op.equal t (.agg xs)<|.agg ys).run P w = .ok r w:=A;cases op <;> simp only[eqI] at g <;> try exact g.elim
    all_goals
     refine⟨_,g,rfl,rfl,λw=>?_⟩;simp[eqGuard,F,binOp,a,go_sem]
   rename_i n e l;split at h
   case h_2=>exact h.elim
   rename_i k j;cases hc:(P.info? e).isSome && beq (P.cellsOf e) 1 && beq xs.toList.length n with
   | false=>rw[hc] at h;exact h.elim
   | true=>
    rw[hc] at h;simp only[and_eq_true,Nat.beq_eq] at hc;obtain⟨⟨hi,H⟩,J⟩:=hc;obtain⟨i,hi⟩:=isSome_iff_exists.1 hi;obtain⟨r,g,C⟩:=Zf (P:=P) j 9998 xs ys _ _ 0 _ rfl rfl h;have A:∀w,(Op.equalIn 10000 t (.agg xs)<|.agg ys).run P w = .ok r w:=by
     intro w;rw[run_equalIn_array (P:=P) w 9999 xs ys l hi,H,List.range_eq_range',<- J];simpa using C w
    have F:P.eqGuardType P.depth t=false:=by
     obtain⟨d,G⟩:∃d,P.depth=d+2:=⟨_,rfl⟩;rw[G];simp[Program.eqGuardType,l,j]
    have a:∀w,(Op.equal t (.agg xs)<|.agg ys).run P w = .ok r w:=A;cases op <;> simp only[eqI] at g <;> try exact g.elim
    all_goals
     refine⟨_,g,rfl,rfl,λw=>?_⟩;simp[eqGuard,F,binOp,a,go_sem]
 case int k n=>
  cases v <;> try exact h.elim
  case int k' m=>
   have E:∀op,cond (Nb k k') (Ab6 op k n m K) False->∃r,K r/\∀w,((do eqGuard op t x y (.int k n) (.int k' m);binOp op t (.int k n) (.int k' m):Sem Value)).run P w = .ok r w:=by
    intro op h;cases j:Nb k k' with
    | false=>rw[j] at h;exact h.elim
    | true=>
     rw[j] at h;obtain rfl:=Nc j;cases op <;> simp only[Ab6,cond_true] at h <;> try exact h.elim
     case quo=>exact⟨_,h.2,λw=>by simp[go_sem,Op.intDiv,h.1]⟩
     case rem=>exact⟨_,h.2,λw=>by simp[go_sem,Op.intDiv,h.1]⟩
     all_goals exact⟨_,h,λw=>by simp[go_sem,Op.intArith]⟩
   cases op
   case shl=>
    refine⟨_,h.2,rfl,rfl,λw=>?_⟩;have:¬m<0:=by have:=h.1;omega
    simp[go_sem,Op.shift,this,HJ]
   case shr=>
    refine⟨_,h.2,rfl,rfl,λw=>?_⟩;have:¬m<0:=by have:=h.1;omega
    simp[go_sem,Op.shift,this,CV]
   all_goals
    obtain⟨r,g,C⟩:=E _ h;exact⟨r,g,rfl,rfl,C⟩
 case string s=>
  cases v <;> try exact h.elim
  case string s'=>
   cases op <;> simp only[Ahd] at h <;> try exact h.elim
   case add=>
    refine⟨_,h.2,rfl,rfl,λw=>?_⟩;have L:¬((s.size:Int)+(s'.size:Int)>9223372036854775807):=by have:=h.1;omega
    simp[go_sem,binOp,Op.stringOp];omega
   all_goals exact⟨_,h,rfl,rfl,λw=>by simp[go_sem,binOp,Op.stringOp,sEq,sLt]⟩
 case pointer p=>
  cases v <;> try exact h.elim
  case pointer q=>
   cases q with
   | some q=>exact h.elim
   | none=>
    simp only[Avf] at h;split at h
    case h_2=>exact h.elim
    rename_i e l;simp only[cond_true] at h;cases op <;> simp only[eqI] at h <;> try exact h.elim
    all_goals
     refine⟨_,h,rfl,rfl,λw=>?_⟩;simp only[run_bind,eqGuard_at_pointer,run_pure,andThen_ok];exact HI (by simp) (.inl ⟨_,rfl,_,rfl⟩) (P9 l 9999 p w)
 case slice p n c=>
  cases v <;> try exact h.elim
  case slice q m d=>
   cases q with
   | some q=>exact h.elim
   | none=>
    simp only[J9] at h;split at h
    case h_2=>exact h.elim
    rename_i e l;simp only[cond_true] at h;cases op <;> simp only[eqI] at h <;> try exact h.elim
    all_goals
     refine⟨_,h,rfl,rfl,λw=>?_⟩;simp only[run_bind,eqGuard_at_slice,run_pure,andThen_ok];exact HI (by simp) (.inr<|.inl ⟨_,_,_,rfl,_,_,_,rfl⟩) (PA l 9999 p n c m d w)
 case bool b=>
  cases v <;> try exact h.elim
  case bool b'=>
   simp only[Ajo] at h;split at h
   case h_2=>exact h.elim
   rename_i l;simp only[cond_true] at h;cases op <;> simp only[eqI] at h <;> try exact h.elim
   all_goals
    refine⟨_,h,rfl,rfl,λw=>?_⟩;simp only[run_bind,eqGuard_at_bool,run_pure,andThen_ok];exact HI (by simp) (.inr<|.inr ⟨_,rfl,_,rfl⟩) (Nw l 9999 b b' w)
theorem SY{P:Program}{t:TypeId}{a:Array (String×TypeId)}(b:P.underlying t=some (.interface a))(d:Nat)(w:World):(Op.equalIn (d+1) t .nilIface .nilIface).run P w = .ok true w:=by
 simp[Op.equalIn,run_underlying b]
theorem SX{P:Program}{t:TypeId}{a:Array (String×TypeId)}(b:P.underlying t=some (.interface a))(d:Nat)(c:TypeId)(e:Value)(w:World):(Op.equalIn (d+1) t (.iface c e) .nilIface).run P w = .ok false w:=by
 simp[Op.equalIn,run_underlying b]
theorem SU{P:Program}{t:TypeId}{ps rs:Array TypeId}{v:Bool}(a:P.underlying t=some (.func ps rs v))(d:Nat)(w:World):(Op.equalIn (d+1) t .nilFunc .nilFunc).run P w = .ok true w:=by
 simp[Op.equalIn,run_underlying a]
theorem SV{P:Program}{t:TypeId}{ps rs:Array TypeId}{v:Bool}(b:P.underlying t=some (.func ps rs v))(d:Nat)(f:Fn)(a c:Array Value)(w:World):(Op.equalIn (d+1) t (.func f a c) .nilFunc).run P w = .ok false w:=by
 simp[Op.equalIn,run_underlying b]
theorem RT{t:TypeId}(h:Dg P t=true):∃a,P.underlying t=some (.interface a):=by
 unfold Dg at h;split at h
 ·exact⟨_,by assumption⟩
 ·cases h
theorem Agx{op:BinOp}{t:TypeId}{x:Operand}{u:Value}{K:Value->Prop}(h:Acx P op t u K) :
  ∃r,K r/\isU u=false/\∀w,((do eqGuard op t x (.const .nilIface) u .nilIface;binOp op t u .nilIface:Sem Value)).run P w = .ok r w:=by
 unfold Acx at h;cases u <;> try exact h.elim
 case nilIface=>
  cases hi:Dg P t with
  | false=>simp only[hi] at h;exact h.elim
  | true=>
   simp only[hi,cond_true] at h;obtain⟨d,c⟩:=RT hi;have b:∀w,(Op.equalIn 10000 t .nilIface .nilIface).run P w = .ok true w:=SY c 9999;have a:∀w,(Op.equal t .nilIface .nilIface).run P w = .ok true w:=b;cases op <;> simp only[eqI] at h <;> try exact h.elim
   all_goals
    refine⟨_,h,rfl,λw=>?_⟩;simp[eqGuard,binOp,a,go_sem]
 case iface t' v'=>
  cases hi:Dg P t with
  | false=>simp only[hi] at h;exact h.elim
  | true=>
   simp only[hi,cond_true] at h;obtain⟨d,c⟩:=RT hi;have b:∀w,(Op.equalIn 10000 t (.iface t' v') .nilIface).run P w = .ok false w:=SX c 9999 t' v';have a:∀w,(Op.equal t (.iface t' v') .nilIface).run P w = .ok false w:=b;cases op <;> simp only[eqI] at h <;> try exact h.elim
   all_goals
    refine⟨_,h,rfl,λw=>?_⟩;simp[eqGuard,binOp,a,go_sem]
theorem RS{t:TypeId}(h:EO P t=true):∃ps rs v,P.underlying t=some (.func ps rs v):=by
 unfold EO at h;split at h
 ·exact⟨_,_,_,by assumption⟩
 ·cases h
theorem Acw{op:BinOp}{t:TypeId}{x:Operand}{u:Value}{K:Value->Prop}(h:OO P op t u K) :
  ∃r,K r/\isU u=false/\∀w,((do eqGuard op t x (.const .nilFunc) u .nilFunc;binOp op t u .nilFunc:Sem Value)).run P w = .ok r w:=by
 unfold OO at h;cases u <;> try exact h.elim
 case nilFunc=>
  cases hi:EO P t with
  | false=>simp only[hi] at h;exact h.elim
  | true=>
   simp only[hi,cond_true] at h;obtain⟨_,_,_,c⟩:=RS hi;have b:∀w,(Op.equalIn 10000 t .nilFunc .nilFunc).run P w = .ok true w:=SU c 9999;have a:∀w,(Op.equal t .nilFunc .nilFunc).run P w = .ok true w:=b;cases op <;> simp only[eqI] at h <;> try exact h.elim
   all_goals
    refine⟨_,h,rfl,λw=>?_⟩;simp[eqGuard,binOp,a,go_sem]
 case func f first cap=>
  cases hi:EO P t with
  | false=>simp only[hi] at h;exact h.elim
  | true=>
   simp only[hi,cond_true] at h;obtain⟨_,_,_,c⟩:=RS hi;have b:∀w,(Op.equalIn 10000 t (.func f first cap) .nilFunc).run P w = .ok false w:=SV c 9999 f first cap
   have a:∀w,(Op.equal t (.func f first cap) .nilFunc).run P w = .ok false w:=b;cases op <;> simp only[eqI] at h <;> try exact h.elim
   all_goals
    refine⟨_,h,rfl,λw=>?_⟩;simp[eqGuard,binOp,a,go_sem]
end
end Go.Hb
namespace Go.Hb
section
variable{P:Program}{ρ:Dy}{a:Act}
theorem Ag5{t:TypeId}{n:Nat}(h:Ex P t=n+1)(w:World):(sizeOf t).run P w = .ok (n+1) w:=by
 unfold Ex at h;split at h
 ·rename_i i hi;simp[sizeOf,typeInfo,hi,h]
 ·cases h
theorem OV{t:TypeId}{i:TypeInfo}(h:P.info? t=some i)(w:World):(sizeOf t).run P w = .ok (Ex P t) w:=by
 simp[sizeOf,typeInfo,Ex,h]
theorem KW{t:TypeId}{d:TypeDesc}(h:P.underlying t=some d):∃i,P.info? t=some i:=by
 unfold Program.underlying at h;cases hi:P.info? t with
 | some i=>exact⟨i,rfl⟩
 | none=>rw[hi] at h;cases h
theorem Is{t:TypeId}{d:TypeDesc}(h:P.underlying t=some d)(w:World):(isAgg t).run P w = .ok (G8 P t) w:=by
 unfold isAgg G8;simp only[run_bind,run_underlying h,andThen_ok,h];cases d <;> rfl
theorem Aop{op:UnOp}{v:Value}{K:Value->Prop}(h:unI op v K):∃r,K r/\isU v=false/\∀w,(Op.unary op v).run P w = .ok r w:=by
 cases op <;> simp only[unI] at h <;> try exact h.elim
 case not=>cases v <;> simp only at h <;> first|exact h.elim|exact⟨_,h,rfl,λw=>by simp[Op.unary]⟩
 case neg=>cases v <;> simp only at h <;> first|exact h.elim|exact⟨_,h,rfl,λw=>by simp[Op.unary,Op.intArith]⟩
theorem LZ{t:TypeId}{f a c:Nat}(h:ID P t f=some (a,c)):∃fs:Array Field,P.underlying t=some (.struct fs)/\∃g,fs[f]? = some g/\g.offset=a/\g.type=c:=by
 unfold ID at h;split at h
 ·rename_i fs b;split at h
  ·rename_i g d;simp only[Option.some.injEq,Prod.mk.injEq] at h;exact⟨fs,b,g,by rw[<- getElem?_toList];exact d,h.1,h.2⟩
  ·cases h
 ·cases h
theorem TD{t:TypeId}{v:Value}{f:Nat}{K:Value->Prop}(h:Hi P t v f K):∃r,K r/\isU v=false/\∀w,(fieldAt t v f).run P w = .ok r w:=by
 unfold Hi at h;split at h
 case h_2=>exact h.elim
 rename_i b o;split at h
 case h_2=>exact h.elim
 rename_i a j c;split at h
 case h_1=>exact h.elim
 rename_i n d;obtain⟨fs,e,g,i,rfl,rfl⟩:=LZ c;refine⟨_,h,rfl,λw=>?_⟩;simp[fieldAt,run_underlying e,i,sureAddr,fieldPlace,Ag5 d,Addr.add_lit]
theorem Ac0{t:TypeId}{cs:Array Value}{a:Nat}{K:Value->Prop}{d:TypeDesc}(b:P.underlying t=some d)(h:Acz P t cs a K):∃r,K r/\∀w,(part t cs a).run P w = .ok r w:=by
 unfold Acz at h;obtain⟨i,hi⟩:=KW b;split at h
 ·rename_i c;refine⟨_,h,λw=>?_⟩;unfold part;simp only[run_bind,Is b,c,andThen_ok,if_true,OV hi,run_pure];congr 2;rw[<- toList_inj];simp
 ·rename_i c;split at h
  case h_2=>exact h.elim
  rename_i v g;cases f:isU v with
  | true=>rw[f] at h;exact h.elim
  | false=>
   rw[f] at h;refine⟨_,h,λw=>?_⟩;have e:cs[a]? = some v:=by rw[<- getElem?_toList];exact g
   unfold part;simp[Is b,c,e]
theorem CJ{t:TypeId}(h:(P.info? t).isSome=true)(w:World):(sizeOf t).run P w = .ok (Ex P t) w:=by
 obtain⟨i,hi⟩:=isSome_iff_exists.1 h;exact OV hi w
theorem TF{t:TypeId}{x i:Value}{K:Value->Prop}(h:Hm P t x i K):∃r,K r/\isU x=false/\isU i=false/\∀w,(indexAt t x i).run P w = .ok r w:=by
 unfold Hm at h;split at h
 case h_2=>exact h.elim
 rename_i k n;split at h
 case h_3=>exact h.elim
 ·rename_i e a;split at h
  case h_2=>exact h.elim
  rename_i base len cap;cases hi:(P.info? e).isSome with
  | false=>rw[hi] at h;exact h.elim
  | true=>
   rw[hi] at h;obtain⟨b,o,rfl,c,d⟩:=h;refine⟨_,d,rfl,rfl,λw=>?_⟩;simp only[indexAt,asIntOf,run_bind,run_pure,andThen_ok,run_underlying a,c,if_true,and_self,CJ hi,Addr.add_lit,run_ite]
 ·rename_i len e a;split at h
  case h_2=>exact h.elim
  rename_i b o;cases hi:(P.info? e).isSome with
  | false=>rw[hi] at h;exact h.elim
  | true=>
   rw[hi] at h;obtain⟨c,d⟩:=h;refine⟨_,d,rfl,rfl,λw=>?_⟩;simp only[indexAt,asIntOf,run_bind,run_pure,andThen_ok,run_underlying a,c,if_true,and_self,CJ hi,Addr.add_lit,run_ite,sureAddr]
theorem XY{t:TypeId}{x i:Value}{K:Value->Prop}(h:J8 P t x i K):∃r,K r/\isU x=false/\isU i=false/\∀w,(Instr.index t x i).run P w = .ok r w:=by
 unfold J8 at h;split at h
 case h_2=>exact h.elim
 rename_i k n;split at h
 case h_3=>exact h.elim
 ·rename_i s;simp only[CD] at h;split at h
  case h_2=>exact h.elim
  rename_i f;simp only[cond_true] at h;obtain⟨g,j⟩:=h;refine⟨_,j,rfl,rfl,λw=>?_⟩;have a:n.toNat<s.size:=by omega
  have p:s[n.toNat]? = some s[n.toNat]:=by
   simp[a]
  simp only[Instr.index,asIntOf,run_bind,run_pure,andThen_ok,run_underlying f,g.1,if_true,p];have q:s.data.toList[n.toNat]? = some s[n.toNat]:=by
   have:n.toNat<s.data.toList.length:=by simpa using a
   rw[List.getElem?_eq_getElem this];rfl
  simp only[Bc,q,Option.getD_some]
 ·rename_i cs;split at h
  case h_2=>exact h.elim
  rename_i len e f;split at h
  case h_2=>exact h.elim
  rename_i u y;cases hc:(G8 P e || !beq (Ex P e) 1 || !(P.info? e).isSome) with
  | true=>rw[hc] at h;exact h.elim
  | false=>
   rw[hc] at h;simp only[or_eq_false_iff,not_eq_eq_eq_not,Bool.not_false] at hc;obtain⟨⟨l,m⟩,hi⟩:=hc;have b:Ex P e=1:=eq_of_beq_eq_true m;obtain⟨g,v,z,A,j⟩:=h;refine⟨_,j,rfl,rfl,λw=>?_⟩;have c:∃d,P.underlying e=some d:=by
    cases c:P.underlying e with
    | some d=>exact⟨d,rfl⟩
    | none=>simp[Ud,c] at y
   obtain⟨d,c⟩:=c;have o:cs[n.toNat]? = some (u.val v):=by rw[<- getElem?_toList];exact z
   simp[Instr.index,asIntOf,run_underlying f,g,CJ hi,b,part,Is c,l,o]
theorem Rw{x:Value}{i:Nat}{K:Value->Prop}(h:FT x i K):∃r,K r/\isU x=false/\∀w,(Instr.extract x i).run P w = .ok r w:=by
 unfold FT at h;split at h
 case h_2=>exact h.elim
 rename_i vs;split at h
 case h_2=>exact h.elim
 rename_i v b;have a:vs[i]? = some v:=by rw[<- getElem?_toList];exact b
 exact⟨_,h,rfl,λw=>by simp[Instr.extract,a]⟩
theorem N6{s d:TypeId}{x:Value}{K:Value->Prop}(hs:(P.underlying s).isSome=true)(h:K7 P d x K):∃r,K r/\isU x=false/\∀w,(convert s d x).run P w = .ok r w:=by
 obtain⟨b,hs⟩:=isSome_iff_exists.1 hs;unfold K7 at h;split at h
 case h_3=>exact h.elim
 ·split at h
  case h_2=>exact h.elim
  rename_i k a;exact⟨_,h,rfl,λw=>by simp[convert,run_underlying hs,run_underlying a,Conv.intToInt]⟩
 ·simp only[CD] at h;split at h
  case h_2=>exact h.elim
  rename_i a;exact⟨_,h,rfl,λw=>by simp[convert,run_underlying hs,run_underlying a]⟩
theorem Agn{t ty:TypeId}{x:Value}{K:Value->Prop}(h:Aci P t x K):∃r,K r/\isU x=false/\∀w,(Builtin.len_ #[t] ty #[x]).run P w = .ok r w:=by
 unfold Aci at h;split at h
 case h_4=>exact h.elim
 ·simp only[CD] at h;split at h
  case h_2=>exact h.elim
  rename_i a;exact⟨_,h,rfl,λw=>by simp[Builtin.len_,run_underlying a,goInt]⟩
 ·simp only[J9] at h;split at h
  case h_2=>exact h.elim
  rename_i a;exact⟨_,h,rfl,λw=>by simp[Builtin.len_,run_underlying a,goInt]⟩
 ·split at h
  case h_2=>exact h.elim
  rename_i a;exact⟨_,h,rfl,λw=>by simp[Builtin.len_,run_underlying a,goInt]⟩
theorem Agu{ts:Array TypeId}{ty:TypeId}{x y:Value}{K:Value->Prop}(h:Acp x y K):∃r,K r/\isU x=false/\isU y=false/\∀w,(Builtin.max_ ts ty #[x,y]).run P w = .ok r w:=by
 unfold Acp at h;split at h
 case h_2=>exact h.elim
 split at h
 case h_2=>exact h.elim
 exact⟨_,h,rfl,rfl,λw=>by simp[Builtin.max_,Builtin.max2]⟩
theorem Agv{ts:Array TypeId}{ty:TypeId}{x y:Value}{K:Value->Prop}(h:Acu x y K):∃r,K r/\isU x=false/\isU y=false/\∀w,(Builtin.min_ ts ty #[x,y]).run P w = .ok r w:=by
 unfold Acu at h;split at h
 case h_2=>exact h.elim
 split at h
 case h_2=>exact h.elim
 exact⟨_,h,rfl,rfl,λw=>by simp[Builtin.min_,Builtin.min2]⟩
theorem Acs{ts:Array TypeId}{ty:TypeId}{x y z u:Value}{K:Value->Prop}(h:OL x y z u K):∃r,K r/\isU x=false/\isU y=false/\isU z=false/\isU u=false/\∀w,(Builtin.min_ ts ty #[x,y,z,u]).run P w = .ok r w:=by
 unfold OL at h;split at h
 case h_2=>exact h.elim
 split at h
 case h_2=>exact h.elim
 split at h
 case h_2=>exact h.elim
 split at h
 case h_2=>exact h.elim
 exact⟨_,h,rfl,rfl,rfl,rfl,λw=>by simp[Builtin.min_,Builtin.min2,mn] <;> rfl⟩
theorem Yp{v:Value}{K:Value->Prop}(h:JK v K):∃b o,v = .pointer (some ⟨b,o,none⟩)/\K v:=by
 unfold JK at h;split at h
 case h_2=>exact h.elim
 obtain⟨b,o,rfl,a⟩:=h;exact⟨b,o,rfl,a⟩
theorem Ig{v:Option Value}{h:Nat}{K:Nat->Prop}{m:Bool}(a:loB v h K):∃l,K l/\l<=h/\(∀x,v=some x->isU x=false)/\∀w,(match v with
  | some v=>sliceBound v h (if m then .slice3C else .sliceB)
  | none=>(pure 0:Sem Nat)).run P w = .ok l w:=by
 unfold loB at a;split at a
 case h_3=>exact a.elim
 ·exact⟨_,a,Nat.zero_le _,by simp,λw=>rfl⟩
 ·obtain⟨b,c⟩:=a;exact⟨_,c,by omega,by rintro x ⟨⟩;rfl,λw=>by simp[sliceBound,asIntOf,b]⟩
theorem Y6{t:TypeId}{x:Value}{lo hi f:Option Value}{K:Value->Prop}(h:GV P t x lo hi f K) :
  ∃r,K r/\isU x=false/\(∀y,lo=some y->isU y=false)/\(∀y,hi=some y->isU y=false)/\(∀y,f=some y->isU y=false)/\∀w,(sliceAt t x lo hi f).run P w = .ok r w:=by
 unfold GV at h;split at h
 case h_3=>exact h.elim
 ·rename_i s;simp only[CD] at h;split at h
  case h_2=>exact h.elim
  rename_i z;simp only[cond_true] at h;cases f with
  | some m=>exact h.elim
  | none=>
   have key:∃u,(∃l,K (.string (s.extract l u))/\(∀y,lo=some y->isU y=false)/\∀w,(match lo with
     | some v=>sliceBound v u (if (none:Option Value).isSome then .slice3C else .sliceB)
     | none=>(pure 0:Sem Nat)).run P w = .ok l w)/\(∀y,hi=some y->isU y=false)/\∀w,(match hi with
     | some v=>sliceBound v s.size .sliceAlen
     | none=>(pure s.size:Sem Nat)).run P w = .ok u w:=by
    simp only[hiB] at h;split at h
    case h_3=>exact h.elim
    ·obtain⟨l,b,_,d,a⟩:=Ig (P:=P) (m:=(none:Option Value).isSome) h;exact⟨s.size,⟨l,b,d,a⟩,by simp,λw=>rfl⟩
    ·obtain⟨q,h⟩:=h;obtain⟨l,b,_,d,a⟩:=Ig (P:=P) (m:=(none:Option Value).isSome) h;exact⟨_,⟨l,b,d,a⟩,by rintro x ⟨⟩;rfl,λw=>by simp[sliceBound,asIntOf,q]⟩
   obtain⟨u,⟨l,b,d,a⟩,g,o⟩:=key;refine⟨_,b,rfl,d,g,by simp,λw=>?_⟩;cases hi <;> cases lo <;> simp only[isSome_none,false_eq_true,if_false] at o a <;>
    simp only[sliceAt,Instr.slice,run_bind,run_underlying z,andThen_ok,Instr.sliceBounds,o,a,run_pure,isSome_none,false_eq_true,if_false]
 ·rename_i base n c;split at h
  case h_2=>exact h.elim
  rename_i e z;cases j:(P.info? e).isSome with
  | false=>rw[j] at h;exact h.elim
  | true=>
   rw[j] at h;simp only[cond_true] at h;have key:∃m u,(∃l,K (.slice (Jk base l m (Ex P e)) (u-l) (m-l))/\(∀y,lo=some y->isU y=false)/\∀w,(match lo with
     | some v=>sliceBound v u (if f.isSome then .slice3C else .sliceB)
     | none=>(pure 0:Sem Nat)).run P w = .ok l w)/\(∀y,hi=some y->isU y=false)/\(∀y,f=some y->isU y=false)/\(∀w,(match f with
     | some v=>sliceBound v c .slice3Acap
     | none=>(pure c:Sem Nat)).run P w = .ok m w)/\(∀w,(match hi,f with
     | some v,some _=>sliceBound v m .slice3B
     | some v,none=>sliceBound v m .sliceAcap
     | none,none=>(pure n:Sem Nat)
     | none, some _ => stuck "Slice: max without high").run P w = .ok u w) := by
    split at h
    ·split at h
     case h_2=>exact h.elim
     obtain⟨l,b,_,d,a⟩:=Ig (P:=P) (m:=(none:Option Value).isSome) h;exact⟨c,n,⟨l,b,d,a⟩,by simp,by simp,λw=>rfl,λw=>rfl⟩
    ·simp only[mxB] at h;split at h
     case h_3=>exact h.elim
     ·simp only[hiB] at h;split at h
      case h_1=>rename_i A;cases A
      case h_3=>exact h.elim
      cases ‹some _=some (Value.int _ _)›;obtain⟨q,h⟩:=h;obtain⟨l,b,_,d,a⟩:=Ig (P:=P) (m:=(none:Option Value).isSome) h;exact⟨c,_,⟨l,b,d,a⟩,by rintro x ⟨⟩;rfl,by simp,λw=>rfl,λw=>by simp[sliceBound,asIntOf,q]⟩
     ·rename_i k i;obtain⟨B,h⟩:=h;simp only[hiB] at h;split at h
      case h_1=>rename_i A;cases A
      case h_3=>exact h.elim
      cases ‹some _=some (Value.int _ _)›;obtain⟨q,h⟩:=h;obtain⟨l,b,_,d,a⟩:=Ig (P:=P) (m:=(some (Value.int k i):Option Value).isSome) h;exact⟨_,_,⟨l,b,d,a⟩,by rintro x ⟨⟩;rfl,by rintro x ⟨⟩;rfl,λw=>by simp[sliceBound,asIntOf,B],λw=>by simp[sliceBound,asIntOf] ;omega⟩
   obtain⟨m,u,⟨l,b,d,a⟩,g,p,C,o⟩:=key;refine⟨_,b,rfl,d,g,p,λw=>?_⟩;cases hi <;> cases lo <;> cases f <;> simp only[isSome_none,isSome_some,false_eq_true,if_false,if_true] at C o a <;>
    simp only[sliceAt,Instr.slice,run_bind,run_underlying z,andThen_ok,Instr.sliceBounds,if_true,C,o,a,run_pure,CJ j,Jk,isSome_none,isSome_some,false_eq_true,if_false]
end
end Go.Hb
namespace Go.Hb
theorem Bct(l:Dy)(t:Nat)(v:Value):pt l t v=l.set t v:=by
 induction l generalizing t with
 | nil=>cases t <;> rfl
 | cons x l a=>cases t with
  | zero=>rfl
  | succ t=>simp[pt,a]
theorem Sk(a:Nat):∀(vs:List Value)(k:Nat)(A:Array Value),
  (vs.zipIdx k).foldl (λcs p=>cs.setIfInBounds (a+p.2) p.1) A=(KA A.toList (a+k) vs).toArray
 | [],_,A=>by simp[KA]
 | v::vs,k,A=>by
  simp only[List.zipIdx_cons,foldl_cons,KA];rw[Sk a vs<|k+1];simp[Bct,Nat.add_assoc]
theorem Gz(v:Value):v.cells=(Cd v).toArray:=by
 cases v <;> simp[Value.cells,Cd]
theorem Hj{b:Nat->Option (Nat×Nat)}:∀(d:List (Nat×Value))(a r:List Value),GF b a d=some r ->
  fill b a.toArray d=some r.toArray/\∀p∈d,isU p.2=false
 | [],a,r,h=>by simp[GF] at h;simp[fill,h]
 | (i,v)::f,a,r,h=>by
  simp only[GF] at h;split at h
  ·cases h
  rename_i e c m;cases hc:(isU v || !(beq (Cd v).length c) || !(ble (e+c) a.length)) with
  | true=>rw[hc] at h;cases h
  | false=>
   rw[hc] at h;simp only[cond_false] at h;simp only[or_eq_false_iff,not_eq_eq_eq_not,Bool.not_false] at hc;obtain⟨⟨n,hs⟩,o⟩:=hc;have g:(Cd v).length=c:=eq_of_beq_eq_true hs;have q:e+c<=a.length:=Nat.le_of_ble_eq_true o;have h:GF b (KA a e<|Cd v) f=some r:=by cases k:DS v with|true=>rw[k] at h;cases h|false=>rw[k] at h;exact h
   have l:=Hj f _ r h;refine⟨?_,?_⟩
   ·simp only[fill,m];have s:v.cells.size=c:=by rw[Gz];simpa using g
    rw[if_neg<|by simp[s];omega];have t:v.cells.zipIdx.foldl (λcs (x:Value×Nat)=>cs.setIfInBounds (e+x.2) x.1) a.toArray=(KA a e<|Cd v).toArray:=by
     rw[<- Array.foldl_toList,Gz,Array.toList_zipIdx];simpa using Sk e (Cd v) 0 a.toArray
    exact(congrArg (λz=>fill b z f) t).trans l.1
   ·intro p j;cases j with
    | head=>exact n
    | tail _ u=>exact l.2 p u
section
variable{P:Program}{ρ:Dy}{a:Act}
theorem SZ(w:World):∀(l:List Field),(l.all λf=>(P.info? f.type).isSome)=true ->
  (l.mapM (λf=>do pure (f.offset,<- sizeOf f.type):Field->Sem (Nat×Nat))).run P w = .ok (l.map λf=>(f.offset,Ex P f.type)) w
 | [],_=>by simp
 | f::l,h=>by
  simp only[all_cons,and_eq_true] at h;have a:=SZ w l h.2;simp only[mapM_cons,run_bind,CJ h.1,a,andThen_ok,run_pure,map_cons]
theorem Adj(w:World)(fs:Array Field)(h:(fs.toList.all λf=>(P.info? f.type).isSome)=true) :
  (fs.mapM (λf=>do pure (f.offset,<- sizeOf f.type):Field->Sem (Nat×Nat))).run P w = .ok (fs.toList.map λf=>(f.offset,Ex P f.type)).toArray w:=by
 rw[Array.mapM_eq_mapM_toList,Sem.run_map,SZ w _ h];rfl
theorem H9{t:TypeId}{z:List Value}(h:Di P t=some z):∃v,(∀w,(zeroValue t).run P w = .ok v w)/\v.cells=z.toArray:=by
 unfold Di at h;split at h
 case h_2=>cases h
 rename_i i hi;split at h
 case h_2=>cases h
 rename_i v a;refine⟨v,λw=>by simp[zeroValue,typeInfo,hi,a],?_⟩;rw[Gz,Option.some.inj h]
theorem W3{t:TypeId}{a:List (Nat×Value)}{r:List Value}(h:Jv P t a=some r) :
  (∀p∈a,isU p.2=false)/\∀w,(Instr.build t a.toArray).run P w = .ok (.agg r.toArray) w:=by
 unfold Jv at h;split at h
 ·cases h
 rename_i z l;obtain⟨v,k,c⟩:=H9 l;split at h
 case h_3=>cases h
 ·rename_i fs d;cases b:(fs.toList.all λf=>(P.info? f.type).isSome) with
  | false=>rw[b] at h;cases h
  | true=>
   rw[b] at h;obtain⟨g,j⟩:=Hj _ _ _ h;refine⟨j,λw=>?_⟩;have m:(λi=>((fs.toList.map λf=>(f.offset,Ex P f.type)).toArray)[i]?)=Yu P fs.toList:=by
    funext i;simp only[getElem?_toArray,List.getElem?_map,Yu];cases fs.toList[i]? <;> rfl
   simp only[Instr.build,run_bind,k,andThen_ok,run_underlying d,Adj _ _ b,c,m,g,run_pure]
 ·rename_i n e d;cases hi:(P.info? e).isSome with
  | false=>rw[hi] at h;cases h
  | true=>
   rw[hi] at h;obtain⟨g,j⟩:=Hj _ _ _ h;refine⟨j,λw=>?_⟩;simp only[Instr.build,run_bind,k,andThen_ok,run_underlying d,c,CJ hi,g,run_pure]
theorem KN(hs:JX ρ a):∀(l:List (Nat×Operand)),(∀p∈FM ρ l,isU p.2=false)->l.map (λp=>(p.1,a.eval p.2))=FM ρ l
 | [],_=>rfl
 | (i,x)::l,h=>by
  simp only[map_cons,FM];rw[KN hs l (λp hp=>h p (.tail _ hp)),BN hs rfl (h (i,ev ρ x) (.head _))]
theorem Ae0(hs:JX ρ a){o:Option Operand}(h:∀y,evO ρ o=some y->isU y=false):o.map a.eval=evO ρ o:=by
 cases o with
 | none=>rfl
 | some x=>simp only[Option.map_some,evO];rw[BN hs rfl<|h _ rfl]
theorem It{s:Sem Value}{r:Value}{w:World}(h:s.run P w = .ok r w):((do pure (Next.value<|<- s):Sem Next)).run P w = .ok (.value r) w:=by
 simp[h]
theorem OQ{o:Oper}{F:(Value->Prop)->Prop}{K:Value->Prop}(hF:Fz P ρ o.op=some F)(h:F K)(hs:JX ρ a) :
  ∃v v',Le v v'/\K v/\A6u P o a v':=by
 obtain⟨dst,op,ty,pos,after,guard⟩:=o;unfold A6u;cases op <;> simp only[Fz] at hF <;> try (cases hF;done)
 case move x=>cases hF;exact⟨_,_,Zg hs x,h,λw=>by simp[execOp]⟩
 case assign x=>cases hF;exact⟨_,_,Zg hs x,h,λw=>by simp[execOp]⟩
 case pick c x y=>
  cases hF;unfold SC at h;split at h
  case h_2=>exact h.elim
  rename_i t hc;have hc':=BN hs hc rfl;cases t with
  | true=>exact⟨_,_,Zg hs x,h,λw=>by simp[execOp,hc',asBool]⟩
  | false=>exact⟨_,_,Zg hs y,h,λw=>by simp[execOp,hc',asBool]⟩
 case nilCheck x=>
  cases hF;obtain⟨b,o,hv,hK⟩:=Yp h;have hx:=BN hs hv rfl;exact⟨_,_,Le.refl _,hK,λw=>by simp[execOp,hx,hv]⟩
 case binOp op t x y t2=>
  have gen:Rg P op t (ev ρ x) (ev ρ y) K->∃v v',Le v v'/\K v/\∀w,(execOp a.eval ⟨dst,.binOp op t x y t2,ty,pos,after,guard⟩).run P w = .ok (.value v') w:=λh=>by
   obtain⟨r,hK,hu,hv,hw⟩:=Aek (x:=x) (y:=y) h;exact⟨_,_,Le.refl _,hK,λw=>by simp only[execOp];rw[BN hs rfl hu,BN hs rfl hv];exact It (hw w)⟩
  have spec:∀r,K r->isU (ev ρ x)=false->(∀w,((do eqGuard op t x y (ev ρ x) (a.eval y);binOp op t (ev ρ x) (a.eval y):Sem Value)).run P w = .ok r w)->∃v v',Le v v'/\K v/\∀w,(execOp a.eval ⟨dst,.binOp op t x y t2,ty,pos,after,guard⟩).run P w = .ok (.value v') w:=λr hK hu hw=>
   ⟨_,_,Le.refl _,hK,λw=>by simp only[execOp];rw[BN hs rfl hu];exact It (hw w)⟩
  cases y with
  | const c=>
   by_cases h1:c = .nilIface
   ·subst h1;cases hF;obtain⟨r,hK,hu,hw⟩:=Agx (x:=x) h;exact spec r hK hu hw
   by_cases h2:c = .nilFunc
   ·subst h2;cases hF;obtain⟨r,hK,hu,hw⟩:=Acw (x:=x) h;exact spec r hK hu hw
   have hF':some (Rg P op t (ev ρ x) c)=some F:=by
    rw[<- hF];cases c <;> first|rfl|exact absurd rfl h1|exact absurd rfl h2
   cases hF';exact gen h
  | tmp t=>cases hF;exact gen h
  | global g=>cases hF;exact gen h
  | func f=>cases hF;exact gen h
 case makeInterface t x=>
  cases hF;cases hc:((P.underlying t).isSome && !Dg P t && !isU (ev ρ x)) with
  | false=>rw[hc] at h;exact h.elim
  | true=>
   rw[hc] at h;simp only[and_eq_true,not_eq_eq_eq_not,Bool.not_true] at hc;obtain⟨d,hd⟩:=isSome_iff_exists.1 hc.1.1;have hni:=hc.1.2;have hr:∀w,(Instr.makeInterface t (ev ρ x)).run P w = .ok (.iface t (ev ρ x)) w:=by
    intro w;unfold Dg at hni;rw[hd] at hni;unfold Instr.makeInterface;simp only[run_bind,run_underlying hd,andThen_ok];cases d <;> first|rfl|cases hni
   have h:K (.iface t (ev ρ x)):=by cases ht:Ajh (ev ρ x) with|true=>simpa[ht] using h|false=>simp[ht] at h
   exact⟨_,_,Le.refl _,h,λw=>by simp only[execOp];rw[BN hs rfl hc.2];exact It (hr w)⟩
 case unOp op t x=>
  cases hF;obtain⟨r,hK,hu,hw⟩:=Aop h;exact⟨_,_,Le.refl _,hK,λw=>by simp only[execOp];rw[BN hs rfl hu];exact It (hw w)⟩
 case convert s d x=>
  split at hF
  case h_3=>cases hF
  ·rename_i k n hx;cases hsrc:(P.underlying s).isSome with
   | false=>rw[hsrc] at hF;cases hF
   | true=>
    rw[hsrc] at hF;cases hF;have h':K7 P d (.int k n) K:=h;obtain⟨r,hK,hu,hw⟩:=N6 hsrc h';exact⟨_,_,Le.refl _,hK,λw=>by simp only[execOp];rw[BN hs hx rfl];exact It (hw w)⟩
  ·rename_i b hx;cases hst:CD P s with
   | false=>rw[hst] at hF;cases hF
   | true=>
    rw[hst] at hF;cases hsd:CD P d with
    | false=>rw[hsd] at hF;cases hF
    | true=>
     rw[hsd] at hF;cases hF;have hsrc:(P.underlying s).isSome=true:=by
      unfold CD at hst;split at hst
      ·rename_i he;simp[he]
      ·cases hst
     obtain⟨r,hK,hu,hw⟩:=N6 hsrc h;exact⟨_,_,Le.refl _,hK,λw=>by simp only[execOp];rw[BN hs hx rfl];exact It (hw w)⟩
 case slice t x lo hi mx=>
  cases hF;obtain⟨r,hK,hu,h1,h2,h3,hw⟩:=Y6 h;exact⟨_,_,Le.refl _,hK,λw=>by simp only[execOp];rw[BN hs rfl hu,Ae0 hs h1,Ae0 hs h2,Ae0 hs h3];exact It (hw w)⟩
 case fieldAddr t x f=>
  cases hF;obtain⟨r,hK,hu,hw⟩:=TD h;exact⟨_,_,Le.refl _,hK,λw=>by simp only[execOp];rw[BN hs rfl hu];exact It (hw w)⟩
 case field t x f=>
  cases hF;have key:∃r,K r/\isU (ev ρ x)=false/\∀w,(Instr.field t (ev ρ x) f).run P w = .ok r w:=by
   unfold KS at h;split at h
   case h_2=>exact h.elim
   rename_i cs hx;split at h
   case h_2=>exact h.elim
   rename_i off ft hf;obtain⟨fs,hu,g,hg,rfl,rfl⟩:=LZ hf;cases hd:P.underlying g.type with
   | none=>rw[hd] at h;exact h.elim
   | some d=>
    rw[hd] at h;obtain⟨r,hK,hw⟩:=Ac0 hd h;exact⟨r,hK,by rw[hx];rfl,λw=>by simp[Instr.field,run_underlying hu,hg,asAgg,hx,hw]⟩
  obtain⟨r,hK,hu,hw⟩:=key;exact⟨_,_,Le.refl _,hK,λw=>by simp only[execOp];rw[BN hs rfl hu];exact It (hw w)⟩
 case indexAddr t x i=>
  cases hF;obtain⟨r,hK,hu,hv,hw⟩:=TF h;exact⟨_,_,Le.refl _,hK,λw=>by simp only[execOp];rw[BN hs rfl hu,BN hs rfl hv];exact It (hw w)⟩
 case index t x i=>
  cases hF;obtain⟨r,hK,hu,hv,hw⟩:=XY h;exact⟨_,_,Le.refl _,hK,λw=>by simp only[execOp];rw[BN hs rfl hu,BN hs rfl hv];exact It (hw w)⟩
 case extract x i=>
  cases hF;obtain⟨r,hK,hu,hw⟩:=Rw h;exact⟨_,_,Le.refl _,hK,λw=>by simp only[execOp];rw[BN hs rfl hu];exact It (hw w)⟩
 case build t ps=>
  cases hF;unfold KL at h;split at h
  case h_2=>exact h.elim
  rename_i cs hb;obtain⟨h1,h2⟩:=W3 hb;refine⟨_,_,Le.refl _,h,λw=>?_⟩;have he:(ps.map λ(x:Nat×Operand)=>(x.1,a.eval x.2))=(FM ρ ps.toList).toArray:=by
   rw[<- KN hs _ h1,<- toList_inj];simp
  have:=h2 w;rw[<- he] at this;exact It this
 case call c=>
  obtain⟨callee,args,ats⟩:=c;simp only at hF;split at hF
  case h_2=>cases hF
  rename_i b;have hmap1:∀x,args.toList=[x]->isU (ev ρ x)=false->args.map a.eval=#[ev ρ x]:=by
   intro x hx hu;rw[<- toList_inj];simp[hx,BN hs rfl hu]
  have hmap2:∀x y,args.toList=[x,y]->isU (ev ρ x)=false->isU (ev ρ y)=false->args.map a.eval=#[ev ρ x,ev ρ y]:=by
   intro x y hx hu hv;rw[<- toList_inj];simp[hx,BN hs rfl hu,BN hs rfl hv]
  split at hF
  case h_4=>cases hF
  ·split at hF
   case h_2=>cases hF
   rename_i x hx;split at hF
   case h_2=>cases hF
   rename_i t ht;cases hF;obtain⟨r,hK,hu,hw⟩:=Agn (ty:=ty) h;have hats:ats=#[t]:=by rw[<- toList_inj];exact ht
   refine⟨_,_,Le.refl _,hK,λw=>?_⟩;simp only[execOp,resolve,hmap1 x hx hu,run_bind,run_pure,andThen_ok,invoke,builtin,hats,hw]
  ·split at hF
   case h_2=>cases hF
   rename_i x y hx;cases hF;obtain⟨r,hK,hu,hv,hw⟩:=Agu (P:=P) (ts:=ats) (ty:=ty) h;refine⟨_,_,Le.refl _,hK,λw=>?_⟩;simp only[execOp,resolve,hmap2 x y hx hu hv,run_bind,run_pure,andThen_ok,invoke,builtin,hw]
  ·split at hF
   case h_3=>cases hF
   ·rename_i x y hx;cases hF;obtain⟨r,hK,hu,hv,hw⟩:=Agv (P:=P) (ts:=ats) (ty:=ty) h;refine⟨_,_,Le.refl _,hK,λw=>?_⟩;simp only[execOp,resolve,hmap2 x y hx hu hv,run_bind,run_pure,andThen_ok,invoke,builtin,hw]
   ·rename_i x y z u hx;cases hF;obtain⟨r,hK,h1,h2,h3,h4,hw⟩:=Acs (P:=P) (ts:=ats) (ty:=ty) h;refine⟨_,_,Le.refl _,hK,λw=>?_⟩;have hm:args.map a.eval=#[ev ρ x,ev ρ y,ev ρ z,ev ρ u]:=by
     rw[<- toList_inj];simp[hx,BN hs rfl h1,BN hs rfl h2,BN hs rfl h3,BN hs rfl h4]
    simp only[execOp,resolve,hm,run_bind,run_pure,andThen_ok,invoke,builtin,hw]
end
end Go.Hb
namespace Go.Hb
section
variable{P:Program}{ρ:Dy}{a:Act}{w:World}
theorem Bbk{k:CK}{v:Value}{x:k.ty}(h:k.un v=some x):v=k.val x:=by
 cases k with
 | int k=>
  cases v <;> simp[CK.un] at h
  rename_i c n;cases a:Nb k c with
  | false=>rw[a] at h;cases h
  | true=>
   rw[a] at h;obtain rfl:=Nc a;cases h;rfl
 | bool=>cases v <;> simp[CK.un] at h;subst h;rfl
 | str=>cases v <;> simp[CK.un] at h;subst h;rfl
 | ptr=>cases v <;> simp[CK.un] at h;subst h;rfl
 | slc=>cases v <;> simp[CK.un] at h;subst h;rfl
 | any=>
  simp only[CK.un] at h;cases b:isU v with
  | true=>rw[b] at h;cases h
  | false=>rw[b] at h;cases h;rfl
theorem Ach{k:CK}{b o:Nat}{K:k.ty->WP}(h:ld k b o K w):∃x,w.cell? ⟨b,o,none⟩=some (k.val x)/\K x w:=by
 unfold ld at h;split at h
 case h_2=>exact h.elim
 rename_i x a;cases hc:w.cell? ⟨b,o,none⟩ with
 | none=>rw[hc] at a;cases a
 | some v=>
  rw[hc] at a;exact⟨x,by rw[Bbk a],h⟩
theorem Amz{b o:Nat}{N:WP}{K:TypeId->VW}(h:Mk b o N K w):∃x,w.cell? ⟨b,o,none⟩=some x/\((x = .nilIface/\N w)\/∃t v,x = .iface t v/\K t v w):=by
 unfold Mk at h;split at h
 ·rename_i hc;exact⟨_,hc,.inl ⟨rfl,h⟩⟩
 ·rename_i t v hc;exact⟨_,hc,.inr ⟨t,v,rfl,h⟩⟩
 ·exact h.elim
theorem Sz{K:FuncId->WP}{p:FuncId×WP}:∀{l:List FuncId},p∈Mq K l->p.2=K p.1
 | [],h=>by cases h
 | f::l,h=>by
  simp only[Mq] at h;cases h with
  | head=>rfl
  | tail _ h=>exact Sz h
theorem Am0{b o:Nat}{K:VW}{l:List FuncId}(h:ldV b o (K .nilFunc) (Mq (λf=>K<|.func (.func f) #[] #[]) l) w):∃x,w.cell? ⟨b,o,none⟩=some x/\K x w:=by
 unfold ldV at h;split at h
 ·rename_i hc;exact⟨_,hc,h⟩
 ·rename_i f first cap hc
  obtain⟨rfl,rfl,p,c,rfl,a⟩:=h;rw[Sz c] at a;exact⟨_,hc,a⟩
 ·exact h.elim
theorem VD:∀(ks:List CK)(b o:Nat)(K:List Value->WP),lds ks b o K w->∃vs,vs.length=ks.length/\K vs w/\∀(j:Nat) v,vs[j]? = some v->w.cell? ⟨b,o+j,none⟩=some v
 | [],_,_,_,h=>⟨[],rfl,h,by simp⟩
 | k::ks,b,o,K,h=>by
  simp only[lds] at h;obtain⟨x,c,h⟩:=Ach h;obtain⟨vs,d,e,hc⟩:=VD ks b (o+1) _ h;refine⟨_,by simp[d],e,λj v a=>?_⟩;cases j with
  | zero=>simp at a;subst a;exact c
  | succ j=>
   have:=hc j v (by simpa using a)
   rwa [show o+1+j=o+(j+1) by omega] at this
theorem Eg{t:TypeId}{b o:Nat}{v:Value}{d:TypeDesc}(a:P.underlying t=some d)(c:G8 P t=false)(hc:w.cell? ⟨b,o,none⟩=some v) :
  (loadVar t ⟨b,o,none⟩).run P w = .ok v w:=by
 simp[loadVar,Is a,c,hc]
theorem OG{t:TypeId}{b o:Nat}{vs:List Value}{d:TypeDesc}(a:P.underlying t=some d)(hi:(P.info? t).isSome=true)(c:G8 P t=true)(e:Ex P t=vs.length)
  (hc:∀(j:Nat) v,vs[j]? = some v->w.cell? ⟨b,o+j,none⟩=some v) :
  (loadVar t ⟨b,o,none⟩).run P w = .ok (.agg vs.toArray) w:=by
 have f:=run_loadCells_list (P:=P) w ⟨b,o,none⟩ vs (λj v g=>by rw[Addr.add_lit];exact hc j v g);simp only[loadVar,run_bind,Is a,c,andThen_ok,if_true,CJ hi,e,f,run_pure]
theorem OF{t:TypeId}{x:Value}{K:VW}(h:GN P t x K w):∃v,isU x=false/\K v w/\(loadAt t x).run P w = .ok v w:=by
 unfold GN at h;cases x <;> try exact h.elim
 rename_i p;rcases p with _|⟨b,o,_|_⟩ <;> try exact h.elim
 cases n:Ud P 9 t with
 | none=>simp only[n] at h;exact h.elim
 | some ks=>
 simp only[n] at h;cases hc:((P.underlying t).isSome && (P.info? t).isSome && beq (Ex P t) ks.length) with
 | false=>rw[hc] at h;exact h.elim
 | true=>
  rw[hc] at h;simp only[and_eq_true] at hc;obtain⟨⟨c,hi⟩,q⟩:=hc;obtain⟨d,c⟩:=isSome_iff_exists.1 c;have j:Ex P t=ks.length:=eq_of_beq_eq_true q;simp only[cond_true] at h;cases e:G8 P t with
  | true=>
   simp only[e] at h;obtain⟨vs,l,a,m⟩:=VD _ _ _ _ h;exact⟨_,rfl,a,by
    simp only[loadAt,sureAddr,run_bind,run_pure,andThen_ok];exact OG c hi e (by rw[j,l]) m⟩
  | false=>
   simp only[e] at h;rcases ks with _|⟨k,_|_⟩ <;> try exact h.elim
   cases f:Dg P t with
   | false=>
    simp only[f] at h;cases g:EO P t with
    | false=>
     simp only[g] at h;obtain⟨x,i,a⟩:=Ach h;exact⟨_,rfl,a,by
      simp only[loadAt,sureAddr,run_bind,run_pure,andThen_ok];exact Eg c e i⟩
    | true=>
     simp only[g] at h;obtain⟨x,i,a⟩:=Am0 h;exact⟨_,rfl,a,by
      simp only[loadAt,sureAddr,run_bind,run_pure,andThen_ok];exact Eg c e i⟩
   | true=>
    simp only[f] at h;obtain⟨x,i,a⟩:=Amz h;refine⟨_,rfl,?_,by
     simp only[loadAt,sureAddr,run_bind,run_pure,andThen_ok];exact Eg c e i⟩
    rcases a with⟨rfl,a⟩|⟨r,s,rfl,a⟩ <;> exact a
theorem A5j{v:Value}{l:List Value}(h:Mv (v::l)=true):v.oneCell'=true/\Mv l=true:=by
 cases v <;> simp_all [Mv,Value.oneCell']
theorem Kx:∀(vs:List Value)(b o:Nat)(K:WP)(w:World),T7 vs b o K w->Mv vs=true->∃w',K w'/\∀base i,base+i=o->(storeCells ⟨b,base,none⟩ vs i).run P w = .ok () w'
 | [],_,_,_,w,h,_=>⟨w,h,λ_ _ _=>by simp[storeCells]⟩
 | v::vs,b,o,K,w,h,a=>by
  obtain⟨c,d⟩:=A5j a;obtain⟨hc,e,h⟩:=h;obtain⟨w',f,g⟩:=Kx vs b (o+1) K _ h d;refine⟨w',f,λbase i j=>?_⟩;subst j;have k:=g base (i+1) rfl;obtain⟨u,l⟩:=isSome_iff_exists.1 hc;simp only[storeCells,run_bind,Addr.add_lit,run_store P w _ v .plain c,l,e,false_eq_true,if_false,andThen_ok];exact k
theorem YA{t:TypeId}{x v:Value}{K:WP}(h:FH P t x v K w):isU x=false/\isU v=false/\∃w',K w'/\(storeAt t x v).run P w = .ok () w':=by
 unfold FH at h;cases x <;> try exact h.elim
 rename_i p;rcases p with _|⟨b,o,_|_⟩ <;> try exact h.elim
 cases hc:((P.info? t).isSome && beq (Ex P t) (Cd v).length && Mv (Cd v) && !(Cd v).any isU) with
 | false=>rw[hc] at h;exact h.elim
 | true=>
  rw[hc] at h;simp only[and_eq_true,not_eq_eq_eq_not,Bool.not_true] at hc;obtain⟨⟨⟨hi,c⟩,d⟩,i⟩:=hc;have a:Ex P t=(Cd v).length:=eq_of_beq_eq_true c;obtain⟨w',e,f⟩:=Kx (P:=P) _ _ _ _ _ h d;refine⟨rfl,?_,w',e,?_⟩
  ·cases v <;> simp_all [isU,Cd]
  ·have g:=f o 0 rfl;simp only[storeAt,sureAddr,run_bind,run_pure,andThen_ok,storeVar,CJ hi,a,Gz,List.size_toArray,ne_eq,not_true_eq_false,if_false,g,run_ite]
theorem Mt(e:TypeId)(a:List Value)(w:World):(newRow e a.toArray).run P w = .ok ⟨w.heap.size,0,none⟩ (w.alloc<|.cells a.toArray e):=by
 simp only[newRow,run_bind,run_newObj,andThen_ok,run_pure,World.alloc]
theorem FX(z:List Value):∀n,(CH z n).length=n*z.length
 | 0=>by simp[CH]
 | n+1=>by simp[CH,FX z n,succ_mul,Nat.add_comm]
theorem Ad9(z:List Value)(b:0<z.length):∀(n i:Nat),i<n*z.length->(CH z n)[i]? = some (z[i % z.length]!)
 | 0,i,h=>by simp at h
 | n+1,i,h=>by
  simp only[CH]
  by_cases hi:i<z.length
  ·rw[List.getElem?_append_left hi,Nat.mod_eq_of_lt hi];simp[hi]
  ·have a:z.length<=i:=by omega
   rw[List.getElem?_append_right a,Ad9 z b n _<|by rw[succ_mul] at h;omega];rw[Nat.mod_eq_sub_mod a]
theorem MN(z:List Value)(n:Nat):(Array.range<|n*z.length).map (λi=>z.toArray[i % z.toArray.size]!)=(CH z n).toArray:=by
 rw[<- toList_inj];apply List.ext_getElem?;intro i;rw[Array.toList_map,List.getElem?_map,Array.toList_range];show _=(CH z n)[i]?
 by_cases hi:i<n*z.length
 ·have a:0<z.length:=by
   rcases Nat.eq_zero_or_pos z.length with h|h
   ·rw[h] at hi;simp at hi
   ·exact h
  rw[Ad9 z a n i hi];simp[hi]
 ·have b:(CH z n)[i]? = none:=by rw[List.getElem?_eq_none];rw[FX];omega
  rw[b];simp;omega
theorem MM{t:TypeId}{z:List Value}(h:Di P t=some z):∃i v,P.info? t=some i/\i.zero=some v/\v.cells=z.toArray:=by
 unfold Di at h;split at h
 case h_2=>cases h
 rename_i i hi;split at h
 case h_2=>cases h
 rename_i v a;exact⟨i,v,hi,a,by rw[Gz,Option.some.inj h]⟩
theorem L3{t:TypeId}{n:Nat}{a:List (Nat×Value)}{K:VW}(h:CZ P t n a K w) :
  (∀p∈a,isU p.2=false)/\∃v w',K v w'/\(Instr.buildSlice t n a.toArray).run P w = .ok v w':=by
 unfold CZ at h;cases f:P.underlying t with
 | none=>simp only[f] at h;exact h.elim
 | some d=>
 simp only[f] at h;cases d <;> try exact h.elim
 rename_i e;simp only at h;cases g:Di P e with
 | none=>simp only[g] at h;exact h.elim
 | some z=>
 simp only[g] at h;cases hc:((P.info? e).isSome && beq z.length (Ex P e) && ble (n*Ex P e) 65536) with
 | false=>rw[hc] at h;exact h.elim
 | true=>
  rw[hc] at h;simp only[and_eq_true] at hc;obtain⟨⟨hi,q⟩,r⟩:=hc;have c:z.length=Ex P e:=eq_of_beq_eq_true q;have s:n*Ex P e<=65536:=Nat.le_of_ble_eq_true r;simp only[cond_true] at h;cases j:GF (λi=>some (i*Ex P e,Ex P e)) (CH z n) a with
  | none=>simp only[j] at h;exact h.elim
  | some cs=>
  simp only[j] at h;obtain⟨b,k⟩:=Hj _ _ _ j;refine⟨k,_,_,h,?_⟩;obtain⟨v,u,l⟩:=H9 g;have x:¬n*Ex P e>2 ^ 24:=by omega
  have o:=MN z n;rw[c] at o
  by_cases m:n*Ex P e=0
  ·have y:(CH z n)=[]:=by
    have:=FX z n;rw[c,m] at this;exact List.length_eq_zero_iff.1 this
   rw[y] at b;have A:¬(0:Nat)>2 ^ 24:=by decide
   simp only[Instr.buildSlice,run_bind,run_underlying f,andThen_ok,CJ hi,m,if_true,A,if_false,run_pure,Array.range_zero',List.map_toArray,List.map_nil,b,Mt]
  ·simp only[Instr.buildSlice,run_bind,run_underlying f,andThen_ok,CJ hi,x,if_false,m,u,run_pure,l,o,b,Mt,run_ite]
theorem No{t:TypeId}{l c:Value}{K:VW}(h:D7 P t l c K w):isU l=false/\isU c=false/\∃v w',K v w'/\(Instr.makeSlice t l c).run P w = .ok v w':=by
 unfold D7 at h;cases b:P.underlying t with
 | none=>simp only[b] at h;exact h.elim
 | some d=>
 simp only[b] at h;cases d <;> try exact h.elim
 rename_i e;simp only at h;cases f:Di P e with
 | none=>simp only[f] at h;exact h.elim
 | some z=>
 simp only[f] at h;cases l <;> try exact h.elim
 rename_i o l;cases c <;> try exact h.elim
 rename_i p c;cases hc:((P.info? e).isSome && beq z.length (Ex P e)) with
 | false=>rw[hc] at h;exact h.elim
 | true=>
  rw[hc] at h;simp only[and_eq_true] at hc;obtain⟨hi,q⟩:=hc;have g:z.length=Ex P e:=eq_of_beq_eq_true q;obtain⟨⟨r,s,A,n⟩,u⟩:=h;obtain⟨i,v,a,x,j⟩:=MM f;refine⟨rfl,rfl,_,_,u,?_⟩;have k:byT P e=i.bytes:=by simp[byT,a]
  have m:Ex P e=i.size:=by simp[Ex,a]
  rw[k] at n;rw[run_make w t e i v b a x o p l c r s n<|by omega];have y:=MN z c.toNat;simp only[madeCells,j];rw[<- m,<- g,y]
end
end Go.Hb
namespace Go.Hb
section
variable{P:Program}{ρ:Dy}{a:Act}{w:World}
theorem SJ:∀(n o:Nat)(w:World)(b:Nat)(vs:List Value),T5 w b o n=some vs->vs.length=n/\∀(j:Nat) v,vs[j]? = some v->w.cell? ⟨b,o+j,none⟩=some v
 | 0,o,w,b,vs,h=>by simp[T5] at h;subst h;simp
 | n+1,o,w,b,vs,h=>by
  simp only[T5] at h;split at h
  case h_2=>cases h
  rename_i v c;split at h
  case h_2=>cases h
  rename_i l d;cases h;obtain⟨e,f⟩:=SJ n (o+1) w b l d;refine⟨by simp[e],λj u a=>?_⟩;cases j with
  | zero=>simp at a;subst a;exact c
  | succ j=>
   have:=f j u (by simpa using a)
   rwa [show o+1+j=o+(j+1) by omega] at this
theorem Akc{b:OA}{n a c m:Nat}{vs:List Value}(h:H3 w b (n*a)=some vs)(w':World)(d:∀x,w'.cell? x=w.cell? x) :
  (Builtin.firstCells a n<|.slice b m c).run P w' = .ok vs.toArray w':=by
 rcases b with _|⟨b,o,_|_⟩
 ·simp only[H3,Option.some.injEq] at h;subst h;simp[Builtin.firstCells]
 ·obtain⟨e,f⟩:=SJ _ _ _ _ _ h;have:=run_loadCells_list (P:=P) w' ⟨b,o,none⟩ vs (λj v g=>by rw[Addr.add_lit,d];exact f j v g)
  rw[e] at this;simpa[Builtin.firstCells] using this
 ·cases h
def stS(b:OA)(a:Nat)(vs:List Value):Sem Unit:=match b with
 | some x=>storeCells (x.add a) vs
 | none=>pure ()
theorem Aoc{b:OA}{a:Nat}{vs:List Value}{K:WP}(h:stA b a vs K w)(c:Mv vs=true) :
  ∃w',K w'/\(stS b a vs).run P w = .ok () w':=by
 rcases b with _|⟨b,o,_|_⟩
 ·cases vs with
  | nil=>exact⟨w,h,rfl⟩
  | cons v vs=>exact h.elim
 ·obtain⟨w',d,e⟩:=Kx (P:=P) _ _ _ _ _ h c;refine⟨w',d,?_⟩;have:=e (o+a) 0 rfl;simpa[stS,Addr.add_lit] using this
 ·exact h.elim
theorem K6{t t2 e ty:TypeId}{i:TypeInfo}{p:Value}{z:List Value}{s:Sl}{x:Value}{n:Nat}{new:World->Option (List Value)}{K:Sl->WP}
  (v:P.underlying t=some (.slice e)) (hi:P.info? e=some i) (O:i.zero=some p) (A:p.cells=z.toArray) (Q:z.length=i.size)
  (B:i.bytes≠0) (j:(∃q,P.underlying t2=some (.slice q))\/P.underlying t2=some .string)
  (C:∀w,(Builtin.lenOf x).run P w = .ok n w) (R:∀w vs,new w=some vs->∀w',(∀y,w'.cell? y=w.cell? y)->(Builtin.firstCells i.size n x).run P w' = .ok vs.toArray w')
  (h:Bl e i.size i.bytes z s n new K w) :
  ∃r w',K r w'/\(Builtin.append_ #[t,t2] ty #[.slice s.a s.n s.c,x]).run P w = .ok (.slice r.a r.n r.c) w':=by
 obtain⟨J,d,l⟩:=s;obtain⟨vs,D,E,h⟩:=h;dsimp only at h ⊢;have f:=R w vs D
 by_cases b:d+n<=l
 ·rw[if_pos b] at h;obtain⟨w',S,F⟩:=Aoc (P:=P) h E;refine⟨_,w',S,?_⟩;have u:(Builtin.firstCells i.size n x).run P w = .ok vs.toArray w:=f w (λ_=>rfl);cases J with
  | none=>
   have G:w=w':=by simpa[stS] using F
   subst G;rcases j with⟨q,g⟩|g <;> simp[Builtin.append_,run_underlying v,run_underlying g,sizeOf,typeInfo,hi,C,b,u]
  | some y=>
   simp only[stS] at F;rcases j with⟨q,g⟩|g <;> simp[Builtin.append_,run_underlying v,run_underlying g,sizeOf,typeInfo,hi,C,b,u,F]
 ·rw[if_neg b] at h;obtain⟨L,H,m,h⟩:=h;have T:(Question.appendCap (d+n) l e).forced=false:=rfl;obtain⟨N,M⟩:∃N,N=(Question.appendCap (d+n) l e).cut (w.tape w.drawn<|.appendCap (d+n) l e):=⟨_,rfl⟩;have o:d+n<=N:=by rw[M];exact Nat.le_add_right _ _
  have U:(Builtin.firstCells i.size d<|.slice J d l).run P w.drew = .ok H.toArray w.drew:=Akc m _ (λ_=>rfl);have u:(Builtin.firstCells i.size n x).run P w.drew = .ok vs.toArray w.drew:=f _ (λ_=>rfl);have V:Builtin.zeroCells p.cells (N-(d+n))=(CH z<|N-(d+n)).toArray:=by
   rw[<- MN,A];rfl
  have I:∀w,(zeroValue e).run P w = .ok p w:=λw=>by simp[zeroValue,typeInfo,hi,O]
  refine⟨_,_,h N o,?_⟩;have k:¬Builtin.nextslicecap (d+n) l*i.bytes>281474976710656:=by omega
  rcases j with⟨q,g⟩|g
  all_goals
   simp[Builtin.append_,run_underlying v,run_underlying g,sizeOf,typeInfo,hi,C,b,B,k,-run_choose];rw[T,<- M];simp only[false_eq_true,if_false,U,andThen_ok,u,I,V,newRow,run_bind,run_newObj,run_pure,List.append_toArray,World.alloc];rfl
theorem Agd{t:TypeId}(h:J9 P t=true):∃e,P.underlying t=some (.slice e):=by
 unfold J9 at h;split at h
 ·rename_i e a;exact⟨e,a⟩
 ·cases h
theorem RX{t:TypeId}(h:CD P t=true):P.underlying t=some .string:=by
 unfold CD at h;split at h
 ·rename_i a;exact a
 ·cases h
theorem YU(b:BA)(a:Nat)(w:World):(Builtin.firstCells a b.size<|.string b).run P w = .ok (GB b).toArray w:=by
 have c:b.extract 0 b.size=b:=by simp
 simp only[Builtin.firstCells,c,run_pure];congr 1;rw[<- toList_inj];simp[GB]
theorem TB{t t2 ty:TypeId}{s x:Value}{K:VW}(h:Gp P t t2 s x K w) :
  isU s=false/\isU x=false/\∃r w',K r w'/\(Builtin.append_ #[t,t2] ty #[s,x]).run P w = .ok r w':=by
 unfold Gp at h;cases o:P.underlying t with
 | none=>simp only[o] at h;exact h.elim
 | some d=>
 simp only[o] at h;cases d <;> try exact h.elim
 rename_i e;simp only at h;cases p:Di P e with
 | none=>simp only[p] at h;exact h.elim
 | some z=>
 simp only[p] at h;cases s <;> try exact h.elim
 rename_i E F G;simp only at h;cases hc:((P.info? e).isSome && beq z.length (Ex P e) && !beq (byT P e) 0) with
 | false=>rw[hc] at h;exact h.elim
 | true=>
  rw[hc] at h;simp only[and_eq_true,not_eq_eq_eq_not,Bool.not_true] at hc;obtain⟨⟨hi,B⟩,y⟩:=hc;have f:z.length=Ex P e:=eq_of_beq_eq_true B;have g:byT P e≠0:=λC=>by rw[C] at y;cases y
  obtain⟨i,v,c,A,m⟩:=MM p;have j:byT P e=i.bytes:=by simp[byT,c]
  have k:Ex P e=i.size:=by simp[Ex,c]
  rw[k] at f;rw[j] at g;simp only[cond_true] at h;cases x <;> try exact h.elim
  case string b=>
   cases a:CD P t2 with
   | false=>simp only[a] at h;exact h.elim
   | true=>
    simp only[a,k,j,cond_true] at h;obtain⟨r,w',q,u⟩:=K6 (ty:=ty) (x:=.string b) (n:=b.size) (new:=λ_=>some<|GB b) o c A m f g (.inr<|RX a) (λw=>by simp[Builtin.lenOf])
     (λw vs l w' _=>by cases l;exact YU b _ w') h
    exact⟨rfl,rfl,_,_,q,u⟩
  case slice a' n' c'=>
   cases a:J9 P t2 with
   | false=>simp only[a] at h;exact h.elim
   | true=>
    simp only[a,k,j,cond_true] at h;obtain⟨r,w',q,u⟩:=K6 (ty:=ty) (x:=.slice a' n' c') (n:=n') (new:=λw=>H3 w a'<|n'*i.size) o c A m f g (.inl<|Agd a) (λw=>by simp[Builtin.lenOf])
     (λw vs l w' D=>Akc l w' D) h
    exact⟨rfl,rfl,_,_,q,u⟩
theorem Ani(l:List UInt8):∀(a:BA),(l.foldl ByteArray.push a).data.toList=a.data.toList++l:=by
 induction l with
 | nil=>intro a;simp
 | cons b l c=>intro a;rw[foldl_cons,c];simp[ByteArray.push]
theorem Ak9(s:BA):s.data.toList.foldl ByteArray.push ByteArray.empty=s:=by
 have h:=Ani s.data.toList ByteArray.empty;apply ByteArray.ext;rw[<- toList_inj,h];have:ByteArray.empty.data.toList=[]:=rfl;rw[this,List.nil_append]
theorem Ayl{b:OA}{n c:Nat}{s:BA}(h:H3 w b n=some (GB s)):(Conv.bytesToString<|.slice b n c).run P w = .ok (.string s) w:=by
 rcases b with _|⟨b,o,_|_⟩
 ·simp only[H3,Option.some.injEq,GB] at h;have e:s.data.toList=[]:=by
   cases g:s.data.toList with
   | nil=>rfl
   | cons x l=>rw[g] at h;cases h
  have:s=ByteArray.empty:=by
   apply ByteArray.ext;rw[<- toList_inj,e];rfl
  subst this;simp[Conv.bytesToString]
 ·obtain⟨i,e⟩:=SJ _ _ _ _ _ h;have f:=run_loadCells_list (P:=P) w ⟨b,o,none⟩ (GB s) (λj v k=>by rw[Addr.add_lit];exact e j v k)
  rw[i] at f;simp only[Conv.bytesToString,run_bind,f,andThen_ok,List.forIn_toArray,GB,List.forIn_map];have key:∀(l:List UInt8)(d:BA),(Sem.run P (forIn l d λ(a:UInt8)(y:BA)=>(pure (ForInStep.yield<|y.push<|UInt8.ofNat ((a.toNat:Int)).toNat):Sem (ForInStep BA))) w) = .ok (l.foldl ByteArray.push d) w:=by
   intro l
   induction l with
   | nil=>intro d;simp
   | cons b l m=>
    intro d;have p:UInt8.ofNat ((b.toNat:Int)).toNat=b:=by simp
    rw[List.forIn_cons,foldl_cons];simp only[run_bind,run_pure,andThen_ok,p];exact m _
  rw[key,Ak9];rfl
 ·cases h
theorem W8{s d:TypeId}{x:Value}{K:VW}(h:I1 P s d x K w):isU x=false/\∃v,K v w/\(convert s d x).run P w = .ok v w:=by
 unfold I1 at h;cases x <;> try exact h.elim
 rename_i a n c;simp only at h;cases hs:P.underlying s with
 | none=>simp only[hs] at h;exact h.elim
 | some g=>
 simp only[hs] at h;cases g <;> try exact h.elim
 rename_i e;simp only at h;cases b:P.underlying e with
 | none=>simp only[b] at h;exact h.elim
 | some i=>
 simp only[b] at h;cases i <;> try exact h.elim
 rename_i k;simp only at h;cases hc:(Nb k .u8 && CD P d) with
 | false=>rw[hc] at h;exact h.elim
 | true=>
  rw[hc] at h;simp only[and_eq_true] at hc;obtain⟨j,l⟩:=hc;have f:k = .u8:=by cases k <;> first|rfl|cases j
  subst f;obtain⟨r,m,o⟩:=h;refine⟨rfl,_,o,?_⟩;simp only[convert,run_bind,run_underlying hs,run_underlying<|RX l,run_underlying b,andThen_ok];exact Ayl m
theorem Aez(hs:JX ρ a):∀(l:List Operand),(evL ρ l).any isU=false->l.map a.eval=evL ρ l
 | [],_=>rfl
 | x::l,h=>by
  simp only[evL,List.any_cons,or_eq_false_iff] at h;simp only[map_cons,evL];rw[Aez hs l h.2,BN hs rfl h.1]
theorem Zi:∀(ks:List CK)(F:List Value->Prop),exV ks F->∃vs,F vs
 | [],F,h=>⟨_,h⟩
 | k::ks,F,h=>by
  obtain⟨x,h⟩:=h;obtain⟨vs,h⟩:=Zi ks _ h;exact⟨_,h⟩
theorem Zh{t:TypeId}{F:Value->Prop}(h:exT P t F):∃v,F v:=by
 unfold exT at h;split at h
 case h_2=>exact h.elim
 split at h
 ·obtain⟨vs,h⟩:=Zi _ _ h;exact⟨_,h⟩
 ·split at h
  case h_2=>exact h.elim
  split at h
  ·rcases h with h|⟨t,v,h⟩
   ·exact⟨_,h⟩
   ·exact⟨_,h⟩
  ·obtain⟨x,h⟩:=h;exact⟨_,h⟩
theorem Uf:∀(ts:List TypeId)(F:List Value->Prop),WO P ts F->∃vs,F vs
 | [],F,h=>⟨_,h⟩
 | t::ts,F,h=>by
  obtain⟨v,h⟩:=Zh h;obtain⟨vs,h⟩:=Uf ts _ h;exact⟨_,h⟩
theorem Wi{ts:List TypeId}{F:Value->Prop}(h:TN P ts F):∃v,F v:=by
 unfold TN at h;split at h
 ·exact⟨_,h⟩
 ·exact Zh h
 ·obtain⟨vs,h⟩:=Uf _ _ h;exact⟨_,h⟩
theorem YV{f:Value}{args:List Value}{K:VW}(h:L4 P f args K w):isU f=false/\args.any isU=false /\
  ∃g a,(do let d <- Deferred.ofValue f args.toArray;invoke d.target d.args:Sem Next).run P w = .ok (.enter g a) w/\Calls P g a w λe w'=>∃v,e = .returned v/\K v w':=by
 unfold L4 at h;cases f <;> try exact h.elim
 rename_i b first cap
 cases b <;> try exact h.elim
 rename_i f;simp only at h;cases c:P.funcs[f]? with
 | none=>simp only[c] at h;exact h.elim
 | some b=>
 simp only[c] at h;cases hc:(b.body.isSome && Lb b.name && !args.any isU) with
 | false=>rw[hc] at h;exact h.elim
 | true=>
  rw[hc] at h;simp only[and_eq_true,not_eq_eq_eq_not,Bool.not_true,Lb] at hc;obtain⟨⟨o,k⟩,l⟩:=hc;refine⟨rfl,l,f,first++args.toArray++cap,?_,?_⟩
  ·have i:b.body.isNone=false:=by cases p:b.body <;> simp_all
   simp only[Deferred.ofValue,run_bind,run_pure,andThen_ok,invoke,callFunc,run_program,c,k,i,false_eq_true,if_false]
  ·have m:(first.toList++args++cap.toList).toArray=first++args.toArray++cap:=by
    rw[<- toList_inj];simp
   have j:Calls P f (first.toList++args++cap.toList).toArray w _:=h;rw[m] at j;exact j.mono λe w' n=>Wi n
theorem Agc{ty:TypeId}{x:Value}{b:String}{args:List Value}{K:VW}(h:Yb P ty x b args K w):isU x=false/\args.any isU=false /\
  ∃g a,(callMethod x b args.toArray:Sem Next).run P w = .ok (.enter g a) w/\Calls P g a w λe w'=>∃v,e = .returned v/\K v w':=by
 unfold Yb at h;cases x <;> try exact h.elim
 rename_i t v;simp only at h;cases i:args.any isU with
 | true=>rw[i] at h;exact h.elim
 | false=>
  rw[i] at h;obtain⟨f,c,j,m,n,r,k,o⟩:=h;refine⟨rfl,rfl,f,#[c]++args.toArray,?_,?_⟩
  ·have d:j.body.isNone=false:=by cases s:j.body <;> simp_all
   simp only[Lb,not_eq_eq_eq_not,Bool.not_true] at k;simp only[callMethod,run_bind,run_program,andThen_ok,m,callFunc,n,k,d,false_eq_true,if_false,run_pure]
  ·have l:Calls P f (c::args).toArray w _:=o;have p:(c::args).toArray=#[c]++args.toArray:=by rw[<- toList_inj];simp
   rw[p] at l;exact l.mono λe w' q=>Wi q
theorem Aep{t ty:TypeId}{x:Value}{K:WP}(h:MT P t x K w):isU x=false/\∃w',K w'/\(Builtin.clear_ #[t] ty #[x]).run P w = .ok (.tuple #[]) w':=by
 unfold MT at h;cases x <;> try exact h.elim
 rename_i b n c;simp only at h;cases a:P.underlying t with
 | none=>simp only[a] at h;exact h.elim
 | some m=>
 simp only[a] at h;cases m <;> try exact h.elim
 rename_i e;simp only at h;cases g:Di P e with
 | none=>simp only[g] at h;exact h.elim
 | some z=>
 simp only[g] at h;unfold Ayt at h;cases j:Mv (CH z n) with
 | false=>rw[j] at h;exact h.elim
 | true=>
 rw[j] at h;obtain⟨v,p,k⟩:=H9 g;refine⟨rfl,?_⟩;cases b with
 | none=>
  cases d:CH z n with
  | cons _ _=>simp only[cond_true,stA,d] at h;exact h.elim
  | nil=>
   simp only[cond_true,stA,d] at h;refine⟨w,h,?_⟩;simp[Builtin.clear_,run_underlying a]
 | some q=>
  obtain⟨s,o,sp⟩:=q;cases sp with
  | some _=>exact h.elim
  | none=>
   simp only[cond_true,stA] at h;obtain⟨w',r,f⟩:=Kx _ _ _ _ _ h j;refine⟨w',r,?_⟩;cases n with
   | zero=>
    have hs:=f o 0 (by omega);simp only[CH,storeCells,run_pure,Result.ok.injEq,true_and] at hs;subst hs;simp[Builtin.clear_,run_underlying a]
   | succ n=>
    have hs:=f o 0 (by omega);have l:(Builtin.zeroCells v.cells<|n+1).toList=CH z (n+1):=by
     unfold Builtin.zeroCells;rw[k];show(Array.map (λi=>z.toArray[i % z.toArray.size]!)<|Array.range<|(n+1)*z.length).toList=_;rw[MN]
    simp[Builtin.clear_,run_underlying a,p,l];rw[hs];rfl
theorem Lo{s:Sem Value}{r:Value}{w w':World}(h:s.run P w = .ok r w'):((do pure (Next.value<|<- s):Sem Next)).run P w = .ok (.value r) w':=by
 simp[h]
theorem Agr{t:TypeId}{m k:Value}{K:VW}(h:VI P t m k K w):∃c:CK,isU m=false/\isU k=false/\∃x:c.ty,(Instr.lookup t m k false).run P w = .ok (c.val x) w/\K (c.val x) w:=by
 unfold VI at h;cases b:P.underlying t with
 | none=>simp only[b] at h;exact h.elim
 | some d=>
 simp only[b] at h;cases d <;> try exact h.elim
 rename_i i e;simp only at h;cases hc:Ud P 9 e with
 | none=>simp only[hc] at h;exact h.elim
 | some l=>
 simp only[hc] at h
 match l,h with
 | [],h=>exact h.elim
 | _::_::_,h=>exact h.elim
 | [c],h=>
  simp only at h;cases a:(G8 P e || isU m || isU k) with
  | true=>rw[a] at h;exact h.elim
  | false=>
   rw[a] at h;simp only[or_eq_false_iff] at a;obtain⟨x,f,g⟩:=h;exact⟨c,a.1.2,a.2,x,f,g⟩
theorem VV{o:Oper}{K:VW}(h:OP P ρ o.type o.op K w)(hs:JX ρ a){next:Act->World->Prop}{Q:Exit->Act->World->Prop}
  (hn:∀v v' w',Le v v'->K v w'->next (a.put o.dst v') w'):o.wp P a w next Q:=by
 unfold OP at h;cases hp:Fz P ρ o.op with
 | some F=>
  simp only[hp] at h;obtain⟨v,v',hle,hK,hg⟩:=OQ hp h hs;unfold Oper.wp;rw[hg w];exact hn _ _ _ hle hK
 | none=>
 simp only[hp] at h;obtain⟨dst,op,ty,pos,after,guard⟩:=o;have fin:∀{v w'},K v w'->(execOp a.eval ⟨dst,op,ty,pos,after,guard⟩).run P w = .ok (.value v) w'->Oper.wp P ⟨dst,op,ty,pos,after,guard⟩ a w next Q:=by
  intro v w' hK hr;unfold Oper.wp;rw[hr];exact hn _ _ _ (Le.refl _) hK
 cases op <;> try exact h.elim
 case alloc t=>
  simp only[Jt] at h;cases hz:Di P t with
  | none=>simp only[hz] at h;exact h.elim
  | some z=>
   simp only[hz] at h;obtain⟨v,hv,hvc⟩:=H9 hz;exact fin h (by simp only[execOp,Instr.alloc,run_bind,hv,andThen_ok,newVar,hvc,Mt,run_pure])
 case box t x=>
  simp only[YT] at h;cases hu:isU (ev ρ x) with
  | true=>rw[hu] at h;exact h.elim
  | false=>
   rw[hu] at h;have h:(Az (Cd (ev ρ x)) t λb=>K (.pointer (some ⟨b,0,none⟩))) w:=by cases ht:DS (ev ρ x) with|true=>rw[ht] at h;exact h.elim|false=>rw[ht] at h;exact h
   exact fin h (by simp only[execOp,BN hs rfl hu,Instr.box,run_bind,newVar,Gz,Mt,andThen_ok,run_pure])
 case buildSlice t n ps=>
  obtain⟨hu,v,w',hK,hr⟩:=L3 h;have he:(ps.map λ(x:Nat×Operand)=>(x.1,a.eval x.2))=(FM ρ ps.toList).toArray:=by
   rw[<- KN hs _ hu,<- toList_inj];simp
  rw[<- he] at hr;exact fin hK (Lo hr)
 case load t x=>
  have h:GN P t (ev ρ x) K w:=by
   have h:(cond (IF x) Cv (GN P t (ev ρ x) K)) w:=h;cases hg:IF x with
   | true=>rw[hg] at h;exact h.elim
   | false=>rw[hg] at h;exact h
  obtain⟨v,hu,hK,hr⟩:=OF h;exact fin hK (by simp only[execOp,BN hs rfl hu];exact Lo hr)
 case store t x v=>
  obtain⟨hu,hv,w',hK,hr⟩:=YA h;unfold Oper.wp;have:(execOp a.eval ⟨dst,.store t x v,ty,pos,after,guard⟩).run P w = .ok .skip w':=by
   simp only[execOp,BN hs rfl hu,BN hs rfl hv,run_bind,hr,andThen_ok,run_pure]
  rw[this];exact hn _ _ _ (Le.refl _) hK
 case makeSlice t l c=>
  obtain⟨hu,hv,v,w',hK,hr⟩:=No h;exact fin hK (by simp only[execOp,BN hs rfl hu,BN hs rfl hv];exact Lo hr)
 case makeMap t r=>
  cases r with
  | some _=>exact h.elim
  | none=>exact fin h (by simp only[execOp,Instr.makeMap,Option.map_none,run_bind,run_newObj,andThen_ok,run_pure,World.alloc])
 case mapUpdate t m k x=>
  simp only at h;cases hu:(isU (ev ρ m) || isU (ev ρ k) || isU (ev ρ x)) with
  | true=>rw[hu] at h;exact h.elim
  | false=>
   rw[hu] at h;simp only[or_eq_false_iff] at hu;obtain⟨w',hr,hK⟩:=h;unfold Oper.wp;have:(execOp a.eval ⟨dst,.mapUpdate t m k x,ty,pos,after,guard⟩).run P w = .ok .skip w':=by
    simp only[execOp,BN hs rfl hu.1.1,BN hs rfl hu.1.2,BN hs rfl hu.2,run_bind,hr,andThen_ok,run_pure]
   rw[this];exact hn _ _ _ (Le.refl _) hK
 case lookup t m k c=>
  cases c with
  | true=>exact h.elim
  | false=>
   obtain⟨c',hu1,hu2,x,hr,hK⟩:=Agr h;exact fin hK (by simp only[execOp,BN hs rfl hu1,BN hs rfl hu2];exact Lo hr)
 case makeChan t n=>
  simp only at h;cases hu:isU (ev ρ n) with
  | true=>rw[hu] at h;exact h.elim
  | false=>
   rw[hu] at h;obtain⟨w',hr,hK⟩:=h;exact fin hK (by simp only[execOp,BN hs rfl hu];exact Lo hr)
 case convert s d x=>
  obtain⟨hu,v,hK,hr⟩:=W8 h;exact fin hK (by simp only[execOp,BN hs rfl hu];exact Lo hr)
 case call c=>
  obtain⟨callee,args,ats⟩:=c;cases callee <;> try exact h.elim
  case value f=>
   simp only at h;obtain⟨hu,hv,g,gargs,hr,hC⟩:=YV h;unfold Oper.wp;have he:args.map a.eval=(evL ρ args.toList).toArray:=by
    rw[<- Aez hs _ hv,<- toList_inj];simp
   have:(execOp a.eval ⟨dst,.call ⟨.value f,args,ats⟩,ty,pos,after,guard⟩).run P w = .ok (.enter g gargs) w:=by
    simp only[execOp,resolve,he,BN hs rfl hu];exact hr
   rw[this,Oper.upon_enter];refine hC.mono ?_;rintro e w' ⟨v,rfl,hK⟩;exact hn _ _ _ (Le.refl _) hK
  case invoke r name=>
   simp only at h;obtain⟨hu,hv,g,gargs,hr,hC⟩:=Agc h;unfold Oper.wp;have he:args.map a.eval=(evL ρ args.toList).toArray:=by
    rw[<- Aez hs _ hv,<- toList_inj];simp
   have:(execOp a.eval ⟨dst,.call ⟨.invoke r name,args,ats⟩,ty,pos,after,guard⟩).run P w = .ok (.enter g gargs) w:=by
    simp only[execOp,resolve,he,BN hs rfl hu,run_bind,run_pure,andThen_ok,invoke];have h0:(#[ev ρ r]++(evL ρ args.toList).toArray)[0]? = some (ev ρ r):=by simp
    have h1:(#[ev ρ r]++(evL ρ args.toList).toArray).extract 1 (#[ev ρ r]++(evL ρ args.toList).toArray).size=(evL ρ args.toList).toArray:=by
     rw[<- toList_inj];simp
    simp only[h0,h1];exact hr
   rw[this,Oper.upon_enter];refine hC.mono ?_;rintro e w' ⟨v,rfl,hK⟩;exact hn _ _ _ (Le.refl _) hK
  case builtin b=>
   cases b <;> try exact h.elim
   case clear=>
    simp only at h;cases hal:args.toList with
    | nil=>simp only[hal] at h;exact h.elim
    | cons x l1=>
    cases l1 with
    | cons _ _=>simp only[hal] at h;exact h.elim
    | nil=>
    cases htl:ats.toList with
    | nil=>simp only[hal,htl] at h;exact h.elim
    | cons t1 l1=>
    cases l1 with
    | cons _ _=>simp only[hal,htl] at h;exact h.elim
    | nil=>
    simp only[hal,htl] at h;obtain⟨hu,w',hK,hr⟩:=Aep (ty:=ty) h;have he:args.map a.eval=#[ev ρ x]:=by
     rw[<- toList_inj];simp[hal,BN hs rfl hu]
    have hat:ats=#[t1]:=by rw[<- toList_inj];exact htl
    exact fin hK (by simp only[execOp,resolve,he,hat,run_bind,run_pure,andThen_ok,invoke,builtin,hr])
   simp only at h;cases hal:args.toList with
   | nil=>simp only[hal] at h;exact h.elim
   | cons s l1=>
   cases l1 with
   | nil=>simp only[hal] at h;exact h.elim
   | cons x l2=>
   cases l2 with
   | cons _ _=>simp only[hal] at h;exact h.elim
   | nil=>
   cases htl:ats.toList with
   | nil=>simp only[hal,htl] at h;exact h.elim
   | cons t1 l1=>
   cases l1 with
   | nil=>simp only[hal,htl] at h;exact h.elim
   | cons t2 l2=>
   cases l2 with
   | cons _ _=>simp only[hal,htl] at h;exact h.elim
   | nil=>
   simp only[hal,htl] at h;obtain⟨hu,hv,v,w',hK,hr⟩:=TB (ty:=ty) h;have he:args.map a.eval=#[ev ρ s,ev ρ x]:=by
    rw[<- toList_inj];simp[hal,BN hs rfl hu,BN hs rfl hv]
   have hat:ats=#[t1,t2]:=by rw[<- toList_inj];exact htl
   exact fin hK (by simp only[execOp,resolve,he,hat,run_bind,run_pure,andThen_ok,invoke,builtin,hr])
end
end Go.Hb
namespace Go.Hb
section
variable{P:Program}{ρ:Dy}{a:Act}{w:World}
theorem JX.know{e:Dy}{a:Act}(h:JX e a){d:Nat}{v:Value}(b:a.tmps.getD d undef=v):JX (pt e d v) a:=by
 refine⟨h.defers,by rw[VE];exact h.size,λt=>?_⟩;rw[A60];split
 ·rename_i c;rw[c.1,b];exact Le.refl _
 ·exact h.get t
theorem T4{all:List Oper}{j d:Nat}(c:Ro all j=some d)(e:d<a.tmps.size) :
  yielded all.toArray a.tmps j=match a.tmps.getD d undef with
   | .bool b=>some b
   | _=>none:=by
 unfold Ro at c;unfold yielded;simp only[getElem?_toArray];split at c
 ·rename_i o f;simp[f,c,e];cases a.tmps[d] <;> rfl
 ·cases c
theorem Bcd{c:Dy}{t:Nat}{v:Value}(h:gt c t=v)(a:isU v=false):t<c.length:=by
 induction c generalizing t with
 | nil=>subst h;simp[gt,isU,unk] at a
 | cons x c b=>cases t with
  | zero=>simp
  | succ t=>have:=b (t:=t) (by simpa[gt] using h);simp;omega
theorem IE{all:List Oper}{o:Oper}{i q:EW}(h:DM all ρ o i q w)(hs:JX ρ a) :
  (Region.wanted o (yielded all.toArray a.tmps)=true/\∃l,JX l a/\i l w)\/(Region.wanted o (yielded all.toArray a.tmps)=false/\∃l,JX l a/\q l w):=by
 unfold DM at h;unfold Region.wanted;cases r:o.guard with
 | none=>simp only[r] at h;exact .inl ⟨rfl,ρ,hs,h⟩
 | some g=>
  obtain⟨j,m⟩:=g;simp only[r] at h;cases e:Ro all j with
  | none=>
   simp only[e] at h;refine .inr ⟨?_,ρ,hs,h⟩;have:yielded all.toArray a.tmps j=none:=by
    unfold Ro at e;unfold yielded;simp only[getElem?_toArray];split at e
    ·rename_i o n;simp[n,e]
    ·rename_i n;simp[n]
   simp[this]
  | some d=>
   simp only[e] at h;have key:∀v,gt ρ d=v->isU v=false->a.tmps.getD d undef=v/\d<a.tmps.size:=by
    intro v c s;have:=(hs.get d).eq (by rw[c];exact s)
    exact⟨this.trans c,lt_of_lt_of_le (Bcd c s) hs.size⟩
   cases c:gt ρ d with
   | complex k x y=>simp only[c] at h;exact h.elim
   | bool b=>
    obtain⟨f,p⟩:=key _ c rfl;simp only[T4 e p,f];simp only[c] at h;cases b <;> cases m <;> simp only[Aj,cond_true,cond_false] at h
    ·exact .inl ⟨rfl,_,hs.know f,h⟩
    ·exact .inr ⟨rfl,_,hs.know f,h⟩
    ·exact .inr ⟨rfl,_,hs.know f,h⟩
    ·exact .inl ⟨rfl,_,hs.know f,h⟩
   | _=>
    obtain⟨f,p⟩:=key _ c rfl;simp only[T4 e p,f];simp only[c] at h;exact .inr ⟨rfl,_,hs,h⟩
theorem Lf{all:List Oper}{Q:Exit->Act->World->Prop}{K:EW}(c:∀j a w,K j w->JX j a->Q .normal a w) :
  ∀(l:List Oper)(j:Dy)(a:Act)(w:World),IN P all l j K w->JX j a->wpList P all.toArray Q l a w
 | [],j,a,w,h,hs=>c _ _ _ h hs
 | o::l,j,a,w,h,hs=>by
  simp only[IN] at h;simp only[wpList];rcases IE h hs with⟨d,f,b,h⟩|⟨d,f,b,h⟩
  ·rw[if_pos d];exact .inl (VV h b λv i w' e g=>Lf c l _ _ _ g<|b.put o.dst e)
  ·rw[if_neg<|by simp[d]];exact Lf c l _ _ _ h (b.put o.dst<|Le.refl _)
theorem S1{i:Nat}:∀{l:List Nat},Im i l=true↔i∈l
 | []=>by simp[Im]
 | j::l=>by
  simp only[Im,or_eq_true,mem_cons,S1 (l:=l)];constructor
  ·rintro(h|h)
   ·exact .inl (eq_of_beq_eq_true h)
   ·exact .inr h
  ·rintro(h|h)
   ·subst h;exact .inl (beq_refl _)
   ·exact .inr h
theorem Sy{k:Nat}:∀{l:List Edge},k∈Gh l↔∃e∈l,Region.binds .any e=true/\e.on=k
 | []=>by simp[Gh]
 | e::l=>by
  have a:=Sy (k:=k) (l:=l);simp only[Gh];split <;> rename_i b
  ·simp only[a,mem_cons,exists_eq_or_imp,Region.binds,b];simp
  ·simp only[a,mem_cons,exists_eq_or_imp,Region.binds,b];simp
  ·have c:Region.binds .any e=true:=by
    unfold Region.binds;split <;> first|rfl|(rename_i h;simp_all)
   simp only[mem_cons,a,exists_eq_or_imp,c,true_and];constructor
   ·rintro(h|h)
    ·exact .inl h.symm
    ·exact .inr h
   ·rintro(h|h)
    ·exact .inl h.symm
    ·exact .inr h
variable{all:List Oper}
theorem GP{i k:Nat}{o:Oper}(a:all[i]? = some o):k∈Jd all i↔∃e∈o.after,Region.binds .any e=true/\e.on=k:=by
 simp only[Jd,a,Sy,Array.mem_toList_iff]
structure YN(all:List Oper)(done:List Nat)(listed:Array Bool):Prop where
 size:listed.size=all.length
 mem:∀j,j<all.length->listed.getD j false=Im j done
theorem YN.getT{b:List Nat}{a:Array Bool}(h:YN all b a){j:Nat}(c:j<all.length):a.getD j true=Im j b:=by
 rw[<- h.mem j c];have:j<a.size:=by rw[h.size];exact c
 simp[this]
theorem Y0{b:List Nat}{a:Array Bool}(h:YN all b a)(p:∀i∈b,i<all.length){i:Nat}(hi:i<all.length) :
  rdy all b i=true↔i∈Region.ready .any all.toArray a:=by
 rw[mem_ready];obtain⟨o,l⟩:∃o,all[i]? = some o:=⟨all[i],by simp[hi]⟩;have c:all.toArray[i]? = some o:=by simpa using l
 simp only[rdy,and_eq_true,Bool.not_eq_true',all_eq_true];rw[h.getT hi];refine and_congr Iff.rfl ?_;constructor
 ·intro q;refine⟨o,c,λe m n=>?_⟩;have d:=q e.on ((GP l).2 ⟨e,m,n,rfl⟩);have j:=p _ (S1.1 d);rw[h.mem _ j];exact d
 ·rintro⟨r,f,g⟩ k s;have:r=o:=Option.some.inj (f.symm.trans c);subst this;obtain⟨e,m,n,rfl⟩:=(GP l).1 s;have d:=g e m n
  by_cases j:e.on<all.length
  ·rw[<- h.mem _ j];exact d
  ·have:¬e.on<a.size:=by rw[h.size];exact j
   simp[this] at d
def Aee(all:List Oper)(L:Nat->Bool):Prop:=∀j,L j=true->∀k∈Jd all j,L k=true
theorem OI{a:List Nat}{k:Nat}:∀{b:List Nat},(IL a b).testBit k=true->∃e∈b,k=e\/(a.getD e 0).testBit k=true
 | [],h=>by simp[IL] at h
 | e::b,h=>by
  simp only[IL,Nat.testBit_or,or_eq_true,Nat.testBit_two_pow,decide_eq_true_eq] at h;rcases h with(h|h)|h
  ·exact⟨e,.head _,.inl h.symm⟩
  ·exact⟨e,.head _,.inr h⟩
  ·obtain⟨d,c,f⟩:=OI h;exact⟨d,.tail _ c,f⟩
theorem S3:∀(l:List Oper)(acc:List Nat),all.drop acc.length=l ->
  (∀j k,(acc.getD j 0).testBit k=true->∀L,Aee all L->(∀e∈Jd all j,L e=true)->L k=true) ->
  ∀j k,((Gl l acc).getD j 0).testBit k=true->∀L,Aee all L->(∀e∈Jd all j,L e=true)->L k=true
 | [],acc,_,hacc=>hacc
 | o::l,acc,hl,hacc=>by
  simp only[Gl];have ho:all[acc.length]? = some o:=by
   have:(all.drop acc.length)[0]? = some o:=by rw[hl];rfl
   simpa using this
  refine S3 l _ ?_ ?_
  ·have:all.drop (acc.length+1)=(all.drop acc.length).drop 1:=by rw[drop_drop]
   simp[this,hl]
  ·intro j k hb L hL hj
   by_cases hjl:j<acc.length
   ·have:(acc++[IL acc (Gh o.after.toList)]).getD j 0=acc.getD j 0:=by simp[List.getElem?_append_left hjl]
    rw[this] at hb;exact hacc j k hb L hL hj
   ·by_cases hje:j=acc.length
    ·subst hje;have:(acc++[IL acc (Gh o.after.toList)]).getD acc.length 0=IL acc (Gh o.after.toList):=by simp
     rw[this] at hb;obtain⟨e,he,h⟩:=OI hb;have hw:e∈Jd all acc.length:=by simp only[Jd,ho];exact he
     rcases h with rfl|h
     ·exact hj _ hw
     ·exact hacc e k h L hL (hL e (hj e hw))
    ·have:(acc++[IL acc (Gh o.after.toList)]).getD j 0=0:=by
      have:acc.length+1<=j:=by omega
      simp[List.getElem?_eq_none,this]
     rw[this] at hb;simp at hb
def Lv(P:Program)(ops:Array Oper)(Q:Exit->Act->World->Prop)(S:World->Prop)(c:Nat->Bool):Nat->Array Bool->Act->World->Prop
 | 0,b,a,w=>Region.ready .any ops b=[]/\Q .normal a w
 | d+1,b,a,w=>
  (Region.ready .any ops b=[]->Q .normal a w) /\
  ∀i∈Region.ready .any ops b,wpOp P ops Q i (λa' w'=>(c i=true->S w->S w')/\Lv P ops Q S c d (b.setIfInBounds i true) a' w') a w
theorem T3{ops:Array Oper}{Q:Exit->Act->World->Prop}{S:World->Prop}{d:Nat->Bool}:∀(b:Nat)(c:Array Bool)(a:Act)(w:World),Lv P ops Q S d b c a w->wpAny P .any ops Q b c a w
 | 0,_,_,_,h=>h
 | b+1,_,_,_,h=>⟨h.1,λi hi=>wpOp_mono (λa' w' e=>T3 b _ a' w' e.2)<|h.2 i hi⟩
theorem YJ{ops:Array Oper}{Q:Exit->Act->World->Prop}{S:World->Prop}{l:Nat->Bool}{c:Bool}{i:Nat}{y:Oper}{v:Value}(hi:ops[i]? = some y)
  (p:∀(j:Nat)(o:Oper) cs b,ops[j]? = some o->o.op ≠ .select cs b) (U:∀c a w,¬Q (.panic c) a w) (G:Array Bool->Prop)
  (V:∀d j,G d->j∈Region.ready .any ops d->G (d.setIfInBounds j true))
  (s:∀d j,G d->j∈Region.ready .any ops d->d.getD i true=false->j≠i->c=true->l j=true) :
  ∀(g:Nat)(d:Array Bool)(a:Act)(w:World),G d ->
   (∀j t,ops[j]? = some t->j≠i->d.getD j true=false->(∀e∈t.after,Region.binds .any e=true->e.on≠i)->y.apart ops t=true) ->
   i∈Region.ready .any ops d->YieldsIf P ops (λw=>c=true->S w) y v a->(c=true->S w) ->
   Lv P ops Q S l g (d.setIfInBounds i true) (a.put y.dst v) w->Lv P ops Q S l (g+1) d a w:=by
 intro g
 induction g with
 | zero=>
  intro d a w K _ q F I H;refine⟨λh=>(by rw[h] at q;cases q),λj z=>?_⟩
  by_cases f:j=i
  ·subst f;exact F.wpOp hi I ⟨λ_ h=>h,H⟩
  ·have:=ready_mono z f;rw[H.1] at this;cases this
 | succ g W=>
  intro d a w K m q F I H;refine⟨λh=>(by rw[h] at q;cases q),λj z=>?_⟩
  by_cases f:j=i
  ·subst f;exact F.wpOp hi I ⟨λ_ h=>h,H⟩
  ·have u:=H.2 j (ready_mono z f);have L:=s d j K z (mem_ready.1 q).1 f;obtain⟨r,t,x,A⟩:=mem_ready.1 z;have B:∀e∈t.after,Region.binds .any e=true->e.on≠i:=λe X Y M=>by
    have u:=A e X Y;have T:=(mem_ready.1 q).1;rw[M] at u;rcases Nat.lt_or_ge i d.size with N|N
    ·simp[N] at T u;rw[T] at u;cases u
    ·simp[Array.getElem?_eq_none N] at u
   have Z:=wpOp_putIf x (m j t x f r B) (λcs b=>p i y cs b hi) (λcs b=>p j t cs b x) (λc a w hq=>(U c _ w hq).elim) F u;have n:∀k C,ops[k]? = some C->k≠i->(d.setIfInBounds j true).getD k true=false ->
     (∀e∈C.after,Region.binds .any e=true->e.on≠i)->y.apart ops C=true:=λk C hk O D R=>by
    refine m k C hk O ?_ R
    by_cases E:j=k
    ·subst E;exact r
    ·rw[getD_set_ne true E] at D;exact D
   refine wpOp_mono (λa' w' J=>⟨J.2.1,W (d.setIfInBounds j true) a' w' (V _ _ K z) n (ready_mono q<|Ne.symm f) J.1 (λhc=>J.2.1 (L hc)<|I hc) ?_⟩) Z;rw[Array.setIfInBounds_comm _ _ f];exact J.2.2
theorem YN.set{b:List Nat}{a:Array Bool}(h:YN all b a){i:Nat}(hi:i<all.length):YN all (i::b) (a.setIfInBounds i true):=by
 refine⟨by simp[h.size],λj d=>?_⟩
 by_cases c:i=j
 ·subst c;have:i<a.size:=by rw[h.size];exact hi
  simp[this,Im,beq_refl]
 ·rw[getD_set_ne false c,h.mem j d];have:beq j i=false:=by
   cases e:beq j i with
   | false=>rfl
   | true=>exact absurd (eq_of_beq_eq_true e).symm c
  simp[Im,this]
theorem So{S:World->Prop}:∀(ks:List CK)(b o:Nat)(K:List Value->WP),TL S ks b o K w->∃vs,vs.length=ks.length/\K vs w/\∀w',S w'->∀(j:Nat) v,vs[j]? = some v->w'.cell? ⟨b,o+j,none⟩=some v
 | [],_,_,_,h=>⟨[],rfl,h,by simp⟩
 | k::ks,b,o,K,h=>by
  simp only[TL] at h;obtain⟨x,d,h⟩:=h;obtain⟨vs,e,f,hc⟩:=So ks b (o+1) _ h;refine⟨_,by simp[e],f,λw' c j v a=>?_⟩;cases j with
  | zero=>simp at a;subst a;exact d w' c
  | succ j=>
   have:=hc w' c j v (by simpa using a)
   rwa [show o+1+j=o+(j+1) by omega] at this
theorem Yf{S:World->Prop}{t:TypeId}{x:Value}{K:VW}(h:GO P S t x K w):∃v,isU x=false/\K v w/\∀w',S w'->(loadAt t x).run P w' = .ok v w':=by
 unfold GO at h;cases x <;> try exact h.elim
 rename_i p;rcases p with _|⟨b,o,_|_⟩ <;> try exact h.elim
 cases q:Ud P 9 t with
 | none=>simp only[q] at h;exact h.elim
 | some ks=>
 simp only[q] at h;cases hc:((P.underlying t).isSome && (P.info? t).isSome && beq (Ex P t) ks.length) with
 | false=>rw[hc] at h;exact h.elim
 | true=>
  rw[hc] at h;simp only[and_eq_true] at hc;obtain⟨⟨f,hi⟩,r⟩:=hc;obtain⟨d,f⟩:=isSome_iff_exists.1 f;have l:Ex P t=ks.length:=eq_of_beq_eq_true r;simp only[cond_true] at h;cases g:G8 P t with
  | true=>
   simp only[g] at h;obtain⟨vs,m,a,n⟩:=So _ _ _ _ h;exact⟨_,rfl,a,λw' c=>by
    simp only[loadAt,sureAddr,run_bind,run_pure,andThen_ok];exact OG f hi g (by rw[l,m]) (n w' c)⟩
  | false=>
   simp only[g] at h;rcases ks with _|⟨k,_|_⟩ <;> try exact h.elim
   cases i:Dg P t with
   | false=>
    simp only[i] at h;cases j:EO P t with
    | false=>
     simp only[j] at h;obtain⟨x,e,a⟩:=h;exact⟨_,rfl,a,λw' c=>by
      simp only[loadAt,sureAddr,run_bind,run_pure,andThen_ok];exact Eg f g (e w' c)⟩
    | true=>
     simp only[j] at h;rcases h with⟨e,a⟩|⟨p,s,e,a⟩
     ·exact⟨_,rfl,a,λw' c=>by
       simp only[loadAt,sureAddr,run_bind,run_pure,andThen_ok];exact Eg f g (e w' c)⟩
     ·rw[Sz s] at a;exact⟨_,rfl,a,λw' c=>by
       simp only[loadAt,sureAddr,run_bind,run_pure,andThen_ok];exact Eg f g (e w' c)⟩
   | true=>
    simp only[i] at h;rcases h with⟨e,a⟩|⟨u,y,e,a⟩
    all_goals
     exact⟨_,rfl,a,λw' c=>by
      simp only[loadAt,sureAddr,run_bind,run_pure,andThen_ok];exact Eg f g (e w' c)⟩
theorem Aod{S:World->Prop}{o:Oper}{K:VW}(h:stI P S ρ o.op K w)(hs:JX ρ a) :
  ∃v b,Le v b/\K v w/\∀w',((match o.op with|.load _ _=>true|_=>false)=true->S w')->(execOp a.eval o).run P w' = .ok (.value b) w':=by
 unfold stI at h;cases d:Fz P ρ o.op with
 | some F=>
  simp only[d] at h;obtain⟨v,b,e,f,c⟩:=OQ d h hs;exact⟨v,b,e,f,λw' _=>c w'⟩
 | none=>
  simp only[d] at h;obtain⟨j,op,ty,k,g,i⟩:=o;cases op <;> try exact h.elim
  case load t x=>
   have h:GO P S t (ev ρ x) K w:=by
    have h:(cond (IF x) Cv<|GO P S t (ev ρ x) K) w:=h;cases c:IF x with
    | true=>rw[c] at h;exact h.elim
    | false=>rw[c] at h;exact h
   obtain⟨v,l,f,m⟩:=Yf h;exact⟨v,v,Le.refl _,f,λw' n=>by simp only[execOp,BN hs rfl l];exact Lo (m w'<|n rfl)⟩
theorem Aga{c:List Nat}{a:Array Bool}(h:YN all c a){i:Nat}{o:Oper}(p:Au4 all c i o=true)(j:Nat)(k:Oper)
  (q:all.toArray[j]? = some k) (l:j≠i) (f:a.getD j true=false) (m:∀e∈k.after,Region.binds .any e=true->e.on≠i):o.apart all.toArray k=true:=by
 have d:all[j]? = some k:=by simpa using q
 have g:j<all.length:=(List.getElem?_eq_some_iff.1 d).1;have b:=all_eq_true.1 p j (mem_range.2 g);simp only[d,or_eq_true] at b;rcases b with((b|b)|b)|b
 ·exact absurd (eq_of_beq_eq_true b) l
 ·rw[h.getT g,b] at f;cases f
 ·obtain⟨e,r,s,n⟩:=(GP d).1 (S1.1 b);exact absurd n (m e r s)
 ·exact b
structure TU(all:List Oper)(listed:Array Bool):Prop where
 size:listed.size=all.length
 closed:Aee all λj=>listed.getD j false
theorem TU.set{listed:Array Bool}(h:TU all listed){j:Nat}(hj:j∈Region.ready .any all.toArray listed):TU all (listed.setIfInBounds j true):=by
 obtain⟨hjun,oj,hoj,hall⟩:=mem_ready.1 hj;have hoj':all[j]? = some oj:=by simpa using hoj
 have hlt:j<all.length:=(List.getElem?_eq_some_iff.1 hoj').1;refine⟨by simp[h.size],λi hi k hk=>?_⟩
 by_cases hij:j=i
 ·subst hij;obtain⟨e,he,hb,rfl⟩:=(GP hoj').1 hk;exact getD_set_true (hall e he hb)
 ·simp only[getD_set_ne false hij] at hi;exact getD_set_true (h.closed i hi k hk)
theorem S7{a:List Nat}{i:Nat}:∀{A:List Nat},ON all a A=some i->i∈A/\rdy all a i=true
 | [],h=>by cases h
 | j::A,h=>by
  simp only[ON] at h;split at h
  ·rename_i b;cases h;exact⟨.head _,b⟩
  ·have:=S7 h;exact⟨.tail _ this.1,this.2⟩
theorem TX:∀{l:List WP}{w:World},Gn l w->∀p∈l,p w
 | [],_,h,_,_=>h.elim
 | [q],_,h,p,a=>by
  cases a with
  | head=>exact h
  | tail _ b=>cases b
 | q::c::l,_,h,p,a=>by
  cases a with
  | head=>exact h.1
  | tail _ b=>exact TX (l:=c::l) h.2 p b
theorem Jw{Q:Exit->Act->World->Prop}{K:EW}{S:World->Prop}{A:List Nat}(hn:∀ρ a w,K ρ w->JX ρ a->Q .normal a w)(hQ:∀c a w,¬Q (.panic c) a w)
  (hsel:∀(j:Nat)(o:Oper) cs b,all.toArray[j]? = some o->o.op ≠ .select cs b) :
  ∀(n:Nat)(done:List Nat)(listed:Array Bool)(ρ:Dy)(a:Act)(w:World),YN all done listed->TU all listed->(∀i∈done,i<all.length) ->
   (∀i∈DU all A,i<all.length->Im i done=false->S w)->JX ρ a->BQ P all S A (DU all A) (Gl all []) n done ρ K w ->
   Lv P all.toArray Q S (Ds (DU all A) (Gl all [])) n listed a w
 | 0,done,listed,ρ,a,w,hR,hG,hd,hS,hs,h=>by
  simp only[BQ] at h;cases hall:(range all.length).all (Im · done) with
  | false=>rw[hall] at h;exact h.elim
  | true=>
   rw[hall] at h;refine⟨?_,hn _ _ _ h hs⟩;cases hr:Region.ready .any all.toArray listed with
   | nil=>rfl
   | cons i l=>
    exfalso;have hi:i∈Region.ready .any all.toArray listed:=by rw[hr];exact .head _
    obtain⟨h0,o,ho,_⟩:=mem_ready.1 hi;have hlt:i<all.length:=by have:=(Array.getElem?_eq_some_iff.1 ho).1;simpa using this
    have:=all_eq_true.1 hall i (mem_range.2 hlt);rw[hR.getT hlt,this] at h0;cases h0
 | n+1,done,listed,ρ,a,w,hR,hG,hd,hS,hs,h=>by
  simp only[BQ] at h;have hneed:∀(L:Array Bool)(j k:Nat),TU all L->j∈Region.ready .any all.toArray L->k∈DU all A->L.getD k false=false->Ds (DU all A) (Gl all []) j=true:=by
   intro L j k hL hj hk hkL;simp only[Ds,List.any_eq_true];refine⟨k,hk,?_⟩;cases hb:((Gl all []).getD j 0).testBit k with
   | false=>rfl
   | true=>
    exfalso;obtain⟨_,oj,hoj,hall⟩:=mem_ready.1 hj;have hoj':all[j]? = some oj:=by simpa using hoj
    have:=S3 (all:=all) all [] (by simp) (by simp) j k hb (λj=>L.getD j false) hL.closed (λe he=>by
     obtain⟨e',he',hb',rfl⟩:=(GP hoj').1 he;exact hall e' he' hb')
    rw[hkL] at this;cases this
  cases hnx:ON all done A with
  | none=>
   simp only[hnx] at h;have hall:=TX h;have hready:∀i∈Region.ready .any all.toArray listed,i<all.length/\rdy all done i=true:=by
    intro i hi;have hlt:i<all.length:=by
     obtain⟨_,oj,hoj,_⟩:=mem_ready.1 hi;have:=(Array.getElem?_eq_some_iff.1 hoj).1;simpa using this
    exact⟨hlt,(Y0 hR hd hlt).2 hi⟩
   have hne:Region.ready .any all.toArray listed≠[]:=by
    intro h0;cases hrl:Lm all done with
    | nil=>rw[hrl] at h;exact h.elim
    | cons i l=>
     have hi:i∈Lm all done:=by rw[hrl];exact .head _
     simp only[Lm,mem_filter,mem_range] at hi;have:=(Y0 hR hd hi.1).1 hi.2;rw[h0] at this;cases this
   refine⟨λh0=>absurd h0 hne,λi hir=>?_⟩;obtain⟨hlt,hrd⟩:=hready i hir;have hp:=hall _ (mem_map.2 ⟨i,mem_filter.2 ⟨mem_range.2 hlt,hrd⟩,rfl⟩);obtain⟨o,ho⟩:∃o,all[i]? = some o:=⟨all[i],by simp[hlt]⟩;have hoA:all.toArray[i]? = some o:=by simpa using ho
   simp only[ho] at hp;have hd':∀k∈i::done,k<all.length:=by
    intro k hk;cases hk with
    | head=>exact hlt
    | tail _ h'=>exact hd k h'
   have cont:∀ρ' a' w',JX ρ' a'->Al (Ds (DU all A) (Gl all []) i) S (BQ P all S A (DU all A) (Gl all []) n (i::done) ρ' K) w' ->
     (Ds (DU all A) (Gl all []) i=true->S w->S w')/\Lv P all.toArray Q S (Ds (DU all A) (Gl all [])) n (listed.setIfInBounds i true) a' w':=by
    intro ρ' a' w' hs' hk;have hSw:Ds (DU all A) (Gl all []) i=true->S w':=λhnd=>by rw[hnd] at hk;exact hk.1
    refine⟨λh1 _=>hSw h1,Jw hn hQ hsel n (i::done) _ ρ' a' w' (hR.set hlt) (hG.set hir) hd' (λk hkA hkl hkd=>?_) hs' ?_⟩
    ·apply hSw;have hkd':Im k done=false:=by
      simp only[Im,or_eq_false_iff] at hkd;exact hkd.2
     exact hneed listed i k hG hir hkA (by rw[hR.mem k hkl];exact hkd')
    ·cases hnd:Ds (DU all A) (Gl all []) i with
     | true=>rw[hnd] at hk;exact hk.2
     | false=>rw[hnd] at hk;exact hk
   unfold wpOp;simp only[hoA];rcases IE hp hs with⟨hw,ρ',hs',h⟩|⟨hw,ρ',hs',h⟩
   ·rw[if_pos hw];exact .inl (VV h hs' λv v' w' hle hK=>cont _ _ _ (hs'.put o.dst hle) hK)
   ·rw[if_neg (by simp[hw])];exact cont _ _ _ (hs'.put o.dst (Le.refl _)) h
  | some i=>
   simp only[hnx] at h;obtain⟨hiA,hrd⟩:=S7 hnx;cases ho:all[i]? with
   | none=>simp only[ho] at h;exact h.elim
   | some o=>
   simp only[ho] at h;have hlt:i<all.length:=(List.getElem?_eq_some_iff.1 ho).1;have hoA:all.toArray[i]? = some o:=by simpa using ho
   have hd':∀k∈i::done,k<all.length:=by
    intro k hk;cases hk with
    | head=>exact hlt
    | tail _ h'=>exact hd k h'
   cases hfr:Au4 all done i o with
   | false=>rw[hfr] at h;exact h.elim
   | true=>
    rw[hfr] at h;simp only[cond_true] at h;have hir:=(Y0 hR hd hlt).1 hrd;have hin:Im i done=false:=by
     simp only[rdy,and_eq_true,Bool.not_eq_true'] at hrd;exact hrd.1
    have hSw:Amq all i=true->S w:=λhld=>hS i (mem_filter.2 ⟨hiA,hld⟩) hlt hin;have fin:∀v' ρ',YieldsIf P all.toArray (λw=>Amq all i=true->S w) o v' a->JX ρ' (a.put o.dst v')->BQ P all S A (DU all A) (Gl all []) n (i::done) ρ' K w ->
      Lv P all.toArray Q S (Ds (DU all A) (Gl all [])) (n+1) listed a w:=by
     intro v' ρ' hy hs' hk;refine YJ (c:=Amq all i) hoA hsel hQ (TU all) (λL j hL hj=>hL.set hj) (λL j hL hj hun hji hld=>?_) n listed a w hG (Aga hR hfr) hir hy hSw ?_
     ·refine hneed L j i hL hj (mem_filter.2 ⟨hiA,hld⟩) ?_;have:i<L.size:=by rw[hL.size];exact hlt
      simp[this] at hun ⊢;exact hun
     ·refine Jw hn hQ hsel n (i::done) _ ρ' _ w (hR.set hlt) (hG.set hir) hd' (λk hkA hkl hkd=>hS k hkA hkl ?_) hs' hk;simp only[Im,or_eq_false_iff] at hkd;exact hkd.2
    rcases IE h hs with⟨hw,ρ',hs',h⟩|⟨hw,ρ',hs',h⟩
    ·obtain⟨v,v',hle,hK,hr⟩:=Aod h hs';have hld:Amq all i=(match o.op with|.load _ _=>true|_=>false):=by simp only[Amq,ho];all_goals (cases o.op <;> rfl)
     exact fin v' _ (.inl ⟨hw,λw' hSc=>by rw[hld] at hSc;exact hr w' hSc⟩) (hs'.put o.dst hle) hK
    ·exact fin undef _ (.inr ⟨hw,rfl⟩) (hs'.put o.dst (Le.refl _)) h
end
end Go.Hb
namespace Go.Hb
theorem JX.clean{e:Dy}{a:Act}(h:JX e a)(kp:KP)(n:Nat):JX (cleanAt kp n e) a:=by
 unfold cleanAt;split
 case h_2=>exact h
 rename_i ks _;have key:∀(e:Dy)(ks:List Nat)(i t:Nat),gt (Hb.clean ks i e) t=unk\/gt (Hb.clean ks i e) t=gt e t:=by
  intro e
  induction e with
  | nil=>intro ks i t;simp[Hb.clean]
  | cons v e b=>
   intro ks i t;cases ks with
   | nil=>cases t with
    | zero=>exact .inl rfl
    | succ t=>simpa[Hb.clean,gt] using b [] (i+1) t
   | cons k ks=>
    simp only[Hb.clean];split <;> cases t <;> first|exact .inr rfl|exact .inl rfl|(simpa[gt] using b _ (i+1) _)
 have c:∀(e:Dy)(ks:List Nat)(i:Nat),(Hb.clean ks i e).length=e.length:=by
  intro e
  induction e with
  | nil=>intro ks i;simp[Hb.clean]
  | cons v e b=>
   intro ks i;cases ks with
   | nil=>simp[Hb.clean,b]
   | cons k ks=>simp only[Hb.clean];split <;> simp[b]
 refine⟨h.defers,by rw[c];exact h.size,λt=>?_⟩;rcases key e ks 0 t with d|d
 ·exact .inl d
 ·rw[d];exact h.get t
section
variable{P:Program}
theorem YY(hm:P.follows .mixedOrders=true){kp:KP}:∀(c:Code)(n:EW)(x:Nat->EW)(r:EW)(ρ:Dy)(a:Act)(w:World)(Q:Exit->Act->World->Prop),
  AD P kp AU c n x r ρ w->JX ρ a->(∀ρ a w,n ρ w->JX ρ a->Q .normal a w)->(∀i ρ a w,x i ρ w->JX ρ a->Q (.exit i) a w)->(∀ρ a w,r ρ w->JX ρ a->Q .ret a w) ->
  (∀c a w,¬Q (.panic c) a w)->c.wp P Q a w:=by
 intro c
 induction c with
 | skip=>intro n x r ρ a w Q h hs hn hx hr hP;exact wp_skip (hn _ _ _ h hs)
 | region id ops d=>
  intro n x r ρ a w Q h hs hn hx hr hP;cases d with
  | false=>
   simp only[AD] at h;exact wp_region_list (by have:=Lf hn _ _ _ _ h hs;simpa using this)
  | true=>
   simp only[AD] at h;cases hsel:ops.toList.all Av9 with
   | false=>rw[hsel] at h;exact h.elim
   | true=>
    rw[hsel] at h;obtain⟨S,hS,h⟩:=h;have hops:ops.toList.toArray=ops:=by simp
    have hsel':∀(j:Nat)(o:Oper) cs b,ops.toList.toArray[j]? = some o->o.op ≠ .select cs b:=by
     intro j o cs b ho heq;rw[hops] at ho;have:=all_eq_true.1 hsel o (Array.mem_toList_iff.2 (Array.mem_of_getElem? ho));simp[Av9,heq] at this
    refine wp_region_any hm ?_;have:=Jw (Q:=Q) hn hP hsel' ops.toList.length [] (Array.replicate ops.size false) ρ a _ ⟨by simp,λj hj=>by
      have hjl:j<ops.size:=by simpa using hj
      simp[Im,hjl]⟩ ⟨by simp,λj hj=>by
     by_cases hjl:j<ops.size <;> simp[hjl] at hj⟩ (by simp) (λ_ _ _ _=>hS) hs h
    rw[hops,Array.length_toList] at this;exact T3 _ _ _ _ this
 | seq c d ihc ihd=>
  intro n x r ρ a w Q h hs hn hx hr hP;simp only[AD] at h;refine wp_seq (ihc _ _ _ _ _ _ _ h hs (λρ' a' w' h' hs'=>?_) (λi ρ a w h hs=>hx i ρ a w h hs) (λρ a w h hs=>hr ρ a w h hs) hP);cases hl:Ih kp.live (Pj d) with
  | none=>simp only[hl] at h';exact ihd _ _ _ _ _ _ _ h' hs' hn hx hr hP
  | some ks=>
   simp only[hl,AU] at h';have hc:=hs'.clean kp (Pj d);simp only[cleanAt,hl] at hc;exact ihd _ _ _ _ _ _ _ h' hc hn hx hr hP
 | cond c x y ihx ihy=>
  intro n e r ρ a w Q h hs hn hx hr hP;simp only[AD] at h;cases hv:ev ρ c with
  | bool t=>
   simp only[hv] at h;have hc:=BN hs hv rfl;cases t with
   | true=>exact wp_cond_true hc (ihx _ _ _ _ _ _ _ h hs hn hx hr hP)
   | false=>exact wp_cond_false hc (ihy _ _ _ _ _ _ _ h hs hn hx hr hP)
  | _=>simp only[hv] at h;exact h.elim
 | block id c ih=>
  intro n x r ρ a w Q h hs hn hx hr hP;simp only[AD] at h;refine wp_block (ih _ _ _ _ _ _ _ h hs hn (λi ρ a w h hs=>?_) (λρ a w h hs=>hr ρ a w h hs) hP);show if i=id then Q .normal a w else Q (.exit i) a w
  cases hb:beq i id with
  | true=>
   rw[hb] at h;rw[if_pos (eq_of_beq_eq_true hb)];exact hn _ _ _ h hs
  | false=>
   rw[hb] at h;have:i≠id:=λhe=>by rw[he,beq_refl] at hb;cases hb
   rw[if_neg this];exact hx _ _ _ _ h hs
 | loop c ih=>
  intro n x r ρ a w Q h hs hn hx hr hP;simp only[AD] at h;obtain⟨m,h⟩:=h;refine wp_loop_ghost (λm a w=>∃ρ,JX ρ a/\Hr (λk ρ=>AD P kp AU c k x r ρ) (cleanAt kp (Jh c)) m ρ w) m ⟨_,hs.clean kp _,h⟩ ?_;rintro m a w ⟨ρ,hs,h⟩;cases m with
  | zero=>exact h.elim
  | succ m=>
   simp only[Hr] at h;refine ih _ _ _ _ _ _ _ h hs (λρ' a' w' h' hs'=>?_) (λi ρ a w h hs=>hx i ρ a w h hs) (λρ a w h hs=>hr ρ a w h hs) hP;exact⟨m,Nat.lt_succ_self m,_,hs'.clean kp _,h'⟩
 | rangeFunc=>intro n x r ρ a w Q h;exact h.elim
 | exit id=>intro n x r ρ a w Q h hs hn hx hr hP;exact wp_exit (hx _ _ _ _ h hs)
 | scope c ih=>intro n x r ρ a w Q h;exact h.elim
 | label=>intro n x r ρ a w Q h;exact h.elim
 | goto=>intro n x r ρ a w Q h;exact h.elim
 | ret=>intro n x r ρ a w Q h hs hn hx hr hP;exact wp_ret (hr _ _ _ h hs)
 | refuse=>intro n x r ρ a w Q h;exact h.elim
def Anq(a:Array Value):ResultVar->Sem Value
 | .tmp t=>pure (a.getD t undef)
 | .cell c t=>do loadVar t (<- asAddr (a.getD c undef))
theorem Ag2(b:Func)(a:Array Value):results b a=(do let vs <- b.results.mapM (Anq a);pure (if h:vs.size=1 then vs[0] else .tuple vs)):=rfl
theorem Ln{a:Act}:∀(rs:List ResultVar)(l:Dy)(K:List Value->WP)(w:World),Iq P rs l K w->JX l a ->
  ∃vs,K vs w/\(rs.mapM<|Anq a.tmps).run P w = .ok vs w
 | [],l,K,w,h,hs=>⟨[],h,rfl⟩
 | .tmp t::rs,l,K,w,h,hs=>by
  simp only[Iq] at h;cases d:isU (gt l t) with
  | true=>rw[d] at h;exact h.elim
  | false=>
   rw[d] at h;have h:Iq P rs l (λvs=>K (gt l t::vs)) w:=by cases e:DS (gt l t) with|true=>rw[e] at h;exact h.elim|false=>rw[e] at h;exact h
   obtain⟨vs,f,g⟩:=Ln rs l _ w h hs;refine⟨_,f,?_⟩;have:=(hs.get t).eq d;simp only[mapM_cons,run_bind,Anq,run_pure,andThen_ok,g,this]
 | .cell c t::rs,l,K,w,h,hs=>by
  simp only[Iq] at h;obtain⟨v,d,h,b⟩:=OF h;have h:Iq P rs l (λvs=>K (v::vs)) w:=by cases e:DS v with|true=>rw[e] at h;exact h.elim|false=>rw[e] at h;exact h
  obtain⟨vs,f,g⟩:=Ln rs l _ w h hs;refine⟨_,f,?_⟩;have i:=(hs.get c).eq d;have j:(Anq a.tmps<|.cell c t).run P w = .ok v w:=by
   simp only[Anq];rw[i];unfold loadAt at b;cases k:gt l c <;> rw[k] at b <;> try (simp[sureAddr] at b;done)
   rename_i p;cases p with
   | none=>simp[sureAddr] at b
   | some p=>simpa[sureAddr,asAddr] using b
  simp only[mapM_cons,run_bind,andThen_ok,g,j,run_pure]
theorem SM{a:Act}{c:Func}{f:Dy}{Q:VW}{w:World}(h:P7 P c.results.toList f Q w)(hs:JX f a) :
  ∃v,Q v w/\(results c a.tmps).run P w = .ok v w:=by
 obtain⟨vs,d,e⟩:=Ln _ _ _ _ h hs;have b:(c.results.mapM<|Anq a.tmps).run P w = .ok vs.toArray w:=by
  rw[Array.mapM_eq_mapM_toList,Sem.run_map,e];rfl
 rw[Ag2];rcases vs with _|⟨v,_|⟨u,vs⟩⟩
 ·refine⟨_,d,?_⟩;simp only[run_bind,b,andThen_ok,run_pure];rfl
 ·refine⟨_,d,?_⟩;simp only[run_bind,b,andThen_ok,run_pure];rfl
 ·refine⟨_,d,?_⟩;simp only[run_bind,b,andThen_ok,run_pure];simp
theorem KB:∀n,(Jc n).length=n
 | 0=>rfl
 | n+1=>by simp[Jc,KB n]
theorem Ww:∀n,Jc n=replicate n undef
 | 0=>rfl
 | n+1=>by simp[Jc,Ww n,List.replicate_succ]
theorem Bcc(b:Dy)(t:Nat):gt b t=(b[t]?).getD unk:=by
 induction b generalizing t with
 | nil=>simp[gt]
 | cons v b a=>cases t <;> simp[gt,a]
theorem F9(j:P.follows .mixedOrders=true){kp:KP}{f:FuncId}{b:Func}{args:List Value}{Q:VW}{w:World}(k:P.funcs[f]? = some b)(l:b.body.isSome=true)
  (h:Aw AU P kp b args Q w):Calls P f args.toArray w λe w'=>∃v,e = .returned v/\Q v w':=by
 obtain⟨c,hc⟩:=isSome_iff_exists.1 l;unfold Aw AC at h;simp only[hc] at h;refine calls_of_wp k hc ?_;have hs:JX (args++Jc (b.ntmps-args.length)) { tmps:=args.toArray++Array.replicate (b.ntmps-args.toArray.size) undef,defers:=[] }:=by
  refine⟨rfl,by simp[KB],λt=>?_⟩;rw[Bcc,Ww];have:(args.toArray++Array.replicate (b.ntmps-args.toArray.size) undef)=(args++replicate (b.ntmps-args.length) undef).toArray:=by
   rw[<- toList_inj];simp
  rw[this];simp only[Array.getD_eq_getD_getElem?,getElem?_toArray];cases m:(args++replicate (b.ntmps-args.length) undef)[t]? with
  | none=>exact .inl rfl
  | some v=>exact Le.refl _
 refine YY j c _ _ _ _ _ _ (λe a w=>match e with
  | .panic _=>False
  | e=>bodyPost P b (λe w'=>∃v,e = .returned v/\Q v w') e a w) h hs ?_ ?_ ?_ ?_ |> λh=>Code.wp_mono (λe a w q=>by
   cases e <;> first|exact q|exact q.elim) h
 ·intro n a w h hs;obtain⟨v,d,g⟩:=SM h hs;exact⟨hs.defers,v,g,v,rfl,d⟩
 ·intro i n a w h;exact h.elim
 ·intro n a w h hs;obtain⟨v,d,g⟩:=SM h hs;exact⟨hs.defers,v,g,v,rfl,d⟩
 ·intro c a w h;exact h
end
structure Jm(P:Program)(f:FuncId)(fn:Func):Prop where
 mixed:P.follows .mixedOrders=true
 func:P.funcs[f]? = some fn
 body:fn.body.isSome=true
theorem jw{k:Nat}{c:EW}{e:Dy}{t:WP}{w:World}(a:c e=t)(h:t w):AU k c e w:=by
 show c e w;rw[a];exact h
end Go.Hb
namespace Go.Proofs.YtjipofkjmmpjdaaGreat
open Go.Hb
def SF:KP:=⟨[(11,[0,1,5]),(18,[])],[(6,[0,1,2,3,4,5,6,8])]⟩
noncomputable def Aya(l:List Nat):Code:=W4 l (AC f23)
def Ac6(Q:VW):EW:=Bg Tryz.prog f23 Q
def Bae(a:Jn)(Q:VW):EW:=IV Tryz.prog SF a (Aya [1,1,1]) (Ac6 Q) A8 (Ac6 Q)
def Ac5(a:Jn)(Q:VW):EW:=AD Tryz.prog SF a (Aya [1,1,1]) (Ac6 Q) A8 (Ac6 Q)
def Awl(a:Jn)(Q:VW):WP:=a 18 (Ac5 a Q ) (us 26 [])
def Yv(d:Jn)(Q:VW)(m1:Nat)(b b1:Sl)(e:Int):WP:=Dl Tryz.prog SF d (Aya [1,1,0,1,0,0]) (AA 0 (Bae d Q) A8) (Ac6 Q) m1 ((.slice b.a b.n b.c)::(.slice b1.a b1.n b1.c)::us 3 ((.int .i64 e)::us 20 []))
theorem Agz{a:Jn}{Q:VW}:Ac5 a Q  (us 26 [])=(
 Q (.bool true)):=by kernel_rfl
theorem SG{d:Jn}{Q:VW}{m1:Nat}{c b1:Sl}{b:Int}:Yv d Q  (m1+1) c b1 b=(
 Aj (decide<|b<(c.n:Int)) (
 A5 λS=>
 CU c.a c.n b λe f=>
 TK S .str e (f+(b).toNat*1) λ(g:BA)=>
 CU b1.a b1.n b λh i=>
 ld .str h (i+(b).toNat*1) λ(j:BA)=>
 Al true S<|
 Aj (!sEq g j) (
 Q (.bool false)) (
 Yv d Q  m1 c b1 (IntKind.wrap .i64<|b+(1:Int)))) (
 Awl d Q  )):=by kernel_rfl
theorem A5m{d:Jn}{b b1:Sl}{Q:VW}:Aw d Tryz.prog SF f23 [.slice b.a b.n b.c,.slice b1.a b1.n b1.c] Q=(
 Aj ((b.n:Int) != (b1.n:Int)) (
 Q (.bool false)) (
 Em λm=>Yv d Q  m b b1 (0:Int))):=by kernel_rfl
def Ay:KP:=⟨[],[]⟩
theorem A5n{w:Jn}{h:Int}{i:Bool}{j:BA}{b:Sl}{k:Int}{l:Bool}{m:BA}{d:Sl}{Q:VW}:Aw w Tryz.prog Ay f25 [.agg #[.int .i64 h,.bool i,.string j,.slice b.a b.n b.c],.agg #[.int .i64 k,.bool l,.string m,.slice d.a d.n d.c]] Q=(
 Az [.int .i64 h,.bool i,.string j,.slice b.a b.n b.c] 38 λf=>
 Az [.int .i64 k,.bool l,.string m,.slice d.a d.n d.c] 38 λg=>
 ld (.int .i64) f 0 λ(q:Int)=>
 ld (.int .i64) g 0 λ(r:Int)=>
 Aj (q==r) (
 ld .bool f 1 λ(s:Bool)=>
 ld .bool g 1 λ(t:Bool)=>
 Aj (s==t) (
 ld .str f 2 λ(u:BA)=>
 ld .str g 2 λ(v:BA)=>
 Aj (sEq u v) (
 ld .slc f 3 λ(o:Sl)=>
 ld .slc g 3 λ(e:Sl)=>
 call1 .bool Tryz.prog 23 [.slice o.a o.n o.c,.slice e.a e.n e.c] λ(p:Bool)=>
 Q (.bool p)) (
 Q (.bool false))) (
 Q (.bool false))) (
 Q (.bool false))):=by kernel_rfl
def OS:KP:=⟨[(8,[1,2]),(19,[1,5,6,7,9]),(22,[1,5,6,7,9]),(26,[])],[(10,[0,1,2,3,4,6,7,8,9,10,13,14,15,17,19,20])]⟩
noncomputable def Aou(l:List Nat):Code:=W4 l (AC f8)
def Yx(Q:VW):EW:=Bg Tryz.prog f8 Q
def Awo(a:Jn)(Q:VW):EW:=IV Tryz.prog OS a (Aou [1,1,1,1,1,1]) (Yx Q) A8 (Yx Q)
def Bah(a:Jn)(Q:VW)(m2:Nat):EW:=JG Tryz.prog OS a (Aou [1,1,1,1,1,0,1,0,0]) (AA 0 (Awo a Q) A8) (Yx Q) m2
def Aj9(a:Jn)(Q:VW)(m2:Nat):EW:=AD Tryz.prog OS a (Aou [1,1,1,1,1,0,1,0,0,1]) (Bah a Q m2) (AA 0 (Awo a Q) A8) (Yx Q)
def A69(e:Jn)(Q:VW)(m2:Nat)(b:Sl)(c5:OA)(d:Bool)(f:OA)(g:Int):WP:=e 22 (Aj9 e Q m2) (us 1 ((.slice b.a b.n b.c)::us 3 ((.pointer c5)::(.bool d)::(.pointer f)::us 1 ((.int .i64 g)::us 55 []))))
def Aka(a:Jn)(Q:VW):EW:=AD Tryz.prog OS a (Aou [1,1,1,1,1,1]) (Yx Q) A8 (Yx Q)
def Ada(a:Jn)(Q:VW):WP:=a 26 (Aka a Q ) (us 65 [])
def Akb(e:Jn)(Q:VW)(m2:Nat)(b:Sl)(c5:OA)(d:Bool)(f:OA)(g:Int):WP:=Dl Tryz.prog OS e (Aou [1,1,1,1,1,0,1,0,0]) (AA 0 (Awo e Q) A8) (Yx Q) m2 (us 1 ((.slice b.a b.n b.c)::us 3 ((.pointer c5)::(.bool d)::(.pointer f)::us 1 ((.int .i64 g)::us 55 []))))
def Aj8(a:Jn)(Q:VW):EW:=AD Tryz.prog OS a (Aou [1,1]) (Yx Q) A8 (Yx Q)
def A68(f:Jn)(Q:VW)(e:Sl)(b d:Nat):WP:=f 8 (Aj8 f Q ) (us 1 ((.slice e.a e.n e.c)::(.pointer<|some ⟨b,d,none⟩)::us 62 []))
theorem Ank{R:Jn}{Q:VW}{m2:Nat}{k:Sl}{c5:OA}{F:Bool}{P:OA}{j:Int}:Aj9 R Q m2 (us 1 ((.slice k.a k.n k.c)::us 3 ((.pointer c5)::(.bool F)::(.pointer P)::us 1 ((.int .i64 j)::us 55 []))))=(
 A5 λS=>
 CU k.a k.n j λf g=>
 TK S (.int .i64) f (g+(j).toNat*4) λ(G:Int)=>
 TK S .str f ((g+(j).toNat*4)+1) λ(H:BA)=>
 TK S .str f (((g+(j).toNat*4)+1)+1) λ(I:BA)=>
 TK S (.int .i64) f ((((g+(j).toNat*4)+1)+1)+1) λ(J:Int)=>
 CU k.a k.n j λh i=>
 TK S (.int .i64) h (i+(j).toNat*4) λ(K:Int)=>
 TK S .str h ((i+(j).toNat*4)+1) λ(L:BA)=>
 TK S .str h (((i+(j).toNat*4)+1)+1) λ(M:BA)=>
 TK S (.int .i64) h ((((i+(j).toNat*4)+1)+1)+1) λ(N:Int)=>
 λw=>Calls Tryz.prog 15 #[.pointer c5,.agg #[.int .i64 G,.string H,.string I,.int .i64 J]] w λe w'=>∃l:Int,∃m:Bool,∃o:BA,∃b:Sl,e = .returned (.agg #[.int .i64 l,.bool m,.string o,.slice b.a b.n b.c])/\(
 Al true S<|
 λw=>Calls Tryz.prog 15 #[.pointer P,.agg #[.int .i64 K,.string L,.string M,.int .i64 N]] w λe w'=>∃p:Int,∃q:Bool,∃r:BA,∃d:Sl,e = .returned (.agg #[.int .i64 p,.bool q,.string r,.slice d.a d.n d.c])/\(
 call1 .bool Tryz.prog 25 [.agg #[.int .i64 l,.bool m,.string o,.slice b.a b.n b.c],.agg #[.int .i64 p,.bool q,.string r,.slice d.a d.n d.c]] λ(O:Bool)=>
 Aj (!O) (
 Q (.bool false)) (
 λw=>Calls Tryz.prog 26 #[.pointer c5] w λe w'=>∃s:Int,∃t:Int,∃u:Int,∃v:Int,∃x:Int,∃y:Int,e = .returned (.agg #[.int .i64 s,.int .i64 t,.int .i64 u,.int .i64 v,.int .i64 x,.int .i64 y])/\(
 λw=>Calls Tryz.prog 26 #[.pointer P] w λe w'=>∃z:Int,∃A:Int,∃B:Int,∃C:Int,∃D:Int,∃E:Int,e = .returned (.agg #[.int .i64 z,.int .i64 A,.int .i64 B,.int .i64 C,.int .i64 D,.int .i64 E])/\(
 Aj (!((s==z) && ((t==A) && ((u==B) && ((v==C) && ((x==D) && ((y==E) && true))))))) (
 Q (.bool false)) (
 Akb R Q  m2 k c5 F P (IntKind.wrap .i64<|j+(1:Int)))) w') w')) w') w'):=by kernel_rfl
theorem Anl{b:Jn}{Q:VW}:Aka b Q  (us 65 [])=(
 call1 .bool Tryz.prog 12 [] λ(a:Bool)=>
 Q (.bool a)):=by kernel_rfl
theorem Nu{b:Jn}{Q:VW}{m2:Nat}{d:Sl}{c5:OA}{a:Bool}{e:OA}{c:Int}:Akb b Q  (m2+1) d c5 a e c=(
 Aj (decide<|c<(d.n:Int)) (
 Aj (decide<|c<(150:Int)) (
 Aj a (
 A69 b Q m2 d c5 a e c) (
 Ada b Q  )) (
 Ada b Q  )) (
 Ada b Q  )):=by kernel_rfl
theorem Anj{B:Jn}{Q:VW}{A:Sl}{b d:Nat}:Aj8 B Q  (us 1 ((.slice A.a A.n A.c)::(.pointer<|some ⟨b,d,none⟩)::us 62 []))=(
 ld (.int .i64) b d λ(h:Int)=>
 ld (.int .i64) b (d+1) λ(i:Int)=>
 ld (.int .i64) b ((d+1)+1) λ(j:Int)=>
 ld (.int .i64) b (((d+1)+1)+1) λ(k:Int)=>
 ld (.int .i64) b ((((d+1)+1)+1)+1) λ(l:Int)=>
 ld (.int .i64) b (((((d+1)+1)+1)+1)+1) λ(o:Int)=>
 ld (.int .i64) b ((((((d+1)+1)+1)+1)+1)+1) λ(p:Int)=>
 ld .slc b (((((((d+1)+1)+1)+1)+1)+1)+1) λ(e:Sl)=>
 GC .ptr .bool Tryz.prog 13 [.agg #[.int .i64 h,.int .i64 i,.int .i64 j,.int .i64 k,.int .i64 l,.int .i64 o,.int .i64 p,.slice e.a e.n e.c]] λ(q:OA)(g:Bool)=>
 ld (.int .i64) b d λ(r:Int)=>
 ld (.int .i64) b (d+1) λ(s:Int)=>
 ld (.int .i64) b ((d+1)+1) λ(t:Int)=>
 ld (.int .i64) b (((d+1)+1)+1) λ(u:Int)=>
 ld (.int .i64) b ((((d+1)+1)+1)+1) λ(v:Int)=>
 ld (.int .i64) b (((((d+1)+1)+1)+1)+1) λ(w:Int)=>
 ld (.int .i64) b ((((((d+1)+1)+1)+1)+1)+1) λ(x:Int)=>
 ld .slc b (((((((d+1)+1)+1)+1)+1)+1)+1) λ(f:Sl)=>
 GC .ptr .bool Tryz.prog 13 [.agg #[.int .i64 r,.int .i64 s,.int .i64 t,.int .i64 u,.int .i64 v,.int .i64 w,.int .i64 x,.slice f.a f.n f.c]] λ(y:OA)(z:Bool)=>
 Aj (!(g==z)) (
 Q (.bool false)) (
 Em λm=>Akb B Q  m A q g y (0:Int))):=by kernel_rfl
theorem Bai{x:Jn}{f g h i j k l:Int}{b m:Sl}{Q:VW}:Aw x Tryz.prog OS f8 [.agg #[.int .i64 f,.int .i64 g,.int .i64 h,.int .i64 i,.int .i64 j,.int .i64 k,.int .i64 l,.slice b.a b.n b.c],.slice m.a m.n m.c] Q=(
 Az [.int .i64 f,.int .i64 g,.int .i64 h,.int .i64 i,.int .i64 j,.int .i64 k,.int .i64 l,.slice b.a b.n b.c] 24 λd=>
 call1 .bool Tryz.prog 9 [.slice m.a m.n m.c] λ(p:Bool)=>
 Aj p (
 Q (.bool true)) (
 ld (.int .i64) d 0 λ(q:Int)=>
 ld (.int .i64) d 1 λ(r:Int)=>
 ld (.int .i64) d 2 λ(s:Int)=>
 ld (.int .i64) d 3 λ(t:Int)=>
 ld (.int .i64) d 4 λ(u:Int)=>
 ld (.int .i64) d 5 λ(v:Int)=>
 ld (.int .i64) d 6 λ(w:Int)=>
 ld .slc d 7 λ(e:Sl)=>
 call1 .bool Tryz.prog 10 [.agg #[.int .i64 q,.int .i64 r,.int .i64 s,.int .i64 t,.int .i64 u,.int .i64 v,.int .i64 w,.slice e.a e.n e.c]] λ(o:Bool)=>
 Aj (!o) (
 Q (.bool true)) (
 A68 x Q  m d 0))):=by kernel_rfl
end Go.Proofs.YtjipofkjmmpjdaaGreat
namespace Go.Hb
def DP(F:(Value->Prop)->Prop):Prop:=∀K,F K->∃v,K v/\∀a:Value->Prop,a v->F a
theorem DP.pt{v:Value}:DP λK=>K v:=λ_ h=>⟨v,h,λ_ h=>h⟩
theorem DP.no:DP λ_=>False:=λ_ h=>h.elim
theorem DP.and{c:Prop}{F:(Value->Prop)->Prop}(h:DP F):DP λK=>c/\F K:=λK a=>by
 obtain⟨v,b,d⟩:=h K a.2;exact⟨v,b,λe f=>⟨a.1,d e f⟩⟩
theorem DP.cnd{b:Bool}{F G:(Value->Prop)->Prop}(h:DP F)(a:DP G):DP λK=>cond b (F K) (G K):=by
 cases b
 ·exact a
 ·exact h
theorem Rm{op:BinOp}{b:Bool}:DP (eqI op b):=by cases op <;> first|exact DP.pt|exact DP.no
theorem Apl{op:BinOp}{k:IntKind}{a b:Int}:DP (Ab6 op k a b):=by cases op <;> first|exact DP.pt|exact DP.no|exact DP.and DP.pt
theorem App{op:BinOp}{a b:BA}:DP (Ahd op a b):=by cases op <;> first|exact DP.pt|exact DP.no|exact DP.and DP.pt
def DB(F:(Bool->Prop)->Prop):Prop:=∀K,F K->∃v,K v/\∀a:Bool->Prop,a v->F a
theorem DB.dp{F:(Bool->Prop)->Prop}{op:BinOp}(h:DB F):DP λK=>F λb=>eqI op b K:=λK c=>by
 obtain⟨v,d,e⟩:=h _ c;obtain⟨u,f,g⟩:=Rm K d;exact⟨u,f,λa i=>e (λb=>eqI op b a)<|g a i⟩
theorem Aer{k:IntKind}:∀{xs ys:List Value},DB (HC k xs ys)
 | [],[]=>λK h=>⟨true,h,λ_ h=>h⟩
 | [],_::_=>λK h=>h.elim
 | x::xs,ys=>λK h=>by
  unfold HC at h;split at h
  ·rename_i d a;split at h
   ·rename_i y c;split at h
    ·rename_i e b;cases hc:(Nb k d && Nb k e) with
     | false=>rw[hc] at h;exact h.elim
     | true=>
      rw[hc] at h;obtain⟨v,f,g⟩:=Aer (xs:=xs) (ys:=c) (λr=>K<|(a==b) && r) h;exact⟨_,f,λi j=>by unfold HC;simp only[hc,cond_true];exact g (λr=>i<|(a==b) && r) j⟩
    ·exact h.elim
   ·exact h.elim
  ·exact h.elim
theorem Aeq{P:Program}{xs ys:List Value}:∀{fs:List Field},DB (HB P xs ys fs)
 | []=>λK h=>⟨true,h,λ_ h=>h⟩
 | f::fs=>λK h=>by
  unfold HB at h;split at h
  ·rename_i k c;split at h
   ·rename_i d a e;split at h
    ·rename_i g b i;cases hc : (Nb k d && Nb k g && !(f.name == "_")) with
     | false=>rw[hc] at h;exact h.elim
     | true=>
      rw[hc] at h;obtain⟨v,j,l⟩:=Aeq (fs:=fs) (λr=>K ((a==b) && r)) h;exact⟨_,j,λm n=>by unfold HB;simp only[c,e,i,hc,cond_true];exact l (λr=>m ((a==b) && r)) n⟩
    ·exact h.elim
   ·exact h.elim
  ·exact h.elim
section
variable{P:Program}{ρ:Dy}
theorem Aph{op:BinOp}{t:TypeId}{u v:Value}:DP (Rg P op t u v):=by
 unfold Rg;cases u <;> try exact DP.no
 case agg xs=>
  cases v <;> try exact DP.no
  rename_i ys;dsimp only;cases P.underlying t with
  | none=>exact DP.no
  | some x=>
   cases x <;> try exact DP.no
   case array n e=>
    dsimp only;cases P.underlying e with
    | none=>exact DP.no
    | some x=>
     cases x <;> try exact DP.no
     exact DP.cnd (DB.dp Aer) DP.no
   case struct fs=>exact DP.cnd DP.no (DB.dp Aeq)
 case int k a=>
  cases v <;> try exact DP.no
  rename_i k' b;cases op <;> first|exact DP.and DP.pt|exact DP.cnd Apl DP.no
 case string a=>
  cases v <;> try exact DP.no
  exact App
 case pointer a=>
  cases v <;> try exact DP.no
  rename_i p;cases p <;> first|exact DP.cnd Rm DP.no|exact DP.no
 case slice a n c=>
  cases v <;> try exact DP.no
  rename_i p _ _;cases p <;> first|exact DP.cnd Rm DP.no|exact DP.no
 case bool a=>
  cases v <;> try exact DP.no
  exact DP.cnd Rm DP.no
theorem A74{op:BinOp}{t:TypeId}{u:Value}:DP (Acx P op t u):=by
 unfold Acx;cases u <;> first|exact DP.no|exact DP.cnd Rm DP.no
theorem Ayy{op:BinOp}{t:TypeId}{u:Value}:DP (OO P op t u):=by
 unfold OO;cases u <;> first|exact DP.no|exact DP.cnd Rm DP.no
theorem Bb6{op:UnOp}{u:Value}:DP (unI op u):=by
 unfold unI;cases op <;> cases u <;> first|exact DP.no|exact DP.pt
theorem Ah2{d:TypeId}{x:Value}:DP (K7 P d x):=by
 unfold K7;cases x <;> try exact DP.no
 case int k n=>
  dsimp only;cases P.underlying d with
  | none=>exact DP.no
  | some u=>cases u <;> first|exact DP.no|exact DP.pt
 case string s=>exact DP.cnd DP.pt DP.no
theorem Ayz{c a b:Operand}:DP (SC ρ c a b):=by
 unfold SC;cases ev ρ c <;> try exact DP.no
 rename_i t;cases t <;> exact DP.pt
theorem Apn{v:Value}:DP (JK v):=by
 unfold JK;cases v <;> try exact DP.no
 exact λK ⟨b,o,h,a⟩=>⟨_,a,λd c=>⟨b,o,h,c⟩⟩
theorem Apm{v:Option Value}{h:Nat}{F:Nat->(Value->Prop)->Prop}(a:∀n,DP<|F n):DP λK=>loB v h λn=>F n K:=by
 unfold loB;cases v with
 | none=>exact a 0
 | some v=>cases v <;> first|exact DP.no|exact DP.and (a _)
theorem A6w{v:Option Value}{n c:Nat}{F:Nat->(Value->Prop)->Prop}(a:∀n,DP<|F n):DP λK=>hiB v n c λn=>F n K:=by
 unfold hiB;cases v with
 | none=>exact a n
 | some v=>cases v <;> first|exact DP.no|exact DP.and (a _)
theorem Bb5{v:Option Value}{c:Nat}{F:Nat->(Value->Prop)->Prop}(a:∀n,DP<|F n):DP λK=>mxB v c λn=>F n K:=by
 unfold mxB;cases v with
 | none=>exact a c
 | some v=>cases v <;> first|exact DP.no|exact DP.and (a _)
theorem Apo{t:TypeId}{x:Value}{lo hi b:Option Value}:DP (GV P t x lo hi b):=by
 unfold GV;cases x <;> try exact DP.no
 case string s=>
  refine DP.cnd ?_ DP.no;cases b with
  | none=>exact A6w λh=>Apm λl=>DP.pt
  | some _=>exact DP.no
 case slice a n c=>
  dsimp only;cases P.underlying t with
  | none=>exact DP.no
  | some u=>
   cases u <;> try exact DP.no
   refine DP.cnd ?_ DP.no;cases hi with
   | none=>cases b with
    | none=>exact Apm λl=>DP.pt
    | some _=>exact DP.no
   | some _=>exact Bb5 λm=>A6w λh=>Apm λl=>DP.pt
theorem Alf{t:TypeId}{x:Value}{f:Nat}:DP (Hi P t x f):=by
 unfold Hi;split
 ·split
  ·split
   ·exact DP.no
   ·exact DP.pt
  ·exact DP.no
 ·exact DP.no
end
end Go.Hb
namespace Go.Hb
section
variable{P:Program}{ρ:Dy}
theorem Apj{t:TypeId}{x:Value}{f:Nat}:DP (KS P t x f):=by
 unfold KS;cases x <;> try exact DP.no
 dsimp only;cases ID P t f with
 | none=>exact DP.no
 | some p=>
  obtain⟨a,b⟩:=p;refine DP.cnd ?_ DP.no;unfold Acz;cases G8 P b with
  | true=>exact DP.pt
  | false=>
   dsimp only;rename_i cs;cases cs.toList[a]? with
   | none=>exact DP.no
   | some v=>exact DP.cnd DP.no DP.pt
theorem Alg{t:TypeId}{x i:Value}:DP (Hm P t x i):=by
 unfold Hm;cases i <;> try exact DP.no
 dsimp only;cases P.underlying t with
 | none=>exact DP.no
 | some u=>
  cases u <;> try exact DP.no
  ·cases x <;> try exact DP.no
   exact DP.cnd (λK ⟨b,o,c,d,e⟩=>⟨_,e,λg f=>⟨b,o,c,d,f⟩⟩) DP.no
  ·cases x <;> try exact DP.no
   rename_i p;cases p with
   | none=>exact DP.no
   | some a=>
    obtain⟨b,o,s⟩:=a;cases s with
    | none=>exact DP.cnd (DP.and DP.pt) DP.no
    | some _=>exact DP.no
theorem Apk{t:TypeId}{x i:Value}:DP (J8 P t x i):=by
 unfold J8;cases i <;> try exact DP.no
 cases x <;> try exact DP.no
 ·exact DP.cnd (DP.and DP.pt) DP.no
 ·dsimp only;cases P.underlying t with
  | none=>exact DP.no
  | some u=>
   cases u <;> try exact DP.no
   dsimp only;split
   ·exact DP.cnd DP.no (DP.and λK ⟨x,a,b,c⟩=>⟨_,c,λe d=>⟨x,a,b,d⟩⟩)
   ·exact DP.no
theorem Aet{x:Value}{i:Nat}:DP (FT x i):=by
 unfold FT;cases x <;> try exact DP.no
 rename_i vs;dsimp only;cases vs.toList[i]? <;> first|exact DP.no|exact DP.pt
theorem Api{t:TypeId}{ps:List (Nat×Value)}:DP (KL P t ps):=by
 unfold KL;cases Jv P t ps <;> first|exact DP.no|exact DP.pt
theorem A71{t:TypeId}{x:Value}:DP (Aci P t x):=by
 unfold Aci;cases x <;> try exact DP.no
 ·exact DP.cnd DP.pt DP.no
 ·exact DP.cnd DP.pt DP.no
 ·dsimp only;cases P.underlying t with
  | none=>exact DP.no
  | some u=>cases u <;> first|exact DP.no|exact DP.pt
theorem A72{x y:Value}:DP (Acp x y):=by
 unfold Acp;cases x <;> cases y <;> first|exact DP.no|exact DP.pt
theorem A73{x y:Value}:DP (Acu x y):=by
 unfold Acu;cases x <;> cases y <;> first|exact DP.no|exact DP.pt
theorem Ayx{x y z u:Value}:DP (OL x y z u):=by
 unfold OL;cases x <;> try exact DP.no
 cases y <;> try exact DP.no
 cases z <;> try exact DP.no
 cases u <;> first|exact DP.no|exact DP.pt
theorem Rk{a:Type _}{b:Bool}{x:Option a}{y:a}(h:(bif b then x else none)=some y):x=some y:=by
 cases b
 ·cases h
 ·exact h
theorem Ah3{o:Op}{F:(Value->Prop)->Prop}(h:Fz P ρ o=some F):DP F:=by
 cases o <;> unfold Fz at h <;> try (cases h;done)
 all_goals first
  | (cases h;first|exact DP.pt|exact Ayz|exact Apn|exact Bb6|exact Apo|exact Alf|exact Apj|exact Alg|exact Apk|exact Aet|exact Api|exact DP.cnd DP.pt DP.no|exact DP.cnd (DP.cnd DP.pt DP.no) DP.no)
  | skip
 all_goals dsimp only at h
 all_goals try (split at h <;> try (split at h) <;> cases h <;> first|exact A74|exact Ayy|exact Aph)
 all_goals first
  | (cases h;done)
  | (cases h;exact Aph)
  | (have h:=Rk h;cases h;exact Ah2)
  | (have h:=Rk (Rk h);cases h;exact Ah2)
  | (repeat' (split at h)) <;> first|(cases h;done)|(cases h;first|exact A71|exact A72|exact A73|exact Ayx)
end
end Go.Hb
namespace Go.Hb
def DW{b:Type}(F G:(b->WP)->Prop):Prop:=∀K,F K->∃x w',K x w'/\∀a:b->WP,a x w'->G a
section
variable{α β:Type}{w:World}
theorem DW.pt{x:α}:DW (λK=>K x w) λK=>K x w:=λ_ h=>⟨x,w,h,λ_ h=>h⟩
theorem DW.no{G:(α->WP)->Prop}:DW (λ_=>False) G:=λ_ h=>h.elim
theorem DW.and{c:Prop}{F G:(α->WP)->Prop}(h:DW F G):DW (λK=>c/\F K) λK=>c/\G K:=λK a=>by
 obtain⟨v,w',b,d⟩:=h K a.2;exact⟨v,w',b,λe f=>⟨a.1,d e f⟩⟩
theorem DW.cndW{b:Bool}{F G a c:(α->WP)->WP}(h:DW (λK=>F K w) λK=>G K w)(d:DW (λK=>a K w) λK=>c K w):DW (λK=>(cond b (F K)<|a K) w) λK=>(cond b (G K)<|c K) w:=by
 cases b
 ·exact d
 ·exact h
theorem DW.bind{F G:(α->WP)->Prop}{F2 G2:α->(β->WP)->WP}(h:DW F G)(b:∀x w',DW (λK=>F2 x K w') λK=>G2 x K w') :
  DW (λK=>F λx=>F2 x K) λK=>G λx=>G2 x K:=λK c=>by
 obtain⟨x,d,e,f⟩:=h _ c;obtain⟨y,g,i,j⟩:=b x d K e;exact⟨y,g,i,λa k=>f (λx=>G2 x a)<|j a k⟩
theorem DW.map{F G:(α->WP)->Prop}{g:α->β}(h:DW F G):DW (λK=>F λx=>K<|g x) λK=>G λx=>K (g x):=λK a=>by
 obtain⟨x,b,c,d⟩:=h _ a;exact⟨_,b,c,λe f=>d (λx=>e<|g x) f⟩
theorem DW.ofP{F:(Value->Prop)->Prop}(h:DP F):DW (λK:VW=>F λv=>K v w) λK=>F λv=>K v w:=λK a=>by
 obtain⟨v,b,c⟩:=h _ a;exact⟨v,w,b,λd e=>c (λv=>d v w) e⟩
theorem A6x{k:CK}{b o:Nat}:DW (λK=>ld k b o K w) λK=>ld k b o K w:=by
 unfold ld;cases (w.cell? ⟨b,o,none⟩).bind k.un <;> first|exact DW.no|exact DW.pt
theorem Apw:∀{ks:List CK}{b o:Nat}{w:World},DW (λK=>lds ks b o K w) λK=>lds ks b o K w
 | [],_,_,_=>DW.pt
 | k::ks,b,o,w=>by
  unfold lds;exact DW.bind (F:=λK=>ld k b o K w) A6x λx w'=>DW.map (g:=λvs=>k.val x::vs) Apw
theorem A79{b o:Nat}:DW (λK:VW=>Mk b o (K .nilIface) (λt v=>K<|.iface t v) w) λK=>Mk b o (K .nilIface) (λt v=>K<|.iface t v) w:=by
 unfold Mk;cases w.cell? ⟨b,o,none⟩ with
 | none=>exact DW.no
 | some v=>cases v <;> first|exact DW.no|exact DW.pt
theorem Ik{K:FuncId->WP}:∀{l:List FuncId}{p:FuncId×WP},p∈Mq K l->p.1∈l/\p.2=K p.1
 | [],_,h=>by cases h
 | f::l,p,h=>by
  rcases mem_cons.1 h with rfl|h
  ·exact⟨mem_cons_self,rfl⟩
  ·exact⟨mem_cons_of_mem _ (Ik h).1,(Ik h).2⟩
theorem JI{K:FuncId->WP}:∀{l:List FuncId}{f:FuncId},f∈l->(f,K f)∈Mq K l
 | [],_,h=>by cases h
 | g::l,f,h=>by
  rcases mem_cons.1 h with rfl|h
  ·exact mem_cons_self
  ·exact mem_cons_of_mem _ (JI h)
theorem A8a{b o:Nat}{l:List FuncId}:DW (λK:VW=>ldV b o (K .nilFunc) (Mq (λf=>K<|.func (.func f) #[] #[]) l) w) λK=>ldV b o (K .nilFunc) (Mq (λf=>K<|.func (.func f) #[] #[]) l) w:=by
 unfold ldV;cases w.cell? ⟨b,o,none⟩ with
 | none=>exact DW.no
 | some v=>
  cases v <;> try exact DW.no
  case nilFunc=>exact DW.pt
  case func tg first cap=>
   cases tg <;> try exact DW.no
   rename_i f;exact λK ⟨d,e,p,g,h,a⟩=>by
    obtain⟨c,i⟩:=Ik g;rw[i] at a;rw[h] at a c;exact⟨_,w,a,λj k=>⟨d,e,_,JI (K:=λf=>j<|.func (.func f) #[] #[]) c,rfl,k⟩⟩
theorem Ah6{P:Program}{t:TypeId}{x:Value}:DW (λK=>GN P t x K w) λK=>GN P t x K w:=by
 unfold GN;cases x <;> try exact DW.no
 rename_i p;cases p with
 | none=>exact DW.no
 | some a=>
  obtain⟨b,o,s⟩:=a;cases s with
  | some _=>exact DW.no
  | none=>
   dsimp only;cases Ud P 9 t with
   | none=>exact DW.no
   | some ks=>
    refine DW.cndW (w:=w) ?_ DW.no;cases G8 P t with
    | true=>exact DW.map (g:=λvs=>Value.agg vs.toArray) Apw
    | false=>
     dsimp only
     match ks with
     | []=>exact DW.no
     | _::_::_=>exact DW.no
     | [k]=>
      dsimp only;cases Dg P t with
      | true=>exact A79
      | false=>
       dsimp only;cases EO P t with
       | true=>exact A8a
       | false=>exact DW.map (g:=λx=>k.val x) A6x
theorem Bb7{b o:Nat}{v:Value}{F G:(α->WP)->WP}(h:DW (λK=>F K<|w.setCell ⟨b,o,none⟩ v) λK=>G K<|w.setCell ⟨b,o,none⟩ v):DW (λK=>st b o v (F K) w) λK=>st b o v (G K) w:=
 DW.and (DW.and h)
theorem Aew:∀{vs:List Value}{b o:Nat}{w:World},DW (λK:Unit->WP=>T7 vs b o (K ()) w) λK=>T7 vs b o (K ()) w
 | [],_,_,_=>DW.pt
 | v::vs,b,o,w=>by
  unfold T7;exact Bb7 (F:=λK:Unit->WP=>T7 vs b (o+1)<|K ()) Aew
theorem Apz{a:OA}{c:Nat}{vs:List Value}:DW (λK:Unit->WP=>stA a c vs (K ()) w) λK=>stA a c vs (K ()) w:=by
 unfold stA;cases a with
 | none=>cases vs <;> first|exact DW.pt|exact DW.no
 | some a=>
  obtain⟨b,o,s⟩:=a;cases s <;> first|exact Aew|exact DW.no
theorem DW.unit{F G:WP->Prop}{K0:α->WP}{x:α}(h:DW (λK:Unit->WP=>F<|K ()) λK=>G<|K ()):DW (λK:α->WP=>F<|K x) λK=>G (K x):=λK a=>by
 obtain⟨_,w',b,c⟩:=h (λ_=>K x) a;exact⟨x,w',b,λd e=>c (λ_=>d x) e⟩
theorem Ap0{P:Program}{t:TypeId}{x v:Value}:DW (λK:Unit->WP=>FH P t x v (K ()) w) λK=>FH P t x v (K ()) w:=by
 unfold FH;cases x <;> try exact DW.no
 rename_i p;cases p with
 | none=>exact DW.no
 | some a=>
  obtain⟨b,o,s⟩:=a;cases s with
  | some _=>exact DW.no
  | none=>exact DW.cndW (w:=w) Aew DW.no
theorem WE{cs:List Value}{T:TypeId}:DW (λK=>Az cs T K w) λK=>Az cs T K w:=λK h=>⟨_,_,h,λ_ h=>h⟩
theorem Aps{P:Program}{t:TypeId}:DW (λK=>Jt P t K w) λK=>Jt P t K w:=by
 unfold Jt;cases Di P t <;> first|exact DW.no|exact DW.map (g:=λb=>Value.pointer<|some ⟨b,0,none⟩) WE
theorem A76{t:TypeId}{v:Value}:DW (λK=>YT t v K w) λK=>YT t v K w:=by
 unfold YT;exact DW.cndW (w:=w) DW.no (DW.cndW (w:=w) DW.no<|DW.map (g:=λb=>Value.pointer<|some ⟨b,0,none⟩) WE)
theorem Ali{P:Program}{t:TypeId}{n:Nat}{ps:List (Nat×Value)}:DW (λK=>CZ P t n ps K w) λK=>CZ P t n ps K w:=by
 unfold CZ;cases P.underlying t with
 | none=>exact DW.no
 | some u=>
  cases u <;> try exact DW.no
  rename_i e;dsimp only;cases Di P e with
  | none=>exact DW.no
  | some z=>
   refine DW.cndW (w:=w) ?_ DW.no;cases GF (λi=>some (i*Ex P e,Ex P e)) (CH z n) ps <;> first|exact DW.no|exact DW.map (g:=λb=>Value.slice (some ⟨b,0,none⟩) n n) WE
theorem Ay4{P:Program}{t:TypeId}{l c:Value}:DW (λK=>D7 P t l c K w) λK=>D7 P t l c K w:=by
 unfold D7;cases P.underlying t with
 | none=>exact DW.no
 | some u=>
  cases u <;> try exact DW.no
  rename_i e;dsimp only;cases Di P e with
  | none=>exact DW.no
  | some z=>
   cases l <;> try exact DW.no
   cases c <;> try exact DW.no
   refine DW.cndW (w:=w) ?_ DW.no;exact DW.and (DW.map (g:=λb=>Value.slice (some ⟨b,0,none⟩) _ _) WE)
theorem Apt{P:Program}{s d:TypeId}{x:Value}:DW (λK=>I1 P s d x K w) λK=>I1 P s d x K w:=by
 unfold I1;cases x <;> try exact DW.no
 dsimp only;cases P.underlying s with
 | none=>exact DW.no
 | some u=>
  cases u <;> try exact DW.no
  rename_i e;dsimp only;cases P.underlying e with
  | none=>exact DW.no
  | some u=>
   cases u <;> try exact DW.no
   exact DW.cndW (w:=w) (λK ⟨s,a,b⟩=>⟨_,_,b,λf c=>⟨s,a,c⟩⟩) DW.no
end
def Fb(w:World)(b:Nat):World:={ w with heap:=w.heap.modify b λ_=>.map #[] 0 }
def K9(w:World):OA->World
 | none=>w
 | some a=>Fb w a.block
def A7c(w:World)(d:Nat)(s:Sl):Prop:=match s.a with
 | none=>s.n=0/\s.c=0
 | some ⟨b,o,none⟩=>∃cs T lo hi,w.heap[b]? = some (.cells cs T (lo,hi))/\o+s.c*d<=cs.size/\∀i,i<cs.size->¬(lo<=i/\i<hi)
 | _=>False
def PE(e b d:Nat)(g:List Value)(s:Sl)(n:Nat)(new:World->Option (List Value))(K:Sl->WP):WP:=λw=>
 ∃vs,new w=some vs/\(Mv vs=true/\vs.length=n*b/\0<b) /\
  if s.n+n<=s.c then stA s.a (s.n*b) vs (K ⟨s.a,s.n+n,s.c⟩) w
  else (∀c,c<s.n+n->Builtin.nextslicecap (s.n+n) c*d<=281474976710656)/\A7c w b s/\∃f,H3 w s.a (s.n*b)=some f /\
   K ⟨some ⟨w.heap.size,0,none⟩,s.n+n,s.n+n⟩ ((K9 w s.a).alloc<|.cells (f++vs).toArray e)
def Bdg(P:Program)(t:TypeId)(v:Value)(a:String)(C:FuncId->VW):WP:=λw=>
 ∃f c,(∃b,v = .pointer (some ⟨b,0,none⟩))/\(∀b w',(method (P.types.size+Made.depth) t (.pointer<|some ⟨b,0,none⟩) a).run P w' = .ok (f,.pointer<|some ⟨b,0,none⟩) w')/\P.funcs[f]? = some c/\c.body.isSome=true/\Lb c.name=true/\C f v w
abbrev CI:=Program->FuncId->Array Value->World->(Ending->World->Prop)->Prop
@[reducible] def extOf (C:CI):Ext:=⟨C,PE,λl=>l.headD Cv,Bdg⟩
section
variable{w:World}
theorem Alh{e f b:Nat}{z:List Value}{s:Sl}{n:Nat}{new:World->Option (List Value)}:DW (λK=>PE e f b z s n new K w) λK=>PE e f b z s n new K w:=λK ⟨vs,l,m,h⟩=>by
 by_cases d:s.n+n<=s.c
 ·rw[if_pos d] at h;obtain⟨_,w',g,i⟩:=Apz (λ_:Unit=>K ⟨s.a,s.n+n,s.c⟩) h;exact⟨_,w',g,λo j=>⟨vs,l,m,by rw[if_pos d];exact i (λ_=>o _) j⟩⟩
 ·rw[if_neg d] at h;obtain⟨g,i,k,p,q⟩:=h;exact⟨_,_,q,λo j=>⟨vs,l,m,by rw[if_neg d];exact⟨g,i,k,p,j⟩⟩⟩
end
end Go.Hb
namespace Go.Hb
def DL(F:(List Value->Prop)->Prop):Prop:=∀K,F K->∃v,K v/\∀a:List Value->Prop,a v->F a
theorem MV:∀{ks:List CK},DL (exV ks)
 | []=>λK h=>⟨_,h,λ_ h=>h⟩
 | k::ks=>λK ⟨x,h⟩=>by
  obtain⟨vs,a,b⟩:=MV _ h;exact⟨_,a,λc d=>⟨x,b (λvs=>c (k.val x::vs)) d⟩⟩
theorem WC{P:Program}{t:TypeId}:DP (exT P t):=by
 unfold exT;cases Ud P 9 t with
 | none=>exact DP.no
 | some ks=>
  dsimp only;cases G8 P t with
  | true=>
    intro K h;obtain⟨vs,c,d⟩:=MV _ h;exact⟨_,c,λb a=>d (λvs=>b<|.agg vs.toArray) a⟩
  | false=>
   dsimp only
   match ks with
   | []=>exact DP.no
   | _::_::_=>exact DP.no
   | [k]=>
    dsimp only;cases Dg P t with
    | true=>
      intro K h;rcases h with h|⟨t,v,h⟩
      ·exact⟨_,h,λb a=>.inl a⟩
      ·exact⟨_,h,λb a=>.inr ⟨t,v,a⟩⟩
    | false=>exact λK ⟨x,h⟩=>⟨_,h,λb a=>⟨x,a⟩⟩
theorem JZ{P:Program}:∀{ts:List TypeId},DL (WO P ts)
 | []=>λK h=>⟨_,h,λ_ h=>h⟩
 | t::ts=>λK h=>by
  obtain⟨v,b,c⟩:=WC _ h;obtain⟨vs,d,e⟩:=JZ _ b;exact⟨_,d,λa f=>c (λv=>WO P ts λvs=>a (v::vs))<|e (λvs=>a (v::vs)) f⟩
theorem WD{P:Program}{ts:List TypeId}:DP (TN P ts):=by
 match ts with
 | []=>exact DP.pt
 | [t]=>exact WC
 | t::u::ts=>
   intro K h;obtain⟨vs,a,b⟩:=JZ _ (show WO P (t::u::ts) (λvs=>K<|.tuple vs.toArray) from h);exact⟨_,a,λc d=>b (λvs=>c<|.tuple vs.toArray) d⟩
def CLe(c C2:CI):Prop:=∀P f a w R,c P f a w R->∃e w',R e w'/\∀b:Ending->World->Prop,b e w'->C2 P f a w b
section
variable{P:Program}{C1 C2:CI}{w:World}{ρ:Dy}
theorem Zc(H:CLe C1 C2){f:FuncId}{args:List Value}{R:(Value->Prop)->Prop}(hR:DP R):DW (λK=>@TZ (extOf C1) P f args R K w) λK=>@TZ (extOf C2) P f args R K w:=λK h=>by
 obtain⟨e,w',a,b⟩:=H _ _ _ _ _ h;obtain⟨v,⟨c,d⟩,g⟩:=hR _ a;exact⟨v,w',d,λi j=>b _<|g (λv=>e = .returned v/\i v w') ⟨c,j⟩⟩
theorem Ay0(H:CLe C1 C2){f:Value}{args:List Value}:DW (λK=>@L4 (extOf C1) P f args K w) λK=>@L4 (extOf C2) P f args K w:=by
 unfold L4;cases f <;> try exact DW.no
 rename_i a first cap
 cases a <;> try exact DW.no
 rename_i f;dsimp only;cases P.funcs[f]? with
 | none=>exact DW.no
 | some b=>exact DW.cndW (w:=w) (Zc H WD) DW.no
theorem A78(H:CLe C1 C2){ty:TypeId}{x:Value}{a:String}{args:List Value}:DW (λK=>@Yb (extOf C1) P ty x a args K w) λK=>@Yb (extOf C2) P ty x a args K w:=by
 unfold Yb;cases x <;> try exact DW.no
 refine DW.cndW (w:=w) (λK ⟨f,b,c,d,e,g,i,h⟩=>?_) DW.no;obtain⟨v,w',j,k⟩:=Zc H WD K h;exact⟨v,w',j,λl m=>⟨f,b,c,d,e,g,i,k l m⟩⟩
theorem A77{t:TypeId}{x:Value}:DW (λK:Unit->WP=>MT P t x (K ()) w) λK=>MT P t x (K ()) w:=by
 unfold MT;cases x <;> try exact DW.no
 dsimp only;cases P.underlying t with
 | none=>exact DW.no
 | some u=>
  cases u <;> try exact DW.no
  rename_i e;dsimp only;cases Di P e with
  | none=>exact DW.no
  | some z=>exact DW.cndW (w:=w) Apz DW.no
theorem Ay3{t:TypeId}{m k:Value}:DW (λK=>VI P t m k K w) λK=>VI P t m k K w:=by
 unfold VI;cases P.underlying t with
 | none=>exact DW.no
 | some u=>
  cases u <;> try exact DW.no
  rename_i e;dsimp only
  match Ud P 9 e with
  | none=>exact DW.no
  | some []=>exact DW.no
  | some (_::_::_)=>exact DW.no
  | some [c]=>exact DW.cndW (w:=w) DW.no λK ⟨x,a,b⟩=>⟨_,_,b,λf d=>⟨x,a,d⟩⟩
theorem Rp{e b a:Nat}{z:List Value}{s:Sl}{n:Nat}{new:World->Option (List Value)}:DW (λK=>@Bl (extOf C1) e b a z s n new K w) λK=>@Bl (extOf C2) e b a z s n new K w:=Alh (z:=z)
theorem Aeu{t t2:TypeId}{s x:Value}:DW (λK=>@Gp (extOf C1) P t t2 s x K w) λK=>@Gp (extOf C2) P t t2 s x K w:=by
 unfold Gp;cases P.underlying t with
 | none=>exact DW.no
 | some u=>
  cases u <;> try exact DW.no
  rename_i e;dsimp only;cases Di P e with
  | none=>exact DW.no
  | some z=>
   cases s <;> try exact DW.no
   refine DW.cndW (w:=w) ?_ DW.no;cases x <;> try exact DW.no
   ·exact DW.cndW (w:=w) (DW.map (g:=λs:Sl=>Value.slice s.a s.n s.c) Rp) DW.no
   ·exact DW.cndW (w:=w) (DW.map (g:=λs:Sl=>Value.slice s.a s.n s.c) Rp) DW.no
theorem A6y(H:CLe C1 C2){ty:TypeId}{o:Op}:DW (λK=>@OP (extOf C1) P ρ ty o K w) λK=>@OP (extOf C2) P ρ ty o K w:=by
 unfold OP;cases hp:Fz P ρ o with
 | some F=>exact DW.ofP (Ah3 hp)
 | none=>
  dsimp only;cases o <;> try exact DW.no
  all_goals dsimp only
  all_goals first
   | exact DW.cndW (w:=w) DW.no Ah6
   | exact DW.unit (F:=λk=>FH P _ _ _ k w) (G:=λk=>FH P _ _ _ k w) (K0:=λ_=>Cv) Ap0
   | exact Aps
   | exact A76
   | exact Ali
   | exact Ay4
   | exact Apt
   | exact DW.cndW (w:=w) DW.no λK ⟨w',h1,h2⟩=>⟨_,w',h2,λK' h'=>⟨w',h1,h'⟩⟩
   | skip
  case makeMap t r=>cases r <;> first|exact DW.no|exact λK h=>⟨_,_,h,λ_ h=>h⟩
  case lookup t x i c=>cases c <;> first|exact DW.no|exact Ay3
  case call c=>
   cases c.callee with
   | value f=>exact Ay0 H
   | invoke r name=>exact A78 H
   | builtin b=>
    cases b <;> try exact DW.no
    all_goals dsimp only
    all_goals first
     | (match c.args.toList,c.argTypes.toList with
      | [s,x],[t,t2]=>exact Aeu
      | [],_=>exact DW.no
      | [_],_=>exact DW.no
      | _::_::_::_,_=>exact DW.no
      | [_,_],[]=>exact DW.no
      | [_,_],[_]=>exact DW.no
      | [_,_],_::_::_::_=>exact DW.no)
     | (match c.args.toList,c.argTypes.toList with
      | [x],[t]=>exact DW.unit (F:=λk=>MT P t (ev ρ x) k w) (G:=λk=>MT P t (ev ρ x) k w) (K0:=λ_=>Cv) A77
      | [],_=>exact DW.no
      | _::_::_,_=>exact DW.no
      | [_],[]=>exact DW.no
      | [_],_::_::_=>exact DW.no)
theorem Ava(all:List Oper)(g:Dy)(o:Oper):(∃f,∀a c,DM all g o a c=a f)\/(∃f,∀a c,DM all g o a c=c f)\/∀a c,DM all g o a c=Cv:=by
 unfold DM;cases o.guard with
 | none=>exact .inl ⟨_,λ_ _=>rfl⟩
 | some p=>
  obtain⟨j,e⟩:=p;dsimp only;cases Ro all j with
  | none=>exact .inr (.inl ⟨_,λ_ _=>rfl⟩)
  | some d=>
   dsimp only;cases gt g d <;> first
    | exact .inr (.inr λ_ _=>rfl)
    | exact .inr (.inl ⟨_,λ_ _=>rfl⟩)
    | (rename_i b;cases b <;> cases e <;> first|exact .inl ⟨_,λ_ _=>rfl⟩|exact .inr (.inl ⟨_,λ_ _=>rfl⟩))
theorem Rq{α:Type}{all:List Oper}{o:Oper}{y n y' n':(α->WP)->EW}(hy:∀ρ,DW (λK=>y K ρ w) λK=>y' K ρ w)(hn:∀ρ,DW (λK=>n K ρ w) λK=>n' K ρ w) :
  DW (λK=>DM all ρ o (y K) (n K) w) λK=>DM all ρ o (y' K) (n' K) w:=by
 rcases Ava all ρ o with⟨ρ',h⟩|⟨ρ',h⟩|h
 ·simp only[h];exact hy _
 ·simp only[h];exact hn _
 ·simp only[h];exact DW.no
theorem Aev(H:CLe C1 C2){all:List Oper}:∀{l:List Oper}{a:Dy}{w:World},DW (λK=>@IN (extOf C1) P all l a K w) λK=>@IN (extOf C2) P all l a K w
 | [],_,_=>DW.pt
 | o::l,a,w=>by
  unfold IN;refine Rq (y:=λK a=>_) (n:=λK a=>_) (y':=λK a=>_) (n':=λK a=>_) (λa=>?_) λa=>Aev H;exact DW.bind (F:=λK=>@OP (extOf C1) P a o.type o.op K w) (G:=λK=>@OP (extOf C2) P a o.type o.op K w) (F2:=λv K=>@IN (extOf C1) P all l (ptO a o.dst v) K) (G2:=λv K=>@IN (extOf C2) P all l (ptO a o.dst v) K) (A6y H) λx w'=>Aev H
theorem Ah4{a:Type}{b:Bool}{S:World->Prop}{F G:(a->WP)->WP}(h:DW (λK=>F K w) λK=>G K w):DW (λK=>Al b S (F K) w) λK=>Al b S (G K) w:=by
 cases b
 ·exact h
 ·exact DW.and h
theorem Apv{S:World->Prop}{k:CK}{b o:Nat}:DW (λK=>TK S k b o K w) λK=>TK S k b o K w:=λK ⟨x,a,c⟩=>⟨x,w,c,λe d=>⟨x,a,d⟩⟩
theorem Ah5{S:World->Prop}:∀{ks:List CK}{b o:Nat}{w:World},DW (λK=>TL S ks b o K w) λK=>TL S ks b o K w
 | [],_,_,_=>DW.pt
 | k::ks,b,o,w=>by
  unfold TL;exact DW.bind (F:=λK=>TK S k b o K w) Apv λx w'=>DW.map (g:=λvs=>k.val x::vs) Ah5
theorem Ay1{S:World->Prop}{b o:Nat}:DW (λK:VW=>Agl S b o (K .nilIface) (λt v=>K<|.iface t v) w) λK=>Agl S b o (K .nilIface) (λt v=>K<|.iface t v) w:=λK h=>by
 rcases h with⟨a,c⟩|⟨t,v,a,c⟩
 ·exact⟨_,w,c,λe d=>.inl ⟨a,d⟩⟩
 ·exact⟨_,w,c,λe d=>.inr ⟨t,v,a,d⟩⟩
theorem Ay2{S:World->Prop}{b o:Nat}{l:List FuncId}:DW (λK:VW=>Avr S b o (K .nilFunc) (Mq (λf=>K<|.func (.func f) #[] #[]) l) w) λK=>Avr S b o (K .nilFunc) (Mq (λf=>K<|.func (.func f) #[] #[]) l) w:=λK h=>by
 rcases h with⟨c,a⟩|⟨p,g,c,a⟩
 ·exact⟨_,w,a,λe d=>.inl ⟨c,d⟩⟩
 ·obtain⟨i,j⟩:=Ik g;rw[j] at a;exact⟨_,w,a,λe d=>.inr ⟨_,JI (K:=λf=>e<|.func (.func f) #[] #[]) i,c,d⟩⟩
theorem Apx{S:World->Prop}{t:TypeId}{x:Value}:DW (λK=>GO P S t x K w) λK=>GO P S t x K w:=by
 unfold GO;cases x <;> try exact DW.no
 rename_i p;cases p with
 | none=>exact DW.no
 | some a=>
  obtain⟨b,o,s⟩:=a;cases s with
  | some _=>exact DW.no
  | none=>
   dsimp only;cases Ud P 9 t with
   | none=>exact DW.no
   | some ks=>
    refine DW.cndW (w:=w) ?_ DW.no;cases G8 P t with
    | true=>exact DW.map (g:=λvs=>Value.agg vs.toArray) Ah5
    | false=>
     dsimp only
     match ks with
     | []=>exact DW.no
     | _::_::_=>exact DW.no
     | [k]=>
      dsimp only;cases Dg P t with
      | true=>exact Ay1
      | false=>
       dsimp only;cases EO P t with
       | true=>exact Ay2
       | false=>exact DW.map (g:=λx=>k.val x) Apv
theorem A8b{S:World->Prop}{o:Op}:DW (λK=>stI P S ρ o K w) λK=>stI P S ρ o K w:=by
 unfold stI;cases a:Fz P ρ o with
 | some F=>exact DW.ofP (Ah3 a)
 | none=>
  dsimp only;cases o <;> first|exact DW.no|exact DW.cndW (w:=w) DW.no Apx
theorem L9(H:CLe C1 C2){all:List Oper}{S:World->Prop}{A c b:List Nat}:∀{n:Nat}{a:List Nat}{d:Dy}{w:World},DW (λK=>@BQ (extOf C1) P all S A c b n a d K w) λK=>@BQ (extOf C2) P all S A c b n a d K w
 | 0,a,d,w=>by
  unfold BQ;exact DW.cndW (w:=w) DW.pt DW.no
 | n+1,a,d,w=>by
  unfold BQ;cases ON all a A with
  | some i=>
   dsimp only;cases all[i]? with
   | none=>exact DW.no
   | some o=>
    refine DW.cndW (w:=w) ?_ DW.no;refine Rq (y:=λK d=>_) (n:=λK d=>_) (y':=λK d=>_) (n':=λK d=>_) (λd=>?_) λd=>L9 H;exact DW.bind (F:=λK=>stI P S d o.op K w) (F2:=λv K=>@BQ (extOf C1) P all S A c b n (i::a) (ptO d o.dst v) K) (G2:=λv K=>@BQ (extOf C2) P all S A c b n (i::a) (ptO d o.dst v) K) A8b λx w'=>L9 H
  | none=>
   dsimp only;cases Lm all a with
   | nil=>exact DW.no
   | cons i l=>
    show DW (λK=>(match all[i]? with
     | none=>Cv
     | some o=>DM all d o (λd=>@OP (extOf C1) P d o.type o.op λv=>Al (Ds c b i) S<|@BQ (extOf C1) P all S A c b n (i::a) (ptO d o.dst v) K) λd=>Al (Ds c b i) S<|@BQ (extOf C1) P all S A c b n (i::a) (ptO d o.dst undef) K) w)
     λK=>(match all[i]? with
     | none=>Cv
     | some o=>DM all d o (λd=>@OP (extOf C2) P d o.type o.op λv=>Al (Ds c b i) S<|@BQ (extOf C2) P all S A c b n (i::a) (ptO d o.dst v) K) λd=>Al (Ds c b i) S<|@BQ (extOf C2) P all S A c b n (i::a) (ptO d o.dst undef) K) w
    cases all[i]? with
    | none=>exact DW.no
    | some o=>
     refine Rq (y:=λK d=>_) (n:=λK d=>_) (y':=λK d=>_) (n':=λK d=>_) (λd=>?_) λd=>Ah4 (L9 H);exact DW.bind (F:=λK=>@OP (extOf C1) P d o.type o.op K w) (G:=λK=>@OP (extOf C2) P d o.type o.op K w) (F2:=λv K=>Al (Ds c b i) S<|@BQ (extOf C1) P all S A c b n (i::a) (ptO d o.dst v) K) (G2:=λv K=>Al (Ds c b i) S<|@BQ (extOf C2) P all S A c b n (i::a) (ptO d o.dst v) K) (A6y H) λx w'=>Ah4 (L9 H)
inductive Jl where
 | n (ρ:Dy)|x (i:Nat) (ρ:Dy)|r (ρ:Dy)
theorem Hd(H:CLe C1 C2){kp:KP}:∀{c:Code}{E:Dy}{w:World},DW (λK:Jl->WP=>@AD (extOf C1) P kp AU c (λE=>K<|.n E) (λi E=>K<|.x i E) (λE=>K<|.r E) E w) λK=>@AD (extOf C2) P kp AU c (λE=>K<|.n E) (λi E=>K<|.x i E) (λE=>K<|.r E) E w
 | .skip,E,w=>DW.pt (x:=Jl.n E)
 | .region id ops d,E,w=>by
  unfold AD;cases d with
  | false=>exact DW.map (g:=Jl.n) (Aev H)
  | true=>
   refine DW.cndW (w:=w) ?_ DW.no;exact λK ⟨S,l,q⟩=>by
    obtain⟨C,w',p,u⟩:=L9 H _ q;exact⟨.n C,w',p,λe s=>⟨S,l,u (λE=>e<|.n E) s⟩⟩
 | .seq a b,E,w=>by
  intro K h;unfold AD at h;let y:(Jl->WP)->Jl->WP:=λK o=>match o with
   | .n E=>(match Ih kp.live (Pj b) with
    | some ks=>@AD (extOf C1) P kp AU b (λE=>K<|.n E) (λi E=>K<|.x i E) (λE=>K<|.r E) (clean ks 0 E)
    | none=>@AD (extOf C1) P kp AU b (λE=>K<|.n E) (λi E=>K<|.x i E) (λE=>K<|.r E) E)
   | .x i E=>K (.x i E)
   | .r E=>K (.r E)
  let F2:(Jl->WP)->Jl->WP:=λK o=>match o with
   | .n E=>(match Ih kp.live (Pj b) with
    | some ks=>@AD (extOf C2) P kp AU b (λE=>K<|.n E) (λi E=>K<|.x i E) (λE=>K<|.r E) (clean ks 0 E)
    | none=>@AD (extOf C2) P kp AU b (λE=>K<|.n E) (λi E=>K<|.x i E) (λE=>K<|.r E) E)
   | .x i E=>K (.x i E)
   | .r E=>K (.r E)
  obtain⟨o,w',l,q⟩:=Hd H (c:=a) (y K) h;have p:∃j f,K j f/\∀e:Jl->WP,e j f->F2 e o w':=by
   cases o with
   | n E=>
    dsimp only[y,F2] at l ⊢;cases A:Ih kp.live (Pj b) with
    | some ks=>simp only[A] at l ⊢;exact Hd H (c:=b) K l
    | none=>simp only[A] at l ⊢;exact Hd H (c:=b) K l
   | x i E=>exact⟨_,_,l,λ_ h=>h⟩
   | r E=>exact⟨_,_,l,λ_ h=>h⟩
  obtain⟨j,f,u,z⟩:=p;refine⟨j,f,u,λe s=>?_⟩;unfold AD;exact q (F2 e) (z e s)
 | .cond c a b,E,w=>by
  unfold AD;cases ev E c <;> try exact DW.no
  rename_i t;cases t
  ·exact Hd H (c:=b)
  ·exact Hd H (c:=a)
 | .block id b,E,w=>by
  intro K h;unfold AD at h;let F:(Jl->WP)->Jl->WP:=λK o=>match o with
   | .n E=>K (.n E)
   | .x i E=>(match beq i id with
    | true=>K (.n E)
    | false=>K<|.x i E)
   | .r E=>K (.r E)
  obtain⟨o,w',l,q⟩:=Hd H (c:=b) (F K) h;have p:∃j,∀e:Jl->WP,e j w'=F e o w':=by
   cases o with
   | n E=>exact⟨.n E,λ_=>rfl⟩
   | x i E=>
    cases B:beq i id with
    | true=>exact⟨.n E,λe=>by simp only[F,B]⟩
    | false=>exact⟨.x i E,λe=>by simp only[F,B]⟩
   | r E=>exact⟨.r E,λ_=>rfl⟩
  obtain⟨j,p⟩:=p;refine⟨j,w',by rw[p K];exact l,λe s=>?_⟩
  unfold AD;exact q (F e) (by rw[<- p e];exact s)
 | .loop b,E,w=>by
  intro K h;unfold AD at h;obtain⟨m,h⟩:=h;have v:∀(m:Nat)(E:Dy)(w:World),Hr (λk E=>@AD (extOf C1) P kp AU b k (λi E=>K<|.x i E) (λE=>K<|.r E) E) (cleanAt kp<|Jh b) m E w ->
    ∃j w',K j w'/\∀e:Jl->WP,e j w'->Hr (λk E=>@AD (extOf C2) P kp AU b k (λi E=>e<|.x i E) (λE=>e<|.r E) E) (cleanAt kp<|Jh b) m E w:=by
   intro m
   induction m with
   | zero=>exact λE w h=>h.elim
   | succ m D=>
    intro E w h;let y:(Jl->WP)->Jl->WP:=λK o=>match o with
     | .n E=>Hr (λk E=>@AD (extOf C1) P kp AU b k (λi E=>K<|.x i E) (λE=>K<|.r E) E) (cleanAt kp<|Jh b) m (cleanAt kp (Jh b) E)
     | .x i E=>K (.x i E)
     | .r E=>K (.r E)
    let F2:(Jl->WP)->Jl->WP:=λK o=>match o with
     | .n E=>Hr (λk E=>@AD (extOf C2) P kp AU b k (λi E=>K<|.x i E) (λE=>K<|.r E) E) (cleanAt kp<|Jh b) m (cleanAt kp (Jh b) E)
     | .x i E=>K (.x i E)
     | .r E=>K (.r E)
    obtain⟨o,w',l,q⟩:=Hd H (c:=b) (y K) h;have p:∃j f,K j f/\∀e:Jl->WP,e j f->F2 e o w':=by
     cases o with
     | n E=>exact D _ _ l
     | x i E=>exact⟨_,_,l,λ_ h=>h⟩
     | r E=>exact⟨_,_,l,λ_ h=>h⟩
    obtain⟨j,f,u,z⟩:=p;exact⟨j,f,u,λe s=>q (F2 e)<|z e s⟩
  obtain⟨j,w',l,q⟩:=v m _ w h;refine⟨j,w',l,λe s=>?_⟩;unfold AD;exact⟨m,q e s⟩
 | .exit id,E,w=>DW.pt (x:=Jl.x id E)
 | .ret,E,w=>DW.pt (x:=Jl.r E)
 | .rangeFunc _ _ _ _,E,w=>by unfold AD;exact DW.no
 | .scope _,E,w=>by unfold AD;exact DW.no
 | .label _,E,w=>by unfold AD;exact DW.no
 | .goto _,E,w=>by unfold AD;exact DW.no
 | .refuse _,E,w=>by unfold AD;exact DW.no
theorem WF:∀{rs:List ResultVar}{b:Dy}{w:World},DW (λK=>Iq P rs b K w) λK=>Iq P rs b K w
 | [],_,_=>DW.pt
 | .tmp t::l,b,w=>by
  unfold Iq;exact DW.cndW (w:=w) DW.no (DW.cndW (w:=w) DW.no<|DW.map (g:=λvs=>gt b t::vs) WF)
 | .cell a t::l,b,w=>by
  unfold Iq;exact DW.bind (F:=λK=>GN P t (gt b a) K w) (F2:=λv K=>cond (DS v) Cv<|Iq P l b λvs=>K (v::vs)) (G2:=λv K=>cond (DS v) Cv<|Iq P l b λvs=>K (v::vs)) Ah6 λv w'=>DW.cndW (w:=w') DW.no (DW.map (g:=λvs=>v::vs) WF)
theorem Apy{rs:List ResultVar}:DW (λK=>P7 P rs ρ K w) λK=>P7 P rs ρ K w:=λK h=>by
 obtain⟨vs,w',c,d⟩:=WF _ h
 match vs with
 | [v]=>exact⟨v,w',c,λa b=>d (λvs=>match vs with|[v]=>a v|vs=>a<|.tuple vs.toArray) b⟩
 | []=>exact⟨_,w',c,λa b=>d (λvs=>match vs with|[v]=>a v|vs=>a<|.tuple vs.toArray) b⟩
 | _::_::_=>exact⟨_,w',c,λa b=>d (λvs=>match vs with|[v]=>a v|vs=>a<|.tuple vs.toArray) b⟩
theorem Apu(H:CLe C1 C2){kp:KP}{b:Func}{args:List Value}:DW (λQ=>@Aw (extOf C1) AU P kp b args Q w) λQ=>@Aw (extOf C2) AU P kp b args Q w:=λQ h=>by
 unfold Aw at h;let F:(VW)->Jl->WP:=λQ o=>match o with
  | .n m=>P7 P b.results.toList m Q
  | .x _ _=>Cv
  | .r m=>P7 P b.results.toList m Q
 obtain⟨o,w',e,f⟩:=Hd H (c:=AC b) (F Q) h;have g:∃v a,Q v a/\∀d:VW,d v a->F d o w':=by
  cases o with
  | n m=>exact Apy Q e
  | x i m=>exact e.elim
  | r m=>exact Apy Q e
 obtain⟨v,a,j,k⟩:=g;exact⟨v,a,j,λd l=>f (F d)<|k d l⟩
end
end Go.Hb
namespace Go.Hb
structure VP where
 ok:Program->FuncId->KP->Func->List Value->Prop
 pr:CI
structure PD(V:VP)(C:CI):Prop where
 mono:∀P f a w (R R':Ending->World->Prop),(∀e w',R e w'->R' e w')->C P f a w R->C P f a w R'
 body:∀P f kp fn args w (Q:VW),V.ok P f kp fn args -> @Aw (extOf C) AU P kp fn args Q w->C P f args.toArray w λe w'=>∃v,e = .returned v/\Q v w'
 prim:∀P f a w R,V.pr P f a w R->C P f a w R
def Ge(V:VP):CI:=λP f a w R=>∀C,PD V C->C P f a w R
section
variable{V:VP}(hp:CLe V.pr V.pr)
include hp
theorem Ua{C:CI}(g:PD V C):CLe (Ge V) C:=λP f a w R h=>by
 refine h (λP f a w R=>∃e w',R e w'/\∀b:Ending->World->Prop,b e w'->C P f a w b) ⟨?_,?_,?_⟩
 ·exact λP f a w R b hR ⟨e,w',c,d⟩=>⟨e,w',hR _ _ c,d⟩
 ·intro P f kp p args w Q l h;obtain⟨v,w',c,d⟩:=Apu (C2:=C) (λ_ _ _ _ _ h=>h) Q h;refine⟨_,w',⟨v,rfl,c⟩,λb i=>?_⟩;exact g.mono _ _ _ _ _ _ (λe j ⟨k,m,n,o⟩=>by subst m n o;exact i) (g.body _ _ _ _ _ _ _ l<|d (λk j=>k=v/\j=w') ⟨rfl,rfl⟩)
 ·intro P f a w R h;obtain⟨e,w',c,d⟩:=hp _ _ _ _ _ h;exact⟨e,w',c,λb i=>g.prim _ _ _ _ _<|d b i⟩
theorem EZ{P:Program}{f:FuncId}{kp:KP}{a:Func}{args:List Value}{w:World}{Q:VW}(c:V.ok P f kp a args)(h:@Aw (extOf<|Ge V) AU P kp a args Q w) :
  Ge V P f args.toArray w λe w'=>∃v,e = .returned v/\Q v w':=λC b=>by
 obtain⟨v,w',d,g⟩:=Apu (Ua hp b) Q h;exact b.body _ _ _ _ _ _ _ c (g Q d)
end
theorem Ge.mono{V:VP}{P:Program}{f:FuncId}{a:Array Value}{w:World}{R b:Ending->World->Prop}(h:Ge V P f a w R)(hR:∀e w',R e w'->b e w'):Ge V P f a w b:=λC c=>c.mono _ _ _ _ _ _ hR (h C c)
theorem TC{V:VP}(b:CLe V.pr V.pr):PD V (Ge V) where
 mono _ _ _ _ _ _ hR h:=Ge.mono h hR
 body _ _ _ _ _ _ _ ho h:=EZ b ho h
 prim P f a w R h:=λC c=>c.prim P f a w R h
theorem Ri{V:VP}(b:CLe V.pr V.pr){P:Program}{f:FuncId}{a:Array Value}{w:World}{R:Ending->World->Prop}(h:Ge V P f a w R) :
  ∃e w',R e w'/\∀c:Ending->World->Prop,c e w'->Ge V P f a w c:=Ua b (TC b) P f a w R h
end Go.Hb
namespace Go.Hb
structure Mp where
 f:Nat->Option Nat
 g:Nat->Option (Nat×Nat×Nat)
def Mp.le(m a:Mp):Prop:=∀b x,m.f b=some x->a.f b=some x/\a.g b=m.g b
theorem Mp.le.refl(m:Mp):m.le m:=λ_ _ h=>⟨h,rfl⟩
theorem Mp.le.trans{m m1 m2:Mp}(h:m.le m1)(a:m1.le m2):m.le m2:=λb x c=>by
 obtain⟨d,e⟩:=h b x c;obtain⟨f,g⟩:=a b x d;exact⟨f,g.trans e⟩
def Cq:Value->Bool
 | .bool _=>true
 | .int _ _=>true
 | .float _ _=>true
 | .complex _ _ _=>true
 | .string _=>true
 | .pointer none=>true
 | .slice none _ _=>true
 | .chan none=>true
 | .map none=>true
 | .nilFunc=>true
 | .nilIface=>true
 | .func (.func _) first cap=>first.size==0 && cap.size==0
 | _=>false
def Pf(m:Mp)(b o c:Nat):Option Nat:=match m.g b with
 | none=>some c
 | some (cv,cr,_)=>if c=cv/\o=0 then some cr else none
inductive VF (m:Mp):Value->Value->Prop
 | atom {v} (h:Cq v=true):VF m v v
 | ptr {b o b'} (h:m.f b=some b'):VF m (.pointer (some ⟨b,o,none⟩)) (.pointer (some ⟨b',o,none⟩))
 | slc {b o n c b' c'} (h:m.f b=some b') (hc:Pf m b o c=some c'):VF m (.slice (some ⟨b,o,none⟩) n c) (.slice (some ⟨b',o,none⟩) n c')
 | chn {b b'} (h:m.f b=some b'):VF m (.chan (some b)) (.chan (some b'))
 | ifa {t v} (h:Cq v=true):VF m (.iface t v) (.iface t v)
 | ifp {t b o b'} (h:m.f b=some b'):VF m (.iface t (.pointer (some ⟨b,o,none⟩))) (.iface t (.pointer (some ⟨b',o,none⟩)))
inductive AT {α β:Type} (R:α->β->Prop):List α->List β->Prop
 | nil:AT R [] []
 | cons {a b l l'} (h:R a b) (t:AT R l l'):AT R (a::l) (b::l')
inductive VG (m:Mp):Value->Value->Prop
 | flat {v v'} (h:VF m v v'):VG m v v'
 | agg {cs cs':Array Value} (h:AT (VF m) cs.toList cs'.toList):VG m (.agg cs) (.agg cs')
inductive VR (m:Mp):Value->Value->Prop
 | one {v v'} (h:VG m v v'):VR m v v'
 | tup {vs vs':Array Value} (h:AT (VG m) vs.toList vs'.toList):VR m (.tuple vs) (.tuple vs')
section
variable{m m':Mp}{v r r':Value}
theorem VF.up(h:VF m v r)(a:m.le m'):VF m' v r:=by
 cases h with
 | atom h=>exact .atom h
 | ptr h=>exact .ptr (a _ _ h).1
 | slc h hc=>
  refine .slc (a _ _ h).1 ?_;unfold Pf at hc ⊢;rw[(a _ _ h).2];exact hc
 | chn h=>exact .chn (a _ _ h).1
 | ifa h=>exact .ifa h
 | ifp h=>exact .ifp (a _ _ h).1
theorem AT.imp{f g:Type}{R S:f->g->Prop}{l:List f}{c:List g}(d:∀a b,R a b->S a b)(h:AT R l c):AT S l c:=by
 induction h with
 | nil=>exact .nil
 | cons h _ e=>exact .cons (d _ _ h) e
theorem VG.up(h:VG m v r)(a:m.le m'):VG m' v r:=by
 cases h with
 | flat h=>exact .flat (h.up a)
 | agg h=>exact .agg (AT.imp (λ_ _ h=>h.up a) h)
theorem VR.up(h:VR m v r)(a:m.le m'):VR m' v r:=by
 cases h with
 | one h=>exact .one (h.up a)
 | tup h=>exact .tup (AT.imp (λ_ _ h=>h.up a) h)
theorem VF.fn(h:VF m v r)(b:VF m v r'):r=r':=by
 cases h with
 | atom h=>
  cases b with
  | atom _=>rfl
  | _=>simp[Cq] at h
 | ptr h=>
  cases b with
  | atom a=>simp[Cq] at a
  | ptr a=>rw[h] at a;cases a;rfl
 | slc h hc=>
  cases b with
  | atom a=>simp[Cq] at a
  | slc a c=>rw[h] at a;cases a;rw[hc] at c;cases c;rfl
 | chn h=>
  cases b with
  | atom a=>simp[Cq] at a
  | chn a=>rw[h] at a;cases a;rfl
 | ifa h=>
  cases b with
  | atom a=>rfl
  | ifa _=>rfl
  | ifp _=>simp[Cq] at h
 | ifp h=>
  cases b with
  | atom a=>simp[Cq] at a
  | ifa a=>simp[Cq] at a
  | ifp a=>rw[h] at a;cases a;rfl
theorem VF.isU(h:VF m v r):isU r=isU v:=by cases h <;> rfl
theorem VG.isU(h:VG m v r):isU r=isU v:=by
 cases h with
 | flat h=>exact h.isU
 | agg _=>rfl
theorem VR.isU(h:VR m v r):isU r=isU v:=by
 cases h with
 | one h=>exact h.isU
 | tup _=>rfl
theorem VR.atom(h:VR m v r)(a:Cq v=true):r=v:=by
 cases h with
 | one h=>
  cases h with
  | flat h=>exact(h.fn<|.atom a)
  | agg _=>simp[Cq] at a
 | tup _=>simp[Cq] at a
theorem VR.int{k:IntKind}{n:Int}(h:VR m (.int k n) r):r = .int k n:=h.atom rfl
theorem VR.boolV{b:Bool}(h:VR m (.bool b) r):r = .bool b:=h.atom rfl
theorem VR.str{s:BA}(h:VR m (.string s) r):r = .string s:=h.atom rfl
theorem VR.ofAtom(a:Cq v=true):VR m v v:=.one (.flat<|.atom a)
end
abbrev ER(m:Mp)(b a:Dy):Prop:=AT (VR m) b a
theorem Iw{m:Mp}:VR m undef undef:=.tup .nil
theorem Tu:Cq unk=true:=rfl
section
variable{m m':Mp}{ρ ρr:Dy}
theorem ER.up(h:ER m ρ ρr)(a:m.le m'):ER m' ρ ρr:=AT.imp (λ_ _ h=>h.up a) h
theorem ER.gt(h:ER m ρ ρr):∀t,VR m (gt ρ t) (gt ρr t):=by
 induction h with
 | nil=>exact λt=>VR.ofAtom Tu
 | cons h _ a=>
  intro t;cases t with
  | zero=>exact h
  | succ t=>exact a t
theorem ER.pt{v r:Value}(h:ER m ρ ρr)(a:VR m v r):∀t,ER m (pt ρ t v) (pt ρr t r):=by
 induction h with
 | nil=>exact λt=>by cases t <;> exact .nil
 | cons h b c=>
  intro t;cases t with
  | zero=>exact .cons a b
  | succ t=>exact .cons h (c t)
theorem ER.ptO{v r:Value}(h:ER m ρ ρr)(a:VR m v r)(t:Option Nat):ER m (ptO ρ t v) (ptO ρr t r):=by
 cases t with
 | none=>exact h
 | some t=>exact h.pt a t
theorem ER.clean(h:ER m ρ ρr):∀(ks:List Nat)(i:Nat),ER m (clean ks i ρ) (clean ks i ρr):=by
 induction h with
 | nil=>exact λks i=>by cases ks <;> exact .nil
 | @cons v r ρ ρr h h2 ih=>
  intro ks i;cases ks with
  | nil=>exact .cons (VR.ofAtom Tu) (ih [] (i+1))
  | cons k ks=>
   unfold Go.Hb.clean;cases beq k i with
   | true=>exact .cons h (ih ks (i+1))
   | false=>exact .cons (VR.ofAtom Tu) (ih (k::ks) (i+1))
def Cp:Operand->Bool
 | .tmp _=>true
 | .const v=>Cq v
 | .global _=>false
 | .func _=>true
theorem ER.ev(h:ER m ρ ρr){x:Operand}(a:Cp x=true):VR m (ev ρ x) (ev ρr x):=by
 cases x with
 | tmp t=>exact h.gt t
 | const v=>exact VR.ofAtom a
 | global g=>simp[Cp] at a
 | func f=>exact VR.ofAtom rfl
end
def Ph(fr:Nat×Nat)(i:Nat):Bool:=decide (fr.1<=i) && decide (i<fr.2)
def live:Obj->Bool
 | .cells _ _ _=>true
 | .chan _ _ _ _ _ _=>true
 | _=>false
def Aji:Obj->Prop
 | .cells cs _ fr=>∃i,i<cs.size/\Ph fr i=false
 | .chan _ _ _ _ _ _=>True
 | _=>False
abbrev VU(m:Mp)(v r:Value):Prop:=isU v=true\/VF m v r
inductive OR (m:Mp) (b:Nat):Obj->Obj->Prop
 | cells {cs cs':Array Value} {T T':TypeId} {fr fr':Nat×Nat} (hs:cs.size<=cs'.size) (hv:∀(i:Nat) v,cs[i]? = some v->∃v',cs'[i]? = some v'/\VU m v v')
   (hf:∀i,i<cs.size->Ph fr i=false->Ph fr' i=false)
   (hg:∀cv cr e,m.g b=some (cv,cr,e)->cs.size=cv*e/\cr*e<=cs'.size/\cv<=cr/\0<cv/\∀i,i<cs'.size->Ph fr' i=false) (he:m.g b=none->cs'.size=cs.size):OR m b (.cells cs T fr) (.cells cs' T' fr')
 | chan {cap s r:Nat} {buf buf':Array Value} {cl tm:Bool} (h:AT (VG m) buf.toList buf'.toList):OR m b (.chan cap buf cl s r tm) (.chan cap buf' cl s r tm)
structure Sm(m:Mp)(wv wr:World):Prop where
 dom:∀b,b<wv.heap.size↔(m.f b).isSome=true
 gdom:∀b,(m.g b).isSome=true->b<wv.heap.size
 rng:∀b b',m.f b=some b'->b'<wr.heap.size
 obj:∀b o,wv.heap[b]? = some o->live o=true->∃b' o',m.f b=some b'/\wr.heap[b']? = some o'/\OR m b o o'
 gl:∀b cv cr e,m.g b=some (cv,cr,e)->cv<=cr
 inj:∀b1 b2 b' o1 o2,wv.heap[b1]? = some o1->live o1=true->wv.heap[b2]? = some o2->live o2=true->m.f b1=some b'->m.f b2=some b'->b1=b2
def Wt(m:Mp)(wv:World)(b':Nat):Prop:=∃b o,wv.heap[b]? = some o/\Aji o/\m.f b=some b'
structure St(m:Mp)(wv wr:World)(m':Mp)(wv' wr':World):Prop where
 le:m.le m'
 big:wr.heap.size<=wr'.heap.size
 frame:∀b',b'<wr.heap.size->¬Wt m wv b'->wr'.heap[b']? = wr.heap[b']?
 grow:∀b',Wt m' wv' b'->Wt m wv b'\/wr.heap.size<=b'
 new:∀b b',m'.f b=some b'->m.f b=some b'\/Wt m wv b'\/wr.heap.size<=b'
 env:wr'.os=wr.os/\wr'.output=wr.output
section
variable{m m1 m2:Mp}{wv wr wv1 wr1 wv2 wr2:World}
theorem St.refl:St m wv wr m wv wr:=⟨.refl m,le_refl _,λ_ _ _=>rfl,λ_ h=>.inl h,λ_ _ h=>.inl h,rfl,rfl⟩
theorem St.trans(h:St m wv wr m1 wv1 wr1)(c:St m1 wv1 wr1 m2 wv2 wr2):St m wv wr m2 wv2 wr2 where
 le:=h.le.trans c.le
 big:=le_trans h.big c.big
 env:=⟨c.env.1.trans h.env.1,c.env.2.trans h.env.2⟩
 frame b' hb hn:=by
  rw[c.frame b' (lt_of_lt_of_le hb h.big)<|λd=>by rcases h.grow b' d with a|a;exact hn a;omega,h.frame b' hb hn]
 grow b' d:=by
  rcases c.grow b' d with a|a
  ·exact h.grow b' a
  ·exact .inr (le_trans h.big a)
 new b b' hf:=by
  rcases c.new b b' hf with a|a|a
  ·exact h.new b b' a
  ·rcases h.grow b' a with e|e
   ·exact .inr (.inl e)
   ·exact .inr (.inr e)
  ·exact .inr (.inr<|le_trans h.big a)
theorem HU{w:World}{b o:Nat}{v:Value}(h:w.cell? ⟨b,o,none⟩=some v):∃cs T fr,w.heap[b]? = some (.cells cs T fr)/\cs[o]? = some v:=by
 unfold World.cell? at h;split at h
 ·rename_i c T fr hc;exact⟨c,T,fr,hc,by simpa using h⟩
 ·cases h
theorem EE{w:World}{b o:Nat}{cs:Array Value}{T:TypeId}{fr:Nat×Nat}(h:w.heap[b]? = some (.cells cs T fr)):w.cell? ⟨b,o,none⟩=cs[o]?:=by
 unfold World.cell?;rw[h];simp
theorem Sm.cellU(hs:Sm m wv wr){b o:Nat}{v:Value}(h:wv.cell? ⟨b,o,none⟩=some v):∃b' a,m.f b=some b'/\wr.cell? ⟨b',o,none⟩=some a/\VU m v a:=by
 obtain⟨cs,T,fr,c,d⟩:=HU h;obtain⟨b',n,e,g,i⟩:=hs.obj b _ c rfl;cases i with
 | cells _ j _ _ _=>
  obtain⟨a,k,l⟩:=j _ _ d;exact⟨b',a,e,by rw[EE g];exact k,l⟩
theorem Sm.cell(hs:Sm m wv wr){b o:Nat}{v:Value}(h:wv.cell? ⟨b,o,none⟩=some v)(c:isU v=false):∃b' a,m.f b=some b'/\wr.cell? ⟨b',o,none⟩=some a/\VF m v a:=by
 obtain⟨b',a,d,g,i⟩:=hs.cellU h;refine⟨b',a,d,g,i.resolve_left λe=>?_⟩;rw[c] at e;cases e
theorem Sm.cellAtU(hs:Sm m wv wr){b o b':Nat}{v:Value}(h:wv.cell? ⟨b,o,none⟩=some v)(d:m.f b=some b'):∃a,wr.cell? ⟨b',o,none⟩=some a/\VU m v a:=by
 obtain⟨b2,a,c,e,g⟩:=hs.cellU h;rw[d] at c;cases c
 exact⟨a,e,g⟩
theorem Sm.cellAt(hs:Sm m wv wr){b o b':Nat}{v:Value}(h:wv.cell? ⟨b,o,none⟩=some v)(d:m.f b=some b')(e:isU v=false:=by rfl):∃a,wr.cell? ⟨b',o,none⟩=some a/\VF m v a:=by
 obtain⟨b2,a,c,g,i⟩:=hs.cell h e;rw[d] at c;cases c
 exact⟨a,g,i⟩
theorem Sm.drew(hs:Sm m wv wr):Sm m wv.drew wr.drew:=⟨hs.dom,hs.gdom,hs.rng,hs.obj,hs.gl,hs.inj⟩
theorem St.drew:St m wv wr m wv.drew wr.drew:=⟨.refl m,le_refl _,λ_ _ _=>rfl,λ_ h=>.inl h,λ_ _ h=>.inl h,rfl,rfl⟩
end
end Go.Hb
namespace Go.Hb
def GL(m:Mp):Prop:=∀b cv cr e,m.g b=some (cv,cr,e)->cv<=cr
def SP(m:Mp)(F b:(Value->Prop)->Prop):Prop:=∀K a:Value->Prop,F K->(∀v r,K v->VR m v r->a r)->b a
section
variable{m:Mp}
theorem SP.pt{v r:Value}(h:VR m v r):SP m (λK=>K v) λK=>K r:=λ_ _ a b=>b _ _ a h
theorem SP.at{v:Value}(h:Cq v=true):SP m (λK=>K v) λK=>K v:=SP.pt (VR.ofAtom h)
theorem SP.no{G:(Value->Prop)->Prop}:SP m (λ_=>False) G:=λ_ _ h=>h.elim
theorem SP.and{c a:Prop}{F G:(Value->Prop)->Prop}(hc:c->a)(h:SP m F G):SP m (λK=>c/\F K) λK=>a/\G K:=λK d b e=>⟨hc b.1,h K d b.2 e⟩
theorem SP.cnd{b:Bool}{F a G c:(Value->Prop)->Prop}(h:SP m F G)(d:SP m a c):SP m (λK=>cond b (F K)<|a K) λK=>cond b (G K) (c K):=by
 cases b
 ·exact d
 ·exact h
theorem SP.all{F:(Value->Prop)->Prop}(h:DP F)(b:∀K:Value->Prop,F K->F λv=>K v/\Cq v=true):SP m F F:=λK c d e=>by
 obtain⟨v,a,f⟩:=h _ (b K d);exact f c (e _ _ a.1<|VR.ofAtom a.2)
theorem Bbz{op:BinOp}{b:Bool}{K:Value->Prop}(h:eqI op b K):eqI op b λv=>K v/\Cq v=true:=by cases op <;> first|exact⟨h,rfl⟩|exact h
theorem A7t{op:BinOp}{k:IntKind}{a b:Int}{K:Value->Prop}(h:Ab6 op k a b K):Ab6 op k a b λv=>K v/\Cq v=true:=by
 cases op <;> first|exact⟨h,rfl⟩|exact⟨h.1,h.2,rfl⟩|exact h
theorem A7u{op:BinOp}{a b:BA}{K:Value->Prop}(h:Ahd op a b K):Ahd op a b λv=>K v/\Cq v=true:=by
 cases op <;> first|exact⟨h,rfl⟩|exact⟨h.1,h.2,rfl⟩|exact h
theorem JP{op:BinOp}{b:Bool}:SP m (eqI op b) (eqI op b):=SP.all Rm λ_=>Bbz
theorem Bay{op:BinOp}{k:IntKind}{a b:Int}:SP m (Ab6 op k a b) (Ab6 op k a b):=SP.all Apl λ_=>A7t
theorem Ba3{op:BinOp}{a b:BA}:SP m (Ahd op a b) (Ahd op a b):=SP.all App λ_=>A7u
theorem VF.int{k:IntKind}{n:Int}{r:Value}(h:VF m (.int k n) r):r = .int k n:=(VR.one<|.flat h).int
theorem AT.get{f g:Type}{R:f->g->Prop}{l:List f}{d:List g}(h:AT R l d):∀{i:Nat}{a:f},l[i]? = some a->∃b,d[i]? = some b/\R a b:=by
 induction h with
 | nil=>intro i a c;simp at c
 | cons h _ e=>
  intro i a c;cases i with
  | zero=>simp at c;subst c;exact⟨_,by simp,h⟩
  | succ i=>simpa using e (by simpa using c)
theorem AT.len{c d:Type}{R:c->d->Prop}{l:List c}{a:List d}(h:AT R l a):a.length=l.length:=by
 induction h with
 | nil=>rfl
 | cons _ _ b=>simp[b]
theorem AT.drop{d e:Type}{R:d->e->Prop}{l:List d}{a:List e}(h:AT R l a):∀n,AT R (l.drop n) (a.drop n):=by
 induction h with
 | nil=>intro n;simp;exact .nil
 | cons h b c=>
  intro n;cases n with
  | zero=>exact .cons h b
  | succ n=>simpa using c n
theorem AT.take{d e:Type}{R:d->e->Prop}{l:List d}{a:List e}(h:AT R l a):∀n,AT R (l.take n) (a.take n):=by
 induction h with
 | nil=>intro n;simp;exact .nil
 | cons h c b=>
  intro n;cases n with
  | zero=>exact .nil
  | succ n=>simpa using AT.cons h (b n)
theorem AT.app{g i:Type}{R:g->i->Prop}{c:List g}{a:List i}(h:AT R c a){d:List g}{b:List i}(e:AT R d b):AT R (c++d) (a++b):=by
 induction h with
 | nil=>exact e
 | cons h _ f=>exact .cons h f
theorem Adh{k:IntKind}:∀{xs ys d c:List Value}{K:Bool->Prop},AT (VF m) xs d->AT (VF m) ys c->HC k xs ys K->HC k d c K
 | [],[],_,_,K,.nil,.nil,h=>h
 | [],_::_,_,_,K,.nil,.cons _ _,h=>h.elim
 | x::xs,ys,_,c,K,.cons (b:=o) i e,f,h=>by
  unfold HC at h ⊢;split at h
  ·rename_i j a;rw[i.int];dsimp only;split at h
   ·rename_i y l;cases f with
    | cons f g=>
     split at h
     ·rename_i n b;rw[f.int];dsimp only;cases hc:(Nb k j && Nb k n) with
      | false=>rw[hc] at h;exact h.elim
      | true=>rw[hc] at h;exact Adh (K:=λr=>K<|(a==b) && r) e g h
     ·exact h.elim
   ·exact h.elim
  ·exact h.elim
theorem Ab1{P:Program}{xs ys c d:List Value}(l:AT (VF m) xs c)(n:AT (VF m) ys d):∀{fs:List Field}{K:Bool->Prop},HB P xs ys fs K->HB P c d fs K
 | [],K,h=>h
 | f::fs,K,h=>by
  unfold HB at h ⊢;split at h
  ·rename_i k t;split at h
   ·rename_i o a p;split at h
    ·rename_i q b s;obtain ⟨u,e,g⟩:=l.get p;obtain ⟨y',i,j⟩:=n.get s;rw [e,i,g.int,j.int];dsimp only;cases hc : (Nb k o && Nb k q && !(f.name == "_")) with
     | false=>rw[hc] at h;exact h.elim
     | true=>rw[hc] at h;exact Ab1 l n (K:=λr=>K ((a==b) && r)) h
    ·exact h.elim
   ·exact h.elim
  ·exact h.elim
theorem VR.agg{cs:Array Value}{r:Value}(h:VR m (.agg cs) r):∃a:Array Value,r = .agg a/\AT (VF m) cs.toList a.toList:=by
 cases h with
 | one h=>
  cases h with
  | flat h=>cases h with|atom h=>simp[Cq] at h
  | agg h=>exact⟨_,rfl,h⟩
theorem VR.tuple{vs:Array Value}{r:Value}(h:VR m (.tuple vs) r):∃a:Array Value,r = .tuple a/\AT (VG m) vs.toList a.toList:=by
 cases h with
 | one h=>
  cases h with
  | flat h=>cases h with|atom h=>simp[Cq] at h
 | tup h=>exact⟨_,rfl,h⟩
theorem VF.ptrI{p:OA}{r:Value}(h:VF m (.pointer p) r):(p=none/\r = .pointer none)\/∃b o b',p=some ⟨b,o,none⟩/\m.f b=some b'/\r = .pointer (some ⟨b',o,none⟩):=by
 cases h with
 | atom h=>cases p with
  | none=>exact .inl ⟨rfl,rfl⟩
  | some _=>simp[Cq] at h
 | ptr h=>exact .inr ⟨_,_,_,rfl,h,rfl⟩
theorem VR.flat{v r:Value}(h:VR m v r)(a:∀cs,v ≠ .agg cs)(b:∀cs,v ≠ .tuple cs):VF m v r:=by
 cases h with
 | one h=>
  cases h with
  | flat h=>exact h
  | agg _=>exact absurd rfl (a _)
 | tup _=>exact absurd rfl (b _)
theorem VR.ptr{p:OA}{r:Value}(h:VR m (.pointer p) r):(p=none/\r = .pointer none)\/∃b o b',p=some ⟨b,o,none⟩/\m.f b=some b'/\r = .pointer (some ⟨b',o,none⟩):=(h.flat (by simp)<|by simp).ptrI
theorem VF.slcI{a:OA}{n c:Nat}{r:Value}(h:VF m (.slice a n c) r):(a=none/\r = .slice none n c)\/∃b o b' d,a=some ⟨b,o,none⟩/\m.f b=some b'/\Pf m b o c=some d/\r = .slice (some ⟨b',o,none⟩) n d:=by
 cases h with
 | atom h=>cases a with
  | none=>exact .inl ⟨rfl,rfl⟩
  | some _=>simp[Cq] at h
 | slc h hc=>exact .inr ⟨_,_,_,_,rfl,h,hc,rfl⟩
theorem VR.slice{a:OA}{n c:Nat}{r:Value}(h:VR m (.slice a n c) r):(a=none/\r = .slice none n c)\/∃b o b' d,a=some ⟨b,o,none⟩/\m.f b=some b'/\Pf m b o c=some d/\r = .slice (some ⟨b',o,none⟩) n d:=(h.flat (by simp)<|by simp).slcI
theorem Axb{P:Program}{op:BinOp}{t:TypeId}{u v ur vr:Value}(hu:VR m u ur)(hv:VR m v vr):SP m (Rg P op t u v) (Rg P op t ur vr):=by
 unfold Rg;cases u <;> try exact SP.no
 case agg xs=>
  obtain⟨xs',rfl,hx⟩:=hu.agg;cases v <;> try exact SP.no
  rename_i ys;obtain⟨ys',rfl,hy⟩:=hv.agg;dsimp only;cases P.underlying t with
  | none=>exact SP.no
  | some x=>
   cases x <;> try exact SP.no
   case array n e=>
    dsimp only;cases P.underlying e with
    | none=>exact SP.no
    | some x=>
     cases x <;> try exact SP.no
     rw[hx.len];refine SP.cnd ?_ SP.no;refine λK Kr hk h'=>?_;obtain⟨b,h1,h2⟩:=Aer _ hk;exact Adh hx hy (h2 (λb=>eqI op b Kr) (JP K Kr h1 h'))
   case struct fs=>
    refine SP.cnd SP.no λK Kr hk h'=>?_;obtain⟨b,h1,h2⟩:=Aeq _ hk;exact Ab1 hx hy (h2 (λb=>eqI op b Kr) (JP K Kr h1 h'))
 case int k a=>
  obtain rfl:=hu.int;cases v <;> try exact SP.no
  obtain rfl:=hv.int;cases op <;> first|exact SP.and id (SP.at rfl)|exact SP.cnd Bay SP.no
 case string a=>
  obtain rfl:=hu.str;cases v <;> try exact SP.no
  obtain rfl:=hv.str;exact Ba3
 case pointer a=>
  cases v <;> try exact SP.no
  rename_i p;cases p with
  | some _=>exact SP.no
  | none=>
   obtain rfl:=hv.atom rfl;rcases hu.ptr with⟨rfl,rfl⟩|⟨b,o,b',rfl,_,rfl⟩
   ·exact SP.cnd JP SP.no
   ·exact SP.cnd JP SP.no
 case slice a n c=>
  cases v <;> try exact SP.no
  rename_i p _ _;cases p with
  | some _=>exact SP.no
  | none=>
   obtain rfl:=hv.atom rfl;rcases hu.slice with⟨rfl,rfl⟩|⟨b,o,b',c',rfl,_,_,rfl⟩
   ·exact SP.cnd JP SP.no
   ·exact SP.cnd JP SP.no
 case bool a=>
  obtain rfl:=hu.boolV;cases v <;> try exact SP.no
  obtain rfl:=hv.boolV;exact SP.cnd JP SP.no
theorem VF.ifcI{t:TypeId}{v r:Value}(h:VF m (.iface t v) r):∃a,r = .iface t a/\VF m v a:=by
 cases h with
 | atom h=>simp[Cq] at h
 | ifa h=>exact⟨_,rfl,.atom h⟩
 | ifp h=>exact⟨_,rfl,.ptr h⟩
theorem VR.ifc{t:TypeId}{v r:Value}(h:VR m (.iface t v) r):∃a,r = .iface t a/\VF m v a:=(h.flat (by simp)<|by simp).ifcI
theorem VR.fun{a:Fn}{first cap:Array Value}{r:Value}(h:VR m (.func a first cap) r):r = .func a first cap:=by
 cases h.flat (by simp) (by simp) with
 | atom _=>rfl
theorem Ba2{P:Program}{op:BinOp}{t:TypeId}{u a:Value}(b:VR m u a):SP m (Acx P op t u) (Acx P op t a):=by
 unfold Acx;cases u <;> try exact SP.no
 ·obtain⟨c,rfl,_⟩:=b.ifc;exact SP.cnd JP SP.no
 ·obtain rfl:=b.atom rfl;exact SP.cnd JP SP.no
theorem A53{P:Program}{op:BinOp}{t:TypeId}{u a:Value}(b:VR m u a):SP m (OO P op t u) (OO P op t a):=by
 unfold OO;cases u <;> try exact SP.no
 ·obtain rfl:=b.fun;exact SP.cnd JP SP.no
 ·obtain rfl:=b.atom rfl;exact SP.cnd JP SP.no
theorem Bcv{op:UnOp}{u a:Value}(b:VR m u a):SP m (unI op u) (unI op a):=by
 unfold unI;cases op <;> cases u <;> first
  | exact SP.no
  | (obtain rfl:=b.boolV;exact SP.at rfl)
  | (obtain rfl:=b.int;exact SP.at rfl)
theorem Akj{P:Program}{d:TypeId}{x:Value}:SP m (K7 P d x) (K7 P d x):=by
 unfold K7;cases x <;> try exact SP.no
 case int k n=>
  dsimp only;cases P.underlying d with
  | none=>exact SP.no
  | some u=>cases u <;> first|exact SP.no|exact SP.at rfl
 case string s=>exact SP.cnd (SP.at rfl) SP.no
end
end Go.Hb
namespace Go.Hb
def Awb:Option Operand->Bool
 | none=>true
 | some x=>Cp x
section
variable{m:Mp}{P:Program}{ρ ρr:Dy}
theorem A54(d:ER m ρ ρr){c a b:Operand}(hc:Cp c=true)(e:Cp a=true)(f:Cp b=true):SP m (SC ρ c a b) (SC ρr c a b):=by
 unfold SC;have h:=d.ev hc;generalize ev ρ c=v at h ⊢;cases v <;> try exact SP.no
 rw[h.boolV];rename_i t;cases t
 ·exact SP.pt (d.ev f)
 ·exact SP.pt (d.ev e)
theorem Axf{v r:Value}(h:VR m v r):SP m (JK v) (JK r):=by
 unfold JK;cases v <;> try exact SP.no
 rcases h.ptr with⟨rfl,rfl⟩|⟨b,o,b',rfl,c,rfl⟩
 ·exact λK d ⟨b,o,a,_⟩ _=>by cases a
 ·exact λK d ⟨b2,g,a,e⟩ f=>by cases a;exact⟨_,_,rfl,f _ _ e<|.one<|.flat<|.ptr c⟩
theorem A58{b o c s:Nat}:Jk (some ⟨b,o,none⟩) 0 c s=some ⟨b,o,none⟩:=by
 unfold Jk;split
 ·rfl
 ·simp[Addr.add]
theorem A7f{c s:Nat}:Jk none 0 c s=none:=by
 unfold Jk;split <;> rfl
theorem Ahx(f:GL m){b o c d:Nat}(h:Pf m b o c=some d):c<=d:=by
 unfold Pf at h;split at h
 ·cases h;exact le_refl _
 ·rename_i cv cr e a;split at h
  ·rename_i g;cases h;rw[g.1];exact f _ _ _ _ a
  ·cases h
theorem Axg(j:GL m){t:TypeId}{x xr:Value}{hi d:Option Value}(g:VR m x xr)(f:(hi=none/\d=none)\/∃h r,hi=some h/\d=some r/\VR m h r):SP m (GV P t x none hi none) (GV P t xr none d none):=by
 unfold GV;cases x <;> try exact SP.no
 case string s=>
  obtain rfl:=g.str;refine SP.cnd ?_ SP.no;rcases f with⟨rfl,rfl⟩|⟨h,r,rfl,rfl,e⟩
  ·exact SP.at rfl
  ·dsimp only;unfold hiB;cases h <;> try exact SP.no
   obtain rfl:=e.int;exact SP.and id (SP.at rfl)
 case slice a n c=>
  rcases g.slice with⟨rfl,rfl⟩|⟨b,o,b',l,rfl,i,hc,rfl⟩
  ·dsimp only;cases P.underlying t with
   | none=>exact SP.no
   | some u=>
    cases u <;> try exact SP.no
    refine SP.cnd ?_ SP.no;rcases f with⟨rfl,rfl⟩|⟨h,r,rfl,rfl,e⟩
    ·dsimp only[loB];rw[A7f];exact SP.at rfl
    ·dsimp only[mxB,hiB];cases h <;> try exact SP.no
     obtain rfl:=e.int;dsimp only[loB];rw[A7f];exact SP.and id (SP.at rfl)
  ·have k:=Ahx j hc;dsimp only;cases P.underlying t with
   | none=>exact SP.no
   | some u=>
    cases u <;> try exact SP.no
    refine SP.cnd ?_ SP.no;rcases f with⟨rfl,rfl⟩|⟨h,r,rfl,rfl,e⟩
    ·dsimp only[loB];rw[A58,A58];exact SP.pt (.one<|.flat<|.slc i hc)
    ·dsimp only[mxB,hiB];cases h <;> try exact SP.no
     obtain rfl:=e.int;dsimp only[loB];rw[A58,A58];exact SP.and (λh=>⟨h.1,by omega⟩) (SP.pt<|.one<|.flat<|.slc i hc)
theorem Aob{t:TypeId}{x xr:Value}{lo hi:Option Value}(hs:CD P t=true)(i:VR m x xr){b d:Option Value}(j:(lo=none/\b=none)\/∃h r,lo=some h/\b=some r/\VR m h r)
  (k:(hi=none/\d=none)\/∃h r,hi=some h/\d=some r/\VR m h r):SP m (GV P t x lo hi none) (GV P t xr b d none):=by
 unfold GV;cases x <;> try exact SP.no
 case string s=>
  obtain rfl:=i.str;refine SP.cnd ?_ SP.no;have f:∀h,SP m (λK=>loB lo h λl=>K<|.string<|s.extract l h) λK=>loB b h λl=>K (.string<|s.extract l h):=λh=>by
   rcases j with⟨rfl,rfl⟩|⟨v,r,rfl,rfl,g⟩
   ·exact SP.at rfl
   ·unfold loB;cases v <;> try exact SP.no
    obtain rfl:=g.int;exact SP.and id (SP.at rfl)
  dsimp only;rcases k with⟨rfl,rfl⟩|⟨v,r,rfl,rfl,g⟩
  ·exact f _
  ·unfold hiB;cases v <;> try exact SP.no
   obtain rfl:=g.int;exact SP.and id (f _)
 case slice a n c=>
  have o:∀e,P.underlying t≠some (.slice e):=λe p=>by unfold CD at hs;rw[p] at hs;cases hs
  have q:∀xr,SP m (λK=>match P.underlying t with
   | some (.slice e)=>cond (P.info? e).isSome (match hi with
    | none=>loB lo n λl=>K (.slice (Jk a l c<|Ex P e) (n-l)<|c-l)
    | some _=>mxB none c λm=>hiB hi n m λh=>loB lo h λl=>K<|.slice (Jk a l m<|Ex P e) (h-l)<|m-l) False
   | _=>False) xr:=λxr=>by
   cases w:P.underlying t with
   | none=>exact SP.no
   | some u=>cases u <;> first|exact SP.no|exact absurd w (o _)
  exact λK y z A=>by
   have:=q (λ_=>False) K y;refine(this ?_ A).elim;cases hi <;> exact z
theorem An9{t:TypeId}{x r:Value}{f:Nat}(h:VR m x r):SP m (Hi P t x f) (Hi P t r f):=by
 unfold Hi;cases x <;> try exact SP.no
 rcases h.ptr with⟨rfl,rfl⟩|⟨b,o,b',rfl,a,rfl⟩
 ·exact SP.no
 ·dsimp only;cases ID P t f with
  | none=>exact SP.no
  | some p=>
   obtain⟨c,d⟩:=p;dsimp only;cases Ex P d with
   | zero=>exact SP.no
   | succ _=>exact SP.pt (.one<|.flat<|.ptr a)
theorem Axd{t:TypeId}{x r:Value}{f:Nat}(h:VR m x r):SP m (KS P t x f) (KS P t r f):=by
 unfold KS;cases x <;> try exact SP.no
 obtain⟨d,rfl,hc⟩:=h.agg;rename_i cs;dsimp only;cases ID P t f with
 | none=>exact SP.no
 | some p=>
  obtain⟨a,b⟩:=p;refine SP.cnd ?_ SP.no;unfold Acz;cases G8 P b with
  | true=>exact SP.pt (.one<|.agg<|by simpa using(hc.drop a).take (Ex P b))
  | false=>
   dsimp only;cases e:cs.toList[a]? with
   | none=>exact SP.no
   | some v=>
    obtain⟨i,g,c⟩:=hc.get e;rw[g];dsimp only;rw[c.isU];exact SP.cnd SP.no (SP.pt<|.one<|.flat c)
theorem Aoa{t:TypeId}{x r i d:Value}(h:VR m x r)(hi:VR m i d):SP m (Hm P t x i) (Hm P t r d):=by
 unfold Hm;cases i <;> try exact SP.no
 obtain rfl:=hi.int;dsimp only;cases P.underlying t with
 | none=>exact SP.no
 | some u=>
  cases u <;> try exact SP.no
  case array n e=>
   cases x <;> try exact SP.no
   rcases h.ptr with⟨rfl,rfl⟩|⟨b,o,b',rfl,a,rfl⟩
   ·exact SP.no
   ·exact SP.cnd (SP.and id<|SP.pt<|.one<|.flat<|.ptr a) SP.no
  case slice e=>
   cases x <;> try exact SP.no
   rcases h.slice with⟨rfl,rfl⟩|⟨b,o,b',l,rfl,a,_,rfl⟩
   ·exact SP.cnd (λK f ⟨b,o,c,_⟩ _=>by cases c) SP.no
   ·exact SP.cnd (λK f ⟨b2,p,c,g,j⟩ k=>by cases c;exact⟨_,_,rfl,g,k _ _ j<|.one<|.flat<|.ptr a⟩) SP.no
theorem VF.ck{k:CK}{x:k.ty}{r:Value}(h:VF m (k.val x) r):∃y:k.ty,r=k.val y:=by
 cases k with
 | int k=>exact⟨x,h.int⟩
 | bool=>exact⟨x,(VR.one<|.flat h).boolV⟩
 | str=>exact⟨x,(VR.one<|.flat h).str⟩
 | ptr=>
  rcases VF.ptrI h with⟨_,h⟩|⟨_,_,_,_,_,h⟩
  ·exact⟨none,h⟩
  ·exact⟨some _,h⟩
 | slc=>
  rcases VF.slcI h with⟨_,h⟩|⟨_,_,_,_,_,_,_,h⟩
  ·exact⟨⟨none,_,_⟩,h⟩
  ·exact⟨⟨some _,_,_⟩,h⟩
 | any=>exact⟨r,rfl⟩
theorem Axe{t:TypeId}{x r i b:Value}(h:VR m x r)(hi:VR m i b):SP m (J8 P t x i) (J8 P t r b):=by
 unfold J8;cases i <;> try exact SP.no
 obtain rfl:=hi.int;cases x <;> try exact SP.no
 ·obtain rfl:=h.str;exact SP.cnd (SP.and id<|SP.at rfl) SP.no
 ·obtain⟨c,rfl,hc⟩:=h.agg;dsimp only;cases P.underlying t with
  | none=>exact SP.no
  | some u=>
   cases u <;> try exact SP.no
   dsimp only
   match Ud P 9 _ with
   | none=>exact SP.no
   | some []=>exact SP.no
   | some (_::_::_)=>exact SP.no
   | some [k]=>
    refine SP.cnd SP.no (SP.and id λK l ⟨x,d,e,f⟩ g=>?_);obtain⟨n,j,a⟩:=hc.get d;obtain⟨y,rfl⟩:=a.ck;exact⟨y,j,by rw[a.isU];exact e,g _ _ f<|.one<|.flat a⟩
theorem Ag8{x r:Value}{i:Nat}(h:VR m x r):SP m (FT x i) (FT r i):=by
 unfold FT;cases x <;> try exact SP.no
 obtain⟨a,rfl,hc⟩:=h.tuple;rename_i vs;dsimp only;cases b:vs.toList[i]? with
 | none=>exact SP.no
 | some v=>
  obtain⟨e,c,d⟩:=hc.get b;rw[c];exact SP.pt (.one d)
theorem Baz{t:TypeId}{x r:Value}(h:VR m x r):SP m (Aci P t x) (Aci P t r):=by
 unfold Aci;cases x <;> try exact SP.no
 ·obtain rfl:=h.str;exact SP.cnd (SP.at rfl) SP.no
 ·rcases h.slice with⟨rfl,rfl⟩|⟨b,o,b',c,rfl,d,_,rfl⟩
  ·exact SP.cnd (SP.at rfl) SP.no
  ·exact SP.cnd (SP.at rfl) SP.no
 ·obtain⟨a,rfl,hc⟩:=h.agg;dsimp only;cases P.underlying t with
  | none=>exact SP.no
  | some u=>cases u <;> first|exact SP.no|exact SP.at rfl
theorem Ba0{x y xr yr:Value}(a:VR m x xr)(b:VR m y yr):SP m (Acp x y) (Acp xr yr):=by
 unfold Acp;cases x <;> try exact SP.no
 obtain rfl:=a.int;cases y <;> try exact SP.no
 obtain rfl:=b.int;exact SP.at rfl
theorem Ba1{x y xr yr:Value}(a:VR m x xr)(b:VR m y yr):SP m (Acu x y) (Acu xr yr):=by
 unfold Acu;cases x <;> try exact SP.no
 obtain rfl:=a.int;cases y <;> try exact SP.no
 obtain rfl:=b.int;exact SP.at rfl
theorem A52{x y z u xr yr a b:Value}(c:VR m x xr)(d:VR m y yr)(e:VR m z a)(f:VR m u b):SP m (OL x y z u) (OL xr yr a b):=by
 unfold OL;cases x <;> try exact SP.no
 obtain rfl:=c.int;cases y <;> try exact SP.no
 obtain rfl:=d.int;cases z <;> try exact SP.no
 obtain rfl:=e.int;cases u <;> try exact SP.no
 obtain rfl:=f.int;exact SP.at rfl
theorem Bax{t:TypeId}{v r:Value}{c:Bool}(h:VR m v r):SP m (λK=>cond (c && !isU v) (cond (Ajh v) (K<|.iface t v) False) False) λK=>cond (c && !isU r) (cond (Ajh r) (K<|.iface t r) False) False:=by
 rw[h.isU];refine SP.cnd ?_ SP.no;cases v <;> try exact SP.no
 ·obtain rfl:=h.boolV;exact SP.pt (.one<|.flat<|.ifa rfl)
 ·obtain rfl:=h.int;exact SP.pt (.one<|.flat<|.ifa rfl)
 ·obtain rfl:=h.str;exact SP.pt (.one<|.flat<|.ifa rfl)
 ·rcases h.ptr with⟨rfl,rfl⟩|⟨b,o,b',rfl,a,rfl⟩
  ·exact SP.pt (.one<|.flat<|.ifa rfl)
  ·exact SP.pt (.one<|.flat<|.ifp a)
theorem AT.pt{R:Value->Value->Prop}{l a:List Value}(h:AT R l a){v r:Value}(b:R v r):∀t,AT R (pt l t v) (pt a t r):=by
 induction h with
 | nil=>exact λt=>by cases t <;> exact .nil
 | cons h c d=>
  intro t;cases t with
  | zero=>exact .cons b c
  | succ t=>exact .cons h (d t)
theorem Acf:∀{vs b:List Value}{cs a:List Value}{o:Nat},AT (VF m) cs a->AT (VF m) vs b->AT (VF m) (KA cs o vs) (KA a o b)
 | [],_,_,_,_,hc,.nil=>hc
 | v::vs,_,cs,a,o,hc,.cons d c=>by
  unfold KA;exact Acf (hc.pt d o) c
theorem GE{v r:Value}(h:VR m v r)(a:DS v=false):AT (VF m) (Cd v) (Cd r)/\DS r=false:=by
 cases h with
 | one h=>
  cases h with
  | flat h=>
   have b:AT (VF m) [v] [r]:=.cons h .nil;cases h with
   | atom h=>
    cases v with
    | agg _=>simp[Cq] at h
    | _=>exact⟨b,a⟩
   | _=>exact⟨b,rfl⟩
  | agg h=>exact⟨h,rfl⟩
 | tup _=>cases a
abbrev PR2(m:Mp)(ps a:List (Nat×Value)):Prop:=AT (λp q=>p.1=q.1/\VR m p.2 q.2) ps a
theorem RK{a:Nat->Option (Nat×Nat)}:∀{ps k:List (Nat×Value)}{cs e f:List Value},AT (VF m) cs e->PR2 m ps k->GF a cs ps=some f->∃c,GF a e k=some c/\AT (VF m) f c
 | [],_,_,_,_,hc,.nil,h=>by
  simp only[GF] at h ⊢;cases h;exact⟨_,rfl,hc⟩
 | (i,v)::ps,_,cs,e,f,hc,.cons (b:=(j,r)) ⟨g,l⟩ n,h=>by
  have g:i=j:=g;subst g;have l:VR m v r:=l;simp only[GF] at h ⊢;cases u:a i with
  | none=>rw[u] at h;cases h
  | some p=>
   obtain⟨o,d⟩:=p;rw[u] at h;dsimp only at h ⊢;cases q:(isU v || !(beq (Cd v).length d) || !(ble (o+d) cs.length)) with
   | true=>rw[q] at h;cases h
   | false=>
    rw[q] at h;cases s:DS v with
    | true=>rw[s] at h;cases h
    | false=>
     rw[s] at h;have t:=GE l s;rw[l.isU,t.1.len,hc.len,q,t.2];exact RK (Acf hc t.1) n h
theorem Ala{a:Type _}{b:Bool}{x:Option a}{y:a}(h:(bif b then x else none)=some y):b=true/\x=some y:=by
 cases b
 ·cases h
 ·exact⟨rfl,h⟩
def zB(P:Program)(t:TypeId):Bool:=match Di P t with
 | some z=>z.all Cq
 | none=>true
def zE(P:Program)(t:TypeId):Bool:=match P.underlying t with
 | some (.slice e)=>zB P e
 | _=>true
theorem AT.self{R:Value->Value->Prop}:∀{l:List Value},(∀v∈l,R v v)->AT R l l
 | [],_=>.nil
 | v::l,h=>.cons (h v mem_cons_self) (AT.self λw a=>h w<|mem_cons_of_mem _ a)
theorem JU{t:TypeId}{z:List Value}(a:zB P t=true)(h:Di P t=some z):AT (VF m) z z:=AT.self λv b=>.atom (by unfold zB at a;rw[h] at a;exact all_eq_true.1 a v b)
theorem Ax8{t e:TypeId}(a:zE P t=true)(h:P.underlying t=some (.slice e)):zB P e=true:=by unfold zE at a;rw[h] at a;exact a
theorem Axc{t:TypeId}(f:zB P t=true){ps c:List (Nat×Value)}(g:PR2 m ps c):SP m (KL P t ps) (KL P t c):=by
 unfold KL;have key:∀b,Jv P t ps=some b->∃a,Jv P t c=some a/\AT (VF m) b a:=λb h=>by
  unfold Jv at h ⊢;cases d:Di P t with
  | none=>rw[d] at h;cases h
  | some z=>
   rw[d] at h;dsimp only at h ⊢;cases e:P.underlying t with
   | none=>rw[e] at h;cases h
   | some u=>
    rw[e] at h;cases u <;> dsimp only at h ⊢ <;> try (cases h;done)
    all_goals
     have h:=Ala h;rw[h.1];exact RK (JU f d) g h.2
 cases h:Jv P t ps with
 | none=>exact SP.no
 | some b=>
  obtain⟨a,d,e⟩:=key _ h;rw[d];exact SP.pt (.one<|.agg<|by simpa using e)
end
end Go.Hb
namespace Go.Hb
def Nr:CK->Bool
 | .any=>false
 | _=>true
def A90(P:Program)(t:TypeId):Bool:=match Ud P 9 t with
 | some ks=>cond (G8 P t) (ks.all Nr) (Dg P t || EO P t || ks.all Nr)
 | none=>true
def Yr(P:Program):Op->Bool
 | .move x=>Cp x
 | .assign x=>Cp x
 | .pick c a b=>Cp c && Cp a && Cp b
 | .nilCheck x=>Cp x
 | .binOp _ _ x y _=>Cp x && Cp y
 | .makeInterface _ x=>Cp x
 | .unOp _ _ x=>Cp x
 | .convert _ _ x=>Cp x
 | .slice t x lo hi d=>Cp x && Awb lo && Awb hi && d.isNone && (CD P t || lo.isNone)
 | .fieldAddr _ x _=>Cp x
 | .field _ x _=>Cp x
 | .indexAddr _ x i=>Cp x && Cp i
 | .index _ x i=>Cp x && Cp i
 | .extract x _=>Cp x
 | .build t ps=>zB P t && ps.toList.all λp=>Cp p.2
 | .load t x=>IF x || (Cp x && A90 P t)
 | .store _ x v=>Cp x && Cp v
 | .alloc t=>zB P t
 | .box _ v=>Cp v
 | .buildSlice t _ ps=>zE P t && ps.toList.all λp=>Cp p.2
 | .makeSlice t l c=>zE P t && Cp l && Cp c
 | .call c=>(match c.callee with
  | .value f=>Cp f
  | .invoke r _=>Cp r
  | .builtin _=>c.argTypes.toList.all<|zE P) && c.args.toList.all Cp
 | .makeMap _ _=>false
 | .mapUpdate _ _ _ _=>false
 | .lookup _ _ _ _=>false
 | .makeChan _ _=>false
 | _=>true
section
variable{m:Mp}{P:Program}{ρ ρr:Dy}
theorem Nt(a:ER m ρ ρr):∀{ps:List (Nat×Operand)},(ps.all λp=>Cp p.2)=true->PR2 m (FM ρ ps) (FM ρr ps)
 | [],_=>.nil
 | (i,x)::ps,h=>by
  simp only[all_cons,and_eq_true] at h;exact .cons ⟨rfl,a.ev h.1⟩ (Nt a h.2)
theorem WM(a:ER m ρ ρr):∀{l:List Operand},l.all Cp=true->AT (VR m) (evL ρ l) (evL ρr l)
 | [],_=>.nil
 | x::l,h=>by
  simp only[all_cons,and_eq_true] at h;exact .cons (a.ev h.1) (WM a h.2)
theorem WN(a:ER m ρ ρr){x:Option Operand}(h:Awb x=true):(evO ρ x=none/\evO ρr x=none)\/∃v r,evO ρ x=some v/\evO ρr x=some r/\VR m v r:=by
 cases x with
 | none=>exact .inl ⟨rfl,rfl⟩
 | some x=>exact .inr ⟨_,_,rfl,rfl,a.ev h⟩
def PS(m:Mp)(P:Program)(c a:Dy)(o:Op):Prop:=(Fz P c o=none/\Fz P a o=none)\/∃F b,Fz P c o=some F/\Fz P a o=some b/\SP m F b
theorem PS.yes{o:Op}{F a:(Value->Prop)->Prop}(b:Fz P ρ o=some F)(c:Fz P ρr o=some a)(h:SP m F a):PS m P ρ ρr o:=.inr ⟨F,a,b,c,h⟩
theorem Aj6(e:ER m ρ ρr)(A:GL m){o:Op}(g:Yr P o=true):PS m P ρ ρr o:=by
 cases o <;> simp only[Yr,and_eq_true,false_eq_true] at g
 case move x=>exact PS.yes rfl rfl (SP.pt<|e.ev g)
 case assign x=>exact PS.yes rfl rfl (SP.pt<|e.ev g)
 case pick c a b=>exact PS.yes rfl rfl (A54 e g.1.1 g.1.2 g.2)
 case nilCheck x=>exact PS.yes rfl rfl (Axf<|e.ev g)
 case binOp op t x y yt=>
  cases y with
  | const c=>
   cases c with
   | nilIface=>exact PS.yes rfl rfl (Ba2<|e.ev g.1)
   | nilFunc=>exact PS.yes rfl rfl (A53<|e.ev g.1)
   | _=>exact PS.yes rfl rfl (Axb (e.ev g.1)<|VR.ofAtom g.2)
  | _=>exact PS.yes rfl rfl (Axb (e.ev g.1)<|e.ev g.2)
 case makeInterface t x=>exact PS.yes rfl rfl (Bax<|e.ev g)
 case unOp op t x=>exact PS.yes rfl rfl (Bcv<|e.ev g)
 case convert s d x=>
  have h:=e.ev g;unfold PS Fz;dsimp only;generalize ev ρ x=v at h ⊢;generalize ev ρr x=r at h ⊢;cases v
  case int k n=>
   obtain rfl:=h.int;dsimp only;cases (P.underlying s).isSome
   ·exact .inl ⟨rfl,rfl⟩
   ·exact .inr ⟨_,_,rfl,rfl,Akj⟩
  case string b=>
   obtain rfl:=h.str;dsimp only;cases CD P s
   ·exact .inl ⟨rfl,rfl⟩
   ·cases CD P d
    ·exact .inl ⟨rfl,rfl⟩
    ·exact .inr ⟨_,_,rfl,rfl,Akj⟩
  case slice a n c=>
   rcases h.slice with⟨_,rfl⟩|⟨_,_,_,_,_,_,_,rfl⟩ <;> exact .inl ⟨rfl,rfl⟩
  case pointer a=>
   rcases h.ptr with⟨_,rfl⟩|⟨_,_,_,_,_,rfl⟩ <;> exact .inl ⟨rfl,rfl⟩
  case agg cs=>
   obtain⟨_,rfl,_⟩:=h.agg;exact .inl ⟨rfl,rfl⟩
  case tuple cs=>
   obtain⟨_,rfl,_⟩:=h.tuple;exact .inl ⟨rfl,rfl⟩
  case iface t v=>
   obtain⟨_,rfl,_⟩:=h.ifc;exact .inl ⟨rfl,rfl⟩
  case func tg f c=>
   obtain rfl:=h.fun;exact .inl ⟨rfl,rfl⟩
  case chan c=>
   cases h.flat (by simp) (by simp) <;> exact .inl ⟨rfl,rfl⟩
  case map c=>
   cases h.flat (by simp) (by simp) with
   | atom h=>exact .inl ⟨rfl,rfl⟩
  all_goals (obtain rfl:=h.atom rfl;exact .inl ⟨rfl,rfl⟩)
 case slice t x lo hi mx=>
  obtain⟨⟨⟨⟨p,j⟩,w⟩,q⟩,l⟩:=g;have q:mx=none:=by cases mx <;> simp at q ⊢
  subst q;cases hs:CD P t with
  | true=>exact PS.yes rfl rfl (Aob hs (e.ev p) (WN e j)<|WN e w)
  | false=>
   rw[hs] at l;have l:lo=none:=by cases lo <;> simp at l ⊢
   subst l;exact PS.yes rfl rfl (Axg A (e.ev p)<|WN e w)
 case fieldAddr t x f=>exact PS.yes rfl rfl (An9<|e.ev g)
 case field t x f=>exact PS.yes rfl rfl (Axd<|e.ev g)
 case indexAddr t x i=>exact PS.yes rfl rfl (Aoa (e.ev g.1)<|e.ev g.2)
 case index t x i=>exact PS.yes rfl rfl (Axe (e.ev g.1)<|e.ev g.2)
 case extract x i=>exact PS.yes rfl rfl (Ag8<|e.ev g)
 case build t ps=>exact PS.yes rfl rfl (Axc g.1<|Nt e g.2)
 case call c=>
  obtain⟨p,j⟩:=g;unfold PS Fz;dsimp only;cases c.callee with
  | value f=>exact .inl ⟨rfl,rfl⟩
  | invoke r n=>exact .inl ⟨rfl,rfl⟩
  | builtin b=>
   cases b <;> try exact .inl ⟨rfl,rfl⟩
   all_goals dsimp only
   case len=>
    match c.args.toList,c.argTypes.toList,j with
    | [x],[t],j=>
     simp only[all_cons,all_nil,Bool.and_true] at j;exact .inr ⟨_,_,rfl,rfl,Baz<|e.ev j⟩
    | [],_,_=>exact .inl ⟨rfl,rfl⟩
    | _::_::_,_,_=>exact .inl ⟨rfl,rfl⟩
    | [_],[],_=>exact .inl ⟨rfl,rfl⟩
    | [_],_::_::_,_=>exact .inl ⟨rfl,rfl⟩
   case max=>
    match c.args.toList,j with
    | [x,y],j=>
     simp only[all_cons,all_nil,Bool.and_true,and_eq_true] at j;exact .inr ⟨_,_,rfl,rfl,Ba0 (e.ev j.1)<|e.ev j.2⟩
    | [],_=>exact .inl ⟨rfl,rfl⟩
    | [_],_=>exact .inl ⟨rfl,rfl⟩
    | _::_::_::_,_=>exact .inl ⟨rfl,rfl⟩
   case min=>
    match c.args.toList,j with
    | [x,y],j=>
     simp only[all_cons,all_nil,Bool.and_true,and_eq_true] at j;exact .inr ⟨_,_,rfl,rfl,Ba1 (e.ev j.1)<|e.ev j.2⟩
    | [x,y,z,u],j=>
     simp only[all_cons,all_nil,Bool.and_true,and_eq_true] at j;exact .inr ⟨_,_,rfl,rfl,A52 (e.ev j.1) (e.ev j.2.1) (e.ev j.2.2.1)<|e.ev j.2.2.2⟩
    | [],_=>exact .inl ⟨rfl,rfl⟩
    | [_],_=>exact .inl ⟨rfl,rfl⟩
    | [_,_,_],_=>exact .inl ⟨rfl,rfl⟩
    | _::_::_::_::_::_,_=>exact .inl ⟨rfl,rfl⟩
 all_goals exact .inl ⟨rfl,rfl⟩
end
def SW{e b:Type}(rel:Mp->e->b->Prop)(m:Mp)(wv wr:World)(F:(e->WP)->Prop)(d:(b->WP)->Prop):Prop:=
 ∀K c,F K->(∀a x wv' xr wr',K x wv'->rel a x xr->Sm a wv' wr'->St m wv wr a wv' wr'->c xr wr')->d c
section
variable{α αr β βr:Type}{rel:Mp->α->αr->Prop}{rel2:Mp->β->βr->Prop}{m:Mp}{wv wr:World}{P:Program}
theorem SW.pt{x:α}{xr:αr}(hs:Sm m wv wr)(h:rel m x xr):SW rel m wv wr (λK=>K x wv) λK=>K xr wr:=λ_ _ a b=>b _ _ _ _ _ a h hs .refl
theorem SW.no{G:(αr->WP)->Prop}:SW rel m wv wr (λ_=>False) G:=λ_ _ h=>h.elim
theorem SW.and{c a:Prop}{F:(α->WP)->Prop}{G:(αr->WP)->Prop}(hc:c->a)(h:SW rel m wv wr F G):SW rel m wv wr (λK=>c/\F K) λK=>a/\G K:=λK d b e=>⟨hc b.1,h K d b.2 e⟩
theorem SW.cndW{b:Bool}{F a:(α->WP)->WP}{G c:(αr->WP)->WP}(h:SW rel m wv wr (λK=>F K wv) λK=>G K wr)(d:SW rel m wv wr (λK=>a K wv) λK=>c K wr) :
  SW rel m wv wr (λK=>(cond b (F K)<|a K) wv) λK=>(cond b (G K)<|c K) wr:=by
 cases b
 ·exact d
 ·exact h
theorem SW.bind{F:(α->WP)->Prop}{G:(αr->WP)->Prop}{F2:α->(β->WP)->WP}{G2:αr->(βr->WP)->WP}(h:SW rel m wv wr F G)
  (f:∀a x wv' xr wr',rel a x xr->Sm a wv' wr'->St m wv wr a wv' wr'->SW rel2 a wv' wr' (λK=>F2 x K wv') λK=>G2 xr K wr') :
  SW rel2 m wv wr (λK=>F λx=>F2 x K) λK=>G λx=>G2 x K:=λK g i j=>
 h _ _ i λa x wv' xr wr' k l hs e=>f _ _ _ _ _ l hs e K g k λm2 y n yr o p b c d=>j _ _ _ _ _ p b c (e.trans d)
theorem SW.map{F:(α->WP)->Prop}{G:(αr->WP)->Prop}{g:α->β}{gr:αr->βr}(h:SW rel m wv wr F G)(b:∀a x xr,rel a x xr->rel2 a (g x) (gr xr)) :
  SW rel2 m wv wr (λK=>F λx=>K<|g x) λK=>G λx=>K (gr x):=λK j c d=>h _ _ c λa x wv' xr wr' e f hs i=>d _ _ _ _ _ e (b _ _ _ f) hs i
theorem SW.ofP{F a:(Value->Prop)->Prop}(hs:Sm m wv wr)(h:SP m F a):SW VR m wv wr (λK=>F λv=>K v wv) λK=>a λv=>K v wr:=λK f b c=>h _ _ b λv r d e=>c _ _ _ _ _ d e hs .refl
abbrev CR(k:CK)(m:Mp)(x y:k.ty):Prop:=VF m (k.val x) (k.val y)
theorem A7w{k:CK}{v:Value}{x:k.ty}(h:k.un v=some x):v=k.val x:=by
 cases k <;> simp only[CK.un] at h
 case int k=>
  split at h
  ·rename_i a n;cases b:Nb k a with
   | false=>rw[b] at h;cases h
   | true=>
    rw[b] at h;cases h
    have:k=a:=by cases k <;> cases a <;> simp[Nb] at b ⊢
    rw[this];rfl
  ·cases h
 case any=>
  cases c:isU v with
  | true=>rw[c] at h;cases h
  | false=>rw[c] at h;cases h;rfl
 all_goals
  split at h
  ·cases h;rfl
  ·cases h
theorem Bb2{k:CK}{x:k.ty}(a:k = .any->isU (k.val x)=false):k.un (k.val x)=some x:=by
 cases k with
 | int k=>cases k <;> rfl
 | any=>have h:=a rfl;simp only[CK.un,CK.val] at h ⊢;rw[h];rfl
 | _=>rfl
theorem VF.un{k:CK}{v r:Value}{x:k.ty}(h:VF m v r)(a:k.un v=some x):∃y,k.un r=some y/\CR k m x y:=by
 obtain rfl:=A7w a;obtain⟨y,rfl⟩:=h.ck;refine⟨y,?_,h⟩;refine Bb2 λb=>?_;subst b;rw[h.isU];simp only[CK.un] at a;cases c:Go.Hb.isU (CK.any.val x) with
 | true=>rw[c] at a;cases a
 | false=>rfl
theorem A6o{k:CK}{v:Value}{x:k.ty}(h:k.un v=some x):isU v=false:=by
 cases v <;> try rfl
 cases k <;> simp[CK.un,isU] at h
theorem KI(hs:Sm m wv wr){k:CK}{b b' o:Nat}(d:m.f b=some b'):SW (CR k) m wv wr (λK=>ld k b o K wv) λK=>ld k b' o K wr:=λK l a e=>by
 unfold ld at a ⊢;cases hc:wv.cell? ⟨b,o,none⟩ with
 | none=>rw[hc] at a;exact a.elim
 | some v=>
  rw[hc] at a;simp only[bind_some] at a;cases c:k.un v with
  | none=>rw[c] at a;exact a.elim
  | some x=>
   rw[c] at a;obtain⟨n,g,h⟩:=hs.cellAt hc d (A6o c);obtain⟨y,i,j⟩:=h.un c;rw[g];simp only[bind_some,i];exact e _ _ _ _ _ a j hs .refl
theorem Axn:∀{ks:List CK}{b b' o:Nat}{m:Mp}{wv wr:World},Sm m wv wr->m.f b=some b'->SW (λm=>AT<|VF m) m wv wr (λK=>lds ks b o K wv) λK=>lds ks b' o K wr
 | [],_,_,_,_,_,_,hs,_=>SW.pt (rel:=λm=>AT<|VF m) (x:=[]) (xr:=[]) hs .nil
 | k::ks,b,b',o,m,wv,wr,hs,c=>by
  unfold lds;refine SW.bind (F:=λK=>ld k b o K wv) (G:=λK=>ld k b' o K wr) (KI hs c) λr x wv' xr wr' e a g=>?_;exact λK s h i=>Axn a (g.le _ _ c).1 _ _ h λm2 vs j t l n p q d=>i _ _ _ _ _ n (.cons (e.up d.le) p) q d
theorem Bbb(hs:Sm m wv wr){b b' o:Nat}(e:m.f b=some b'):SW VR m wv wr (λK:VW=>Mk b o (K .nilIface) (λt v=>K<|.iface t v) wv) λK=>Mk b' o (K .nilIface) (λt v=>K<|.iface t v) wr:=λK h a d=>by
 unfold Mk at a ⊢;cases hc:wv.cell? ⟨b,o,none⟩ with
 | none=>rw[hc] at a;exact a.elim
 | some v=>
  rw[hc] at a;cases v <;> try exact a.elim
  all_goals (obtain⟨i,g,c⟩:=hs.cellAt hc e;rw[g])
  ·obtain⟨u,rfl,j⟩:=c.ifcI;exact d _ _ _ _ _ a (.one<|.flat c) hs .refl
  ·obtain rfl:=(VR.one<|.flat c).atom rfl;exact d _ _ _ _ _ a (VR.ofAtom rfl) hs .refl
theorem Bbd(hs:Sm m wv wr){b b' o:Nat}{l:List FuncId}(h:m.f b=some b'):SW VR m wv wr (λK:VW=>ldV b o (K .nilFunc) (Mq (λf=>K<|.func (.func f) #[] #[]) l) wv) λK=>ldV b' o (K .nilFunc) (Mq (λf=>K<|.func (.func f) #[] #[]) l) wr:=λK i a d=>by
 unfold ldV at a ⊢;cases hc:wv.cell? ⟨b,o,none⟩ with
 | none=>rw[hc] at a;exact a.elim
 | some v=>
  rw[hc] at a;cases v <;> try exact a.elim
  all_goals (obtain⟨t,j,e⟩:=hs.cellAt hc h;rw[j])
  case func tg first cap=>
   obtain rfl:=(VR.one<|.flat e).fun;cases tg <;> try exact a.elim
   obtain⟨k,n,p,q,r,c⟩:=a;obtain⟨g,s⟩:=Ik q;rw[s] at c;rw[r] at c g;exact⟨k,n,_,JI (K:=λf=>i<|.func (.func f) #[] #[]) g,rfl,d _ _ _ _ _ c (VR.ofAtom rfl) hs .refl⟩
  case nilFunc=>
   obtain rfl:=(VR.one<|.flat e).atom rfl;exact d _ _ _ _ _ a (VR.ofAtom rfl) hs .refl
theorem Akn(hs:Sm m wv wr){t:TypeId}{x r:Value}(h:VR m x r):SW VR m wv wr (λK=>GN P t x K wv) λK=>GN P t r K wr:=by
 unfold GN;cases x <;> try exact SW.no
 rcases h.ptr with⟨rfl,rfl⟩|⟨b,o,b',rfl,a,rfl⟩
 ·exact SW.no
 ·dsimp only;cases Ud P 9 t with
  | none=>exact SW.no
  | some ks=>
   refine SW.cndW (m:=m) (wv:=wv) (wr:=wr) ?_ SW.no;cases G8 P t with
   | true=>exact SW.map (Axn hs a) λc x xr h=>.one (.agg h)
   | false=>
    dsimp only
    match ks with
    | []=>exact SW.no
    | _::_::_=>exact SW.no
    | [k]=>
     dsimp only;cases Dg P t with
     | true=>exact Bbb hs a
     | false=>
      dsimp only;cases EO P t with
      | true=>exact Bbd hs a
      | false=>exact SW.map (g:=λx=>k.val x) (gr:=λx=>k.val x) (KI hs a) λc x xr h=>.one (.flat h)
end
end Go.Hb
namespace Go.Hb
def Mp.push(m:Mp)(B b':Nat)(g:Option (Nat×Nat×Nat)):Mp:=⟨λx=>if x=B then some b' else m.f x,λx=>if x=B then g else m.g x⟩
theorem Mp.push_le{m:Mp}{B b':Nat}{g:Option (Nat×Nat×Nat)}(h:m.f B=none):m.le (m.push B b' g):=λb x a=>by
 have c:b≠B:=λe=>by subst e;rw[h] at a;cases a
 simp[Mp.push,c,a]
theorem Mp.push_at{m:Mp}{B b':Nat}{g:Option (Nat×Nat×Nat)}:(m.push B b' g).f B=some b':=by simp[Mp.push]
section
variable{m m':Mp}{wv wr:World}
theorem OR.up{b b':Nat}{o d:Obj}(h:OR m b o d)(a:m.le m')(g:m.f b=some b'):OR m' b o d:=by
 cases h with
 | cells hs j k l n=>
  refine .cells hs (λi v hi=>?_) k (λcv cr e c=>l cv cr e<|by rw[<- (a _ _ g).2];exact c) λh=>n (by rw[<- (a _ _ g).2];exact h);obtain⟨p,q,r⟩:=j i v hi;exact⟨p,q,r.imp id λh=>h.up a⟩
 | chan h=>exact .chan (AT.imp (λ_ _ h=>h.up a) h)
theorem CX{w:World}{o:Obj}{b:Nat}(h:b<w.heap.size):(w.alloc o).heap[b]? = w.heap[b]?:=by
 simp only[World.alloc,Array.getElem?_push];rw[if_neg<|by omega]
theorem En{w:World}{o:Obj}:(w.alloc o).heap[w.heap.size]? = some o:=by show(w.heap.push o)[w.heap.size]? = some o;simp
theorem Bp{w:World}{o:Obj}:(w.alloc o).heap.size=w.heap.size+1:=by show(w.heap.push o).size=_;simp
theorem BX{w:World}{b:Nat}{o:Obj}(h:w.heap[b]? = some o):b<w.heap.size:=(Array.getElem?_eq_some_iff.1 h).1
theorem Sm.none_at(hs:Sm m wv wr){b:Nat}(h:wv.heap.size<=b):m.f b=none:=by
 cases a:m.f b with
 | none=>rfl
 | some x=>have:=(hs.dom b).2 (by rw[a];rfl);omega
theorem Sm.push(hs:Sm m wv wr){o r:Obj}{b':Nat}{g:Option (Nat×Nat×Nat)}(a:wr.heap[b']? = some r)(B:OR (m.push wv.heap.size b' g) wv.heap.size o r)
  (l:∀b2 s,wv.heap[b2]? = some s->live s=true->m.f b2≠some b') (C:∀cv cr e,g=some (cv,cr,e)->cv<=cr):Sm (m.push wv.heap.size b' g) (wv.alloc o) wr:=by
 have n:m.le (m.push wv.heap.size b' g):=Mp.push_le (hs.none_at<|le_refl _);have c:∀{b:Nat}{p:Obj},(wv.alloc o).heap[b]? = some p->(b=wv.heap.size/\p=o)\/(b≠wv.heap.size/\wv.heap[b]? = some p):=λ{b p} h=>by
  have t:=BX h;rw[Bp] at t
  by_cases a:b=wv.heap.size
  ·subst a;rw[En] at h;cases h;exact .inl ⟨rfl,rfl⟩
  ·rw[CX<|by omega] at h;exact .inr ⟨a,h⟩
 refine⟨λb=>?_,λb a=>?_,λb x q=>?_,λb p u D=>?_,λb cv cr e h=>?_,λb1 b2 x G s d v i w j k=>?_⟩
 ·rw[Bp]
  by_cases a:b=wv.heap.size
  ·subst a;simp[Mp.push]
  ·simp only[Mp.push,if_neg a];rw[<- hs.dom b];omega
 ·rw[Bp]
  by_cases h:b=wv.heap.size
  ·omega
  ·simp only[Mp.push,if_neg h] at a;have:=hs.gdom b a;omega
 ·by_cases h:b=wv.heap.size
  ·simp only[Mp.push,if_pos h] at q;cases q;exact BX a
  ·simp only[Mp.push,if_neg h] at q;exact hs.rng _ _ q
 ·rcases c u with⟨rfl,rfl⟩|⟨E,u⟩
  ·exact⟨b',r,Mp.push_at,a,B⟩
  ·obtain⟨x,p',d,i,F⟩:=hs.obj b p u D;exact⟨x,p',(n _ _ d).1,i,F.up n d⟩
 ·by_cases a:b=wv.heap.size
  ·simp only[Mp.push,if_pos a] at h;exact C _ _ _ h
  ·simp only[Mp.push,if_neg a] at h;exact hs.gl _ _ _ _ h
 ·rcases c d with⟨rfl,rfl⟩|⟨y,d⟩ <;> rcases c i with⟨z,H⟩|⟨A,i⟩
  ·exact z.symm
  ·simp only[Mp.push,if_true,if_neg A] at j k;cases j;exact absurd k (l _ _ i w)
  ·subst z;simp only[Mp.push,if_true,if_neg y] at j k;cases k;exact absurd j (l _ _ d v)
  ·simp only[Mp.push,if_neg y,if_neg A] at j k;exact hs.inj _ _ _ _ _ d v i w j k
theorem Sm.real(hs:Sm m wv wr){wr':World}(c:wr.heap.size<=wr'.heap.size)(h:∀b o b',wv.heap[b]? = some o->live o=true->m.f b=some b'->wr'.heap[b']? = wr.heap[b']?):Sm m wv wr':=
 ⟨hs.dom,hs.gdom,λb b' a=>lt_of_lt_of_le (hs.rng _ _ a) c,λb o a d=>by
  obtain⟨b',g,e,i,j⟩:=hs.obj b o a d;exact⟨b',g,e,by rw[h _ _ _ a d e];exact i,j⟩,hs.gl,hs.inj⟩
theorem Kg{w:World}{b x:Nat}{p:Obj}(h:(Fb w b).heap[x]? = some p):(x=b/\p = .map #[] 0)\/(x≠b/\w.heap[x]? = some p):=by
 simp only[Fb,Array.getElem?_modify] at h
 by_cases a:b=x
 ·rw[if_pos a] at h;cases c:w.heap[x]? with
  | none=>rw[c] at h;cases h
  | some _=>rw[c] at h;cases h;exact .inl ⟨a.symm,rfl⟩
 ·rw[if_neg a] at h;exact .inr ⟨λe=>a e.symm,h⟩
theorem Ib{w:World}{b:Nat}:(Fb w b).heap.size=w.heap.size:=by simp[Fb]
theorem Sm.kill(hs:Sm m wv wr){b:Nat}:Sm m (Fb wv b) wr:=by
 refine⟨λx=>by rw[Ib];exact hs.dom x,λx h=>by rw[Ib];exact hs.gdom x h,hs.rng,λx o a e=>?_,hs.gl,λb1 b2 x i j c f d g=>?_⟩
 ·rcases Kg a with⟨_,rfl⟩|⟨_,a⟩
  ·cases e
  ·exact hs.obj x o a e
 ·rcases Kg c with⟨_,rfl⟩|⟨_,c⟩
  ·cases f
  ·rcases Kg d with⟨_,rfl⟩|⟨_,d⟩
   ·cases g
   ·exact hs.inj _ _ _ _ _ c f d g
theorem G0{w:World}{b o:Nat}{cs:Array Value}{T:TypeId}{fr:Nat×Nat}(h:w.heap[b]? = some (.cells cs T fr)):w.frozen? ⟨b,o,none⟩=Ph fr o:=by
 unfold World.frozen?;rw[h];rfl
theorem BV{w:World}{b o x:Nat}{v:Value}{cs:Array Value}{T:TypeId}{fr:Nat×Nat}(h:w.heap[b]? = some (.cells cs T fr)) :
  (w.setCell ⟨b,o,none⟩ v).heap[x]? = if x=b then some (.cells (cs.setIfInBounds o v) T fr) else w.heap[x]?:=by
 simp only[World.setCell,Array.getElem?_modify]
 by_cases a:b=x
 ·subst a;simp[h]
 ·rw[if_neg a,if_neg<|λe=>a e.symm]
theorem D9{w:World}{a:Addr}{v:Value}:(w.setCell a v).heap.size=w.heap.size:=by simp[World.setCell]
theorem Axi(hs:Sm m wv wr){b b' o:Nat}{v r:Value}(t:m.f b=some b')(M:VF m v r){K I:WP}(N:st b o v K wv)(O:∀wv' wr',K wv'->Sm m wv' wr'->St m wv wr m wv' wr'->I wr'):st b' o r I wr:=by
 obtain⟨P,J,Q⟩:=N;obtain⟨u,R⟩:=isSome_iff_exists.1 P;obtain⟨cs,T,fr,hc,C⟩:=HU R;obtain⟨b2,o',L,l,S⟩:=hs.obj b _ hc rfl;rw[t] at L;cases L
 have c:o<cs.size:=(Array.getElem?_eq_some_iff.1 C).1;have g:Ph fr o=false:=by rw[G0 hc] at J;exact J
 cases S with
 | @cells _ U _ T' _ V D E n W X=>
  refine⟨by rw[EE l,Array.getElem?_eq_getElem<|by omega];rfl,by rw[G0 l];exact n _ c g,O _ _ Q ?_ ?_⟩
  ·have d:∀{x:Nat}{p:Obj},(wv.setCell ⟨b,o,none⟩ v).heap[x]? = some p->live p=true->∃q,wv.heap[x]? = some q/\live q=true:=λ{x p} a A=>by
    rw[BV hc] at a
    by_cases e:x=b
    ·subst e;exact⟨_,hc,rfl⟩
    ·rw[if_neg e] at a;exact⟨_,a,A⟩
   refine⟨λx=>by rw[D9];exact hs.dom x,λx h=>by rw[D9];exact hs.gdom x h,λx y h=>by rw[D9];exact hs.rng x y h,λx p a A=>?_,hs.gl,λx y z p q a Y s Z=>?_⟩
   ·rw[BV hc] at a
    by_cases e:x=b
    ·subst e;rw[if_pos rfl] at a;cases a;refine⟨b',_,t,by rw[BV l,if_pos rfl],.cells (by simpa using D) (λi w hi=>?_) (λi hi=>n i<|by simpa using hi) (λcv cr e j=>?_) λj=>by simpa using X j⟩
     ·by_cases k:o=i
      ·subst k;rw[Array.getElem?_setIfInBounds_self_of_lt c] at hi;cases hi;exact⟨r,by rw[Array.getElem?_setIfInBounds_self_of_lt<|by omega],.inr M⟩
      ·rw[Array.getElem?_setIfInBounds_ne k] at hi;obtain⟨w',B,F⟩:=E i w hi;exact⟨w',by rw[Array.getElem?_setIfInBounds_ne k];exact B,F⟩
     ·have:=W cv cr e j;simpa using this
    ·rw[if_neg e] at a;obtain⟨y,q,B,F,h9⟩:=hs.obj x p a A;refine⟨y,q,B,?_,h9⟩;rw[BV l,if_neg<|λe2=>e ?_]
     ·exact F
     ·subst e2;exact hs.inj _ _ _ _ _ a A hc rfl B t
   ·obtain⟨p',G,lp⟩:=d a Y;obtain⟨q',H,lq⟩:=d s Z;exact hs.inj _ _ _ _ _ G lp H lq
  ·refine⟨.refl m,by rw[D9];exact le_refl _,λx a hn=>?_,λx hw=>.inl ?_,λ_ _ h=>.inl h,rfl,rfl⟩
   ·rw[BV l,if_neg];intro e;subst e;exact hn ⟨b,_,hc,⟨o,c,g⟩,t⟩
   ·obtain⟨y,p,s,hp,n⟩:=hw;rw[BV hc] at s
    by_cases e:y=b
    ·subst e;exact⟨y,_,hc,⟨o,c,g⟩,n⟩
    ·rw[if_neg e] at s;exact⟨y,p,s,hp,n⟩
theorem YB:∀{vs rs:List Value}{b b' o:Nat}{wv wr:World}{K c:WP},Sm m wv wr->m.f b=some b'->AT (VF m) vs rs->T7 vs b o K wv->(∀wv' wr',K wv'->Sm m wv' wr'->St m wv wr m wv' wr'->c wr')->T7 rs b' o c wr
 | [],_,_,_,_,_,_,_,_,hs,_,.nil,a,d=>d _ _ a hs .refl
 | v::vs,r::rs,b,b',o,wv,wr,K,c,hs,j,.cons k e,a,d=>by
  unfold T7 at a ⊢;exact Axi hs j k a λwv' wr' a g l=>YB g j e a λn p a h i=>d _ _ a h (l.trans i)
theorem Yq:∀{vs rs:List Value},AT (VF m) vs rs->Mv vs=true->Mv rs=true
 | [],_,.nil,h=>h
 | v::vs,r::rs,.cons c a,h=>by
  have d:Mv vs=true:=by cases v <;> first|exact h|cases h
  have b:=Yq a d;cases c with
  | atom e=>cases v <;> first|exact b|cases h
  | _=>exact b
abbrev UR(_:Mp)(_ _:Unit):Prop:=True
theorem Axr{P:Program}(hs:Sm m wv wr){t:TypeId}{x v xr c:Value}(j:VR m x xr)(k:VR m v c):SW UR m wv wr (λK:Unit->WP=>FH P t x v (K ()) wv) λK=>FH P t xr c (K ()) wr:=by
 unfold FH;cases x <;> try exact SW.no
 rcases j.ptr with⟨rfl,rfl⟩|⟨b,o,b',rfl,n,rfl⟩
 ·exact SW.no
 ·dsimp only;cases d:DS v with
  | true=>
   cases v <;> first|cases d|skip
   intro K p a _;rw[show Mv (Cd<|Value.tuple _)=false from rfl] at a;simp at a;exact a.elim
  | false=>
   obtain⟨e,_⟩:=GE k d;intro K p a q;cases hc:((P.info? t).isSome && beq (Ex P t) (Cd v).length && Mv (Cd v) && !(Cd v).any isU) with
   | false=>rw[hc] at a;exact a.elim
   | true=>
    rw[hc] at a;have f:((P.info? t).isSome && beq (Ex P t) (Cd c).length && Mv (Cd c) && !(Cd c).any isU)=true:=by
     simp only[and_eq_true] at hc ⊢;refine⟨⟨⟨hc.1.1.1,by rw[e.len];exact hc.1.1.2⟩,Yq e hc.1.2⟩,?_⟩
     have:∀{l i:List Value},AT (VF m) l i->i.any isU=l.any isU:=λh=>by
      induction h with
      | nil=>rfl
      | cons h _ r=>simp[r,h.isU]
     rw[this e];exact hc.2
    rw[f];exact YB hs n e a λwv' wr' a g d=>q _ () _ () _ a trivial g d
theorem Sm.new(hs:Sm m wv wr){cs rs:List Value}{T T':TypeId}(h:AT (VF m) cs rs):Sm (m.push wv.heap.size wr.heap.size none) (wv.alloc (.cells cs.toArray T)) (wr.alloc (.cells rs.toArray T')) /\
  St m wv wr (m.push wv.heap.size wr.heap.size none) (wv.alloc (.cells cs.toArray T)) (wr.alloc (.cells rs.toArray T')):=by
 have hle:m.le (m.push wv.heap.size wr.heap.size none):=Mp.push_le (hs.none_at (le_refl _));have h1:Sm m wv (wr.alloc (.cells rs.toArray T')):=hs.real (by rw[Bp];omega) λb o b' _ _ hf=>CX (hs.rng _ _ hf)
 refine⟨h1.push En (.cells (by simp[h.len]) (λi v hi=>?_) (λ_ _ _=>by simp[Ph]) (λcv cr e hg=>by simp[Mp.push] at hg) λ_=>by simp[h.len]) (λb2 o2 _ _ hf=>?_) (λ_ _ _ h=>by cases h),hle,by rw[Bp];omega,λb' hb _=>CX hb,λb' hw=>?_,λb b' hf=>by
  by_cases e:b=wv.heap.size
  ·subst e;rw[Mp.push_at] at hf;cases hf;exact .inr (.inr (le_refl _))
  ·simp only[Mp.push,if_neg e] at hf;exact .inl hf,rfl,rfl⟩
 ·obtain⟨v',h2,h3⟩:=h.get (i:=i) (a:=v) (by simpa using hi);exact⟨v',by simpa using h2,.inr (h3.up hle)⟩
 ·have:=hs.rng _ _ hf;omega
 ·obtain⟨b,o,hb,hf,hm⟩:=hw
  by_cases e:b=wv.heap.size
  ·subst e;rw[Mp.push_at] at hm;cases hm
   exact .inr (le_refl _)
  ·left;have hlt:=BX hb;rw[Bp] at hlt;rw[CX (by omega)] at hb;simp only[Mp.push,if_neg e] at hm;exact⟨b,o,hb,hf,hm⟩
abbrev BR(m:Mp)(b b':Nat):Prop:=m.f b=some b'/\m.g b=none
theorem Tq(hs:Sm m wv wr){cs rs:List Value}{T T':TypeId}(h:AT (VF m) cs rs):SW BR m wv wr (λK=>Az cs T K wv) λK=>Az rs T' K wr:=λK e a b=>by
 obtain⟨c,d⟩:=hs.new (T:=T) (T':=T') h;exact b _ _ _ _ _ a ⟨Mp.push_at,by simp[Mp.push]⟩ c d
end
end Go.Hb
namespace Go.Hb
section
variable{m:Mp}{wv wr:World}{P:Program}
theorem Akf(hs:Sm m wv wr){b b':Nat}(c:m.f b=some b'):∀{n o:Nat}{vs:List Value},T5 wv b o n=some vs->∃rs,T5 wr b' o n=some rs/\AT (VU m) vs rs
 | 0,o,vs,h=>by
  simp only[T5] at h ⊢;cases h;exact⟨_,rfl,.nil⟩
 | n+1,o,vs,h=>by
  simp only[T5] at h ⊢;cases hc:wv.cell? ⟨b,o,none⟩ with
  | none=>rw[hc] at h;cases h
  | some v=>
   rw[hc] at h;dsimp only at h;cases a:T5 wv b (o+1) n with
   | none=>rw[a] at h;cases h
   | some l=>
    rw[a] at h;cases h;obtain⟨j,d,e⟩:=hs.cellAtU hc c;obtain⟨rs,g,i⟩:=Akf hs c a;rw[d,g];exact⟨_,rfl,.cons e i⟩
theorem Ake{w:World}{b:Nat}:∀{n o:Nat}{vs:List Value},T5 w b o n=some vs->vs.length=n
 | 0,o,vs,h=>by simp only[T5] at h;cases h;rfl
 | n+1,o,vs,h=>by
  simp only[T5] at h;cases hc:w.cell? ⟨b,o,none⟩ with
  | none=>rw[hc] at h;cases h
  | some v=>
   rw[hc] at h;dsimp only at h;cases a:T5 w b (o+1) n with
   | none=>rw[a] at h;cases h
   | some l=>rw[a] at h;cases h;simp[Ake a]
theorem Akd{w:World}{b:Nat}:∀{n o:Nat}{vs:List Value},T5 w b o n=some vs->∀i,i<n->w.cell? ⟨b,o+i,none⟩=vs[i]?
 | 0,o,vs,h,i,hi=>by omega
 | n+1,o,vs,h,i,hi=>by
  simp only[T5] at h;cases hc:w.cell? ⟨b,o,none⟩ with
  | none=>rw[hc] at h;cases h
  | some v=>
   rw[hc] at h;dsimp only at h;cases a:T5 w b (o+1) n with
   | none=>rw[a] at h;cases h
   | some l=>
    rw[a] at h;cases h
    cases i with
    | zero=>simpa using hc
    | succ i=>
     have:=Akd a i (by omega);rw[show o+(i+1)=o+1+i by omega,this];simp
theorem Yy(hs:Sm m wv wr){a:OA}{n c k:Nat}{r:Value}(e:VF m (.slice a n c) r){vs:List Value}(h:H3 wv a k=some vs):∃a' d rs,r = .slice a' n d/\H3 wr a' k=some rs/\AT (VU m) vs rs:=by
 rcases e.slcI with⟨rfl,rfl⟩|⟨b,o,b',d,rfl,f,hc,rfl⟩
 ·exact⟨_,_,_,rfl,rfl,by simp only[H3] at h;cases h;exact .nil⟩
 ·obtain⟨rs,g,i⟩:=Akf hs f (show T5 wv b o k=some vs from h);exact⟨_,_,rs,rfl,g,i⟩
theorem Axk:∀{rs:List Value}{b o:Nat}{w:World}{cs:Array Value}{T:TypeId}{fr:Nat×Nat}{K:WP},w.heap[b]? = some (.cells cs T fr)->o+rs.length<=cs.size->(∀i,i<cs.size->Ph fr i=false) ->
  (∀w' a,w'.heap.size=w.heap.size->(∀x,x≠b->w'.heap[x]? = w.heap[x]?)->w'.heap[b]? = some (.cells a T fr)->a.size=cs.size->(∀i,i<o->a[i]? = cs[i]?)->(∀i,i<rs.length->a[o+i]? = rs[i]?)->(w'.os=w.os/\w'.output=w.output)->K w')->T7 rs b o K w
 | [],b,o,w,cs,T,fr,K,h,_,_,c=>c w cs rfl (λ_ _=>rfl) h rfl (λ_ _=>rfl) (λi hi=>by simp at hi) ⟨rfl,rfl⟩
 | r::rs,b,o,w,cs,T,fr,K,h,g,d,c=>by
  simp only[List.length_cons] at g;unfold T7;refine⟨by rw[EE h,Array.getElem?_eq_getElem<|by omega];rfl,by rw[G0 h];exact d _ (by omega),?_⟩
  have j:(w.setCell ⟨b,o,none⟩ r).heap[b]? = some (.cells (cs.setIfInBounds o r) T fr):=by rw[BV h,if_pos rfl]
  refine Axk j (by simp;omega) (λi hi=>d i<|by simpa using hi) λw' a k l m n e p e7=>?_;refine c w' a (by rw[k,D9]) (λx f=>by rw[l x f,BV h,if_neg f]) m (by rw[n];simp) (λi hi=>?_) (λi hi=>?_) e7
  ·rw[e i<|by omega,Array.getElem?_setIfInBounds_ne<|by omega]
  ·cases i with
   | zero=>
    rw[Nat.add_zero,e o<|by omega,Array.getElem?_setIfInBounds_self_of_lt<|by omega];simp
   | succ i=>
    rw[show o+(i+1)=o+1+i by omega,p i<|by simpa using hi];simp
theorem Axq(hs:Sm m wv wr){a:OA}{n c d:Nat}{vs rs:List Value}{a':OA}{n' j:Nat}(k:VF m (.slice a n c) (.slice a' n' j))(f:AT (VF m) vs rs){K g:WP}(e:stA a d vs K wv)
  (i:∀wv' wr',K wv'->Sm m wv' wr'->St m wv wr m wv' wr'->g wr'):stA a' d rs g wr:=by
 rcases k.slcI with⟨rfl,h⟩|⟨b,o,b',c2,rfl,l,hc,h⟩
 ·cases h;cases f with
  | nil=>exact i _ _ e hs .refl
  | cons _ _=>exact e.elim
 ·cases h;exact YB hs l f e i
abbrev SR(m:Mp)(x y:Sl):Prop:=VF m (.slice x.a x.n x.c) (.slice y.a y.n y.c)
theorem Acj(z:List Value):∀n,(CH z n).length=n*z.length
 | 0=>by simp[CH]
 | n+1=>by simp[CH,Acj z n,succ_mul,Nat.add_comm]
theorem MO{z:List Value}(h:AT (VF m) z z):∀n,AT (VF m) (CH z n) (CH z n)
 | 0=>.nil
 | n+1=>h.app (MO h n)
theorem AT.at{e f:Type}{R:e->f->Prop}{l:List e}{c:List f}(h:AT R l c){i:Nat}{a:e}(d:l[i]? = some a):∃b,c[i]? = some b/\R a b:=h.get d
theorem VS:∀{vs rs:List Value},AT (VU m) vs rs->Mv vs=true->AT (VF m) vs rs
 | [],_,.nil,_=>.nil
 | v::vs,r::rs,.cons c a,h=>by
  have b:Mv vs=true/\isU v=false:=by cases v <;> first|exact⟨h,rfl⟩|cases h
  exact .cons (c.resolve_left λe=>by rw[b.2] at e;cases e) (VS a b.1)
theorem Sm.grow(hs:Sm m wv wr){cs rs:List Value}{T T':TypeId}{b':Nat}{ds:Array Value}{fr:Nat×Nat}{cv cr e:Nat}(h:AT (VU m) cs rs)(o:wr.heap[b']? = some (.cells ds T' fr))(p:∀i,i<rs.length->ds[i]? = rs[i]?)
  (a:∀i,i<ds.size->Ph fr i=false) (b:cs.length=cv*e) (c:cr*e<=ds.size) (hc:cv<=cr) (q:0<cv) (k:∀b2 n,wv.heap[b2]? = some n->live n=true->m.f b2≠some b') :
  Sm (m.push wv.heap.size b'<|some (cv,cr,e)) (wv.alloc<|.cells cs.toArray T) wr:=by
 have l:m.le (m.push wv.heap.size b'<|some (cv,cr,e)):=Mp.push_le (hs.none_at<|le_refl _);have d:cs.length<=ds.size:=by rw[b];exact le_trans (Nat.mul_le_mul_right _ hc) c
 refine hs.push o (.cells (by simpa using d) (λi v hi=>?_) (λi hi _=>a i<|by simp at hi;omega) (λr s x j=>?_) λj=>by simp[Mp.push] at j) k λ_ _ _ h=>by cases h;exact hc
 ·have g:cs[i]? = some v:=by simpa using hi
  obtain⟨t,u,w⟩:=h.at g;have:i<rs.length:=by rw[h.len];exact(List.getElem?_eq_some_iff.1 g).1
  exact⟨t,by rw[p i this];exact u,w.imp id λh=>h.up l⟩
 ·simp only[Mp.push,if_true] at j;cases j;exact⟨by simpa using b,c,hc,q,a⟩
theorem Aoe(hs:Sm m wv wr){e size bytes n:Nat}{z:List Value}{s s':Sl}{new new':World->Option (List Value)}(ha:SR m s s')(hz:z.length=size)
  (hnew:∀vs,new wv=some vs->∃rs,new' wr=some rs/\AT (VU m) vs rs):SW SR m wv wr (λK=>PE e size bytes z s n new K wv) λK=>Ahw e size bytes z s' n new' K wr:=λK Kr ⟨vs,hn,⟨hok,hvl,hsize⟩,hk⟩ h'=>by
 obtain⟨rs,hn',hvu⟩:=hnew vs hn;have hvr:=VS hvu hok;refine⟨rs,hn',Yq hvr hok,?_⟩;obtain⟨a,sn,sc⟩:=s;obtain⟨a',sn',sc'⟩:=s';have hsn:sn'=sn:=by
  rcases VF.slcI ha with⟨_,h⟩|⟨_,_,_,_,_,_,_,h⟩ <;> cases h <;> rfl
 subst hsn;have hcc:sc<=sc':=by
  rcases VF.slcI ha with⟨_,h⟩|⟨_,_,_,_,_,_,hc,h⟩
  ·cases h;exact le_refl _
  ·cases h;exact Ahx hs.gl hc
 dsimp only at hk ⊢
 by_cases hle:sn'+n<=sc
 ·rw[if_pos hle] at hk;rw[if_pos (by omega)];refine Axq hs ha hvr hk λwv' wr' hk hs' ht=>h' _ _ _ _ _ hk ?_ hs' ht;show VF m (.slice a (sn'+n) sc) (.slice a' (sn'+n) sc');rcases VF.slcI ha with⟨h1,h⟩|⟨_,_,_,_,h1,h2,hc,h⟩
  ·cases h;cases h1;exact .atom rfl
  ·cases h;cases h1;exact .slc h2 hc
 ·rw[if_neg hle] at hk;obtain⟨hcap,hroom,old,hold,hk⟩:=hk;obtain⟨a2,c2,rold,h1,hrold,holdr⟩:=Yy hs ha hold;cases h1;have hol:old.length=sn'*size:=by
   cases a with
   | none=>
    have h2:sn'=0:=hroom.1;simp only[H3] at hold;cases hold;simp[h2]
   | some a0=>
    obtain⟨b,o,sp⟩:=a0;cases sp with
    | none=>exact Ake (show T5 wv b o _=some old from hold)
    | some _=>simp[H3] at hold
  have hall:AT (VU m) (old++vs) (rold++rs):=holdr.app hvu;have hlen:(old++vs).length=(sn'+n)*size:=by simp[hol,hvl,add_mul]
  by_cases hle':sn'+n<=sc'
  ·
   rw[if_pos hle'];rcases VF.slcI ha with⟨h1,h⟩|⟨b,o,b',c',h1,hb,hc,h⟩
   ·cases h;omega
   ·cases h;cases h1
    have hg:∃cv cr e',m.g b=some (cv,cr,e')/\sc=cv/\o=0/\cr=sc':=by
     unfold Pf at hc;split at hc
     ·cases hc;omega
     ·rename_i cv cr e' hg;split at hc
      ·rename_i h1;cases hc;exact⟨_,_,_,hg,h1.1,h1.2,rfl⟩
      ·cases hc
    obtain⟨cv,cr,e',hg,rfl,rfl,rfl⟩:=hg;obtain⟨cs,T,lo,hi,hbo,hfit,hfree⟩:=hroom;obtain⟨b2,o',h4,h5,h6⟩:=hs.obj b _ hbo rfl;rw[hb] at h4;cases h4
    cases h6 with
    | @cells _ ds _ T' _ fr' hsz hvv hf hgg _=>
     obtain⟨g1,g2,g3,g4,g5⟩:=hgg _ _ _ hg;have he:size<=e':=by
      rw[zero_add,g1] at hfit;exact Nat.le_of_mul_le_mul_left hfit g4
     have hfit2:(sn'+n)*size<=ds.size:=le_trans (Nat.mul_le_mul hle' he) g2;have hrl:rs.length=n*size:=by rw[hvr.len,hvl]
     show T7 rs b' (0+sn'*size) _ wr;refine Axk h5 (by rw[hrl,zero_add,<- add_mul];exact hfit2) g5 λwr' ds' e1 e2 e3 e4 e5 e6 e7=>?_
     have hno:∀b2 o2,(Fb wv b).heap[b2]? = some o2->live o2=true->m.f b2≠some b':=λb2 o2 hb2 hl hf2=>by
      rcases Kg hb2 with⟨_,rfl⟩|⟨hne,hb2⟩
      ·cases hl
      ·exact hne (hs.inj _ _ _ _ _ hb2 hl hbo rfl hf2 hb)
     have hs2:Sm m (Fb wv b) wr':=hs.kill.real (by omega) λx p y hx hl hf2=>e2 y λe=>hno x p hx hl (by rw[hf2,e]);have hrol:rold.length=sn'*size:=by rw[holdr.len,hol]
     have hs3:=hs2.grow (T:=e) (cs:=old++vs) (rs:=rold++rs) (cv:=sn'+n) (cr:=cr) (e:=size) hall e3 (λi hi=>?_) (by rw[e4];exact g5) hlen (by rw[e4];exact le_trans (Nat.mul_le_mul_left _ he) g2) hle' (by omega) hno
     ·refine h' _ _ _ _ _ hk ?_ hs3 ⟨?_,by omega,λx hx hn=>e2 x λe=>?_,λx hw=>.inl ?_,λy x hf2=>?_,e7⟩
      ·refine .slc (b:=wv.heap.size) (b':=b') (o:=0) ?_ ?_
       ·have:(Fb wv b).heap.size=wv.heap.size:=Ib;rw[<- this];exact Mp.push_at
       ·unfold Pf;have:(Fb wv b).heap.size=wv.heap.size:=Ib;simp[Mp.push,this]
      ·exact Mp.push_le (hs2.none_at (le_refl _))
      ·subst e;refine hn ⟨b,_,hbo,⟨0,?_,?_⟩,hb⟩
       ·rw[g1];exact mul_pos g4 (by omega)
       ·have:=hfree 0 (by rw[g1];exact mul_pos g4 (by omega));simp only[Ph,Bool.and_eq_false_iff,decide_eq_false_iff_not]
        by_cases hlo:lo<=0
        ·right;intro hh;exact this ⟨hlo,hh⟩
        ·left;exact hlo
      ·obtain⟨y,p,hy,hp,hf2⟩:=hw;have hfb:Aji (.cells cs T (lo,hi)):=by
        refine⟨0,by rw[g1];exact mul_pos g4 (by omega),?_⟩;have:=hfree 0 (by rw[g1];exact mul_pos g4 (by omega))
        simp only[Ph,Bool.and_eq_false_iff,decide_eq_false_iff_not]
        by_cases hlo:lo<=0
        ·right;intro hh;exact this ⟨hlo,hh⟩
        ·left;exact hlo
       by_cases ey:y=(Fb wv b).heap.size
       ·subst ey;rw[Mp.push_at] at hf2;cases hf2
        exact⟨b,_,hbo,hfb,hb⟩
       ·have hlt:=BX hy;rw[Bp] at hlt;have hlt:y<(Fb wv b).heap.size+1:=hlt;have hy:((Fb wv b).alloc (.cells (old++vs).toArray e)).heap[y]? = some p:=hy;have hy:(Fb wv b).heap[y]? = some p:=by rw[CX (by omega)] at hy;exact hy
        rcases Kg hy with⟨_,rfl⟩|⟨_,hy⟩
        ·exact hp.elim
        ·simp only[Mp.push,if_neg ey] at hf2;exact⟨y,p,hy,hp,hf2⟩
      ·by_cases ey:y=(Fb wv b).heap.size
       ·subst ey;rw[Mp.push_at] at hf2;cases hf2
        refine .inr (.inl ⟨b,_,hbo,⟨0,by rw[g1];exact mul_pos g4 (by omega),?_⟩,hb⟩);have:=hfree 0 (by rw[g1];exact mul_pos g4 (by omega))
        simp only[Ph,Bool.and_eq_false_iff,decide_eq_false_iff_not]
        by_cases hlo:lo<=0
        ·right;intro hh;exact this ⟨hlo,hh⟩
        ·left;exact hlo
       ·simp only[Mp.push,if_neg ey] at hf2;exact .inl hf2
     ·by_cases hi2:i<rold.length
      ·rw[e5 i (by omega),List.getElem?_append_left hi2];have hrl2:T5 wr b' 0 (sn'*size)=some rold:=hrold;have:=Akd hrl2 i (by omega);rw[zero_add,EE h5] at this;exact this
      ·have hi:i<rold.length+rs.length:=by simpa using hi
       have h8:=e6 (i-rold.length) (by omega);rw[List.getElem?_append_right (by omega),<- h8];congr 1;omega
  ·
   rw[if_neg hle'];refine⟨hcap sc' (by omega),rold,hrold,λN hN=>?_⟩;have hsk:Sm m (K9 wv a) wr.drew:=by
    cases a with
    | none=>exact⟨hs.dom,hs.gdom,hs.rng,hs.obj,hs.gl,hs.inj⟩
    | some a0=>
     have hk:Sm m (Fb wv a0.block) wr:=hs.kill;exact(⟨hk.dom,hk.gdom,hk.rng,hk.obj,hk.gl,hk.inj⟩:Sm m (Fb wv a0.block) wr.drew)
   have hks:(K9 wv a).heap.size=wv.heap.size:=by cases a with
    | none=>rfl
    | some _=>exact Ib
   have hs2:Sm m (K9 wv a) (wr.drew.alloc (.cells (rold++rs++CH z (N-(sn'+n))).toArray e)):=hsk.real (by rw[Bp];omega) λx p y _ _ hf=>CX (hsk.rng _ _ hf);have hal:(rold++rs++CH z (N-(sn'+n))).length=N*size:=by
    rw[List.length_append,hall.len,hlen,Acj,hz,<- add_mul];congr 1;omega
   have hs3:=hs2.grow (T:=e) (T':=e) (cs:=old++vs) (rs:=rold++rs) (b':=wr.heap.size) (ds:=(rold++rs++CH z (N-(sn'+n))).toArray) (fr:=(0,0)) (cv:=sn'+n) (cr:=N) (e:=size) hall En (λi hi=>by rw[getElem?_toArray,List.getElem?_append_left hi])
    (λ_ _=>by simp[Ph]) hlen (by simp only[List.size_toArray,hal];exact le_refl _) hN (by omega) (λb2 o2 h2 hl hf=>by have:=hsk.rng _ _ hf;exact absurd this (by show ¬wr.heap.size<wr.heap.size;omega))
   refine h' _ _ _ _ _ hk ?_ hs3 ⟨Mp.push_le (hs2.none_at (le_refl _)),by rw[Bp];show wr.heap.size<=wr.heap.size+1;omega,λx hx _=>CX hx,λx hw=>?_,λy x hf2=>by
    by_cases ey:y=(K9 wv a).heap.size
    ·subst ey;rw[Mp.push_at] at hf2;cases hf2;exact .inr (.inr (le_refl _))
    ·simp only[Mp.push,if_neg ey] at hf2;exact .inl hf2,rfl,rfl⟩
   ·refine .slc (b:=wv.heap.size) (b':=wr.heap.size) (o:=0) ?_ ?_
    ·rw[<- hks];exact Mp.push_at
    ·unfold Pf;simp[Mp.push,hks]
   ·obtain⟨y,p,hy,hp,hf2⟩:=hw
    by_cases e2:y=(K9 wv a).heap.size
    ·subst e2;rw[Mp.push_at] at hf2;cases hf2
     exact .inr (le_refl _)
    ·left;have hlt:=BX hy;rw[Bp] at hlt;have hy:(K9 wv a).heap[y]? = some p:=by rw[CX (by omega)] at hy;exact hy
     simp only[Mp.push,if_neg e2] at hf2;cases a with
     | none=>exact⟨y,p,hy,hp,hf2⟩
     | some a0=>
      rcases Kg hy with⟨_,rfl⟩|⟨_,hy⟩
      ·exact hp.elim
      ·exact⟨y,p,hy,hp,hf2⟩
end
end Go.Hb
namespace Go.Hb
def BF:CI:=λP f a wv R=>∀m c wr,AT (VR m) a.toList c.toList->Sm m wv wr ->
 Calls P f c wr λd wr'=>∃e wv' b v r,R e wv'/\e = .returned v/\d = .returned r/\VR b v r/\Sm b wv' wr'/\St m wv wr b wv' wr'
section
variable{m:Mp}{wv wr:World}{P:Program}{ρ ρr:Dy}
theorem VR.ck{k:CK}{x:k.ty}{r:Value}(h:VR m (k.val x) r):∃y:k.ty,r=k.val y:=by
 cases k with
 | any=>exact⟨r,rfl⟩
 | _=>exact VF.ck (h.flat (by simp[CK.val])<|by simp[CK.val])
theorem Ug:∀{ks:List CK}{vs rs:List Value},exV ks (λl=>l=vs)->AT (VF m) vs rs->exV ks (λl=>l=rs)
 | [],vs,rs,h,a=>by
  have h:[]=vs:=h;subst h;cases a;exact rfl
 | k::ks,vs,rs,⟨x,h⟩,a=>by
  obtain⟨l,b,c⟩:=MV _ h;have b:k.val x::l=vs:=b;subst b;cases a with
  | cons d e=>
   obtain⟨y,rfl⟩:=d.ck;have f:=Ug (c (λg=>g=l) rfl) e;obtain⟨n,i,j⟩:=MV _ f;exact⟨y,j _<|by rw[i]⟩
theorem Ue{t:TypeId}{v r:Value}(h:exT P t λu=>u=v)(a:VR m v r):exT P t λu=>u=r:=by
 unfold exT at h ⊢;cases b:Ud P 9 t with
 | none=>rw[b] at h;exact h.elim
 | some ks=>
  rw[b] at h;dsimp only at h ⊢;cases c:G8 P t with
  | true=>
   rw[c] at h;dsimp only at h ⊢;obtain⟨l,d,e⟩:=MV _ h;subst d;obtain⟨f,rfl,hc⟩:=a.agg;have g:=Ug (e (λi=>i=l) rfl) (by simpa using hc);obtain⟨o,j,n⟩:=MV _ g;exact n _ (by rw[j])
  | false=>
   rw[c] at h;dsimp only at h ⊢
   match ks with
   | []=>exact h.elim
   | _::_::_=>exact h.elim
   | [k]=>
    dsimp only at h ⊢;cases hi:Dg P t with
    | true=>
     rw[hi] at h;dsimp only at h ⊢;rcases h with rfl|⟨t,u,rfl⟩
     ·exact .inl (a.atom rfl).symm
     ·obtain⟨p,rfl,_⟩:=a.ifc;exact .inr ⟨_,_,rfl⟩
    | false=>
     rw[hi] at h;dsimp only at h ⊢;obtain⟨x,rfl⟩:=h;obtain⟨y,rfl⟩:=a.ck;exact⟨y,rfl⟩
theorem Rv:∀{ts:List TypeId}{vs rs:List Value},WO P ts (λl=>l=vs)->AT (VG m) vs rs->WO P ts (λl=>l=rs)
 | [],vs,rs,h,a=>by
  have h:[]=vs:=h;subst h;cases a;exact rfl
 | t::ts,vs,rs,h,a=>by
  obtain⟨v,d,e⟩:=WC _ h;obtain⟨l,b,f⟩:=JZ _ d;have b:v::l=vs:=b;subst b;cases a with
  | @cons _ r _ s g i=>
   have j:=Ue (e (λu=>u=v) rfl) (.one g);have k:=Rv (f (λn=>n=l) rfl) i;obtain⟨u,o,p⟩:=WC _ j;obtain⟨w,q,c⟩:=JZ _ k;exact p _ (c _<|by rw[o,q])
theorem Anr{ts:List TypeId}{v r:Value}(h:TN P ts λu=>u=v)(c:VR m v r):TN P ts λu=>u=r:=by
 match ts with
 | []=>
  have h:Value.tuple #[]=v:=h;subst h;obtain⟨a,rfl,hc⟩:=c.tuple;have:a=#[]:=by
   have b:=hc.len;simp at b;exact b
  subst this;exact rfl
 | [t]=>exact Ue h c
 | t::u::ts=>
  obtain⟨l,d,b⟩:=JZ _ (show WO P (t::u::ts) (λvs=>Value.tuple vs.toArray=v) from h);subst d;obtain⟨a,rfl,hc⟩:=c.tuple;have e:=Rv (b (λf=>f=l) rfl) (by simpa using hc);obtain⟨j,g,i⟩:=JZ _ e;exact i (λvs=>Value.tuple vs.toArray=Value.tuple a) (by rw[g])
theorem Adz(hs:Sm m wv wr){f:FuncId}{args a:List Value}(h:AT (VR m) args a){ts:List TypeId}:SW VR m wv wr (λK=>@TZ (extOf BF) P f args (TN P ts) K wv) λK=>@TZ Bn P f a (TN P ts) K wr:=λK t b i=>by
 have b:BF P f args.toArray wv λe w'=>TN P ts λv=>e = .returned v/\K v w':=b;refine(b m a.toArray wr (by simpa using h) hs).mono λw wr' ⟨e,wv',x,v,r,j,k,l,g,n,o⟩=>?_;subst k l;obtain⟨y,⟨p,q⟩,s⟩:=WD _ j;cases p;obtain⟨z,c,d⟩:=WD _ (Anr (s (λu=>u=v) rfl) g);subst c;exact d _ ⟨rfl,i _ _ _ _ _ q g n o⟩
theorem Ahv{l a:List Value}(h:AT (VR m) l a):a.any isU=l.any isU:=by
 induction h with
 | nil=>rfl
 | cons h _ b=>simp[b,h.isU]
theorem A59(hs:Sm m wv wr){f fr:Value}{args b:List Value}(c:VR m f fr)(d:AT (VR m) args b):SW VR m wv wr (λK=>@L4 (extOf BF) P f args K wv) λK=>@L4 Bn P fr b K wr:=by
 unfold L4;cases f <;> try exact SW.no
 obtain rfl:=c.fun;rename_i e first cap
 cases e <;> try exact SW.no
 rename_i f;have a:Cq (.func (.func f) first cap)=true:=by
  cases c.flat (by simp) (by simp) with
  | atom h=>exact h
 have g:first=#[]/\cap=#[]:=by
  simp only[Cq,and_eq_true,beq_iff_eq] at a;exact⟨Array.eq_empty_of_size_eq_zero a.1,Array.eq_empty_of_size_eq_zero a.2⟩
 obtain⟨rfl,rfl⟩:=g;dsimp only;cases P.funcs[f]? with
 | none=>exact SW.no
 | some i=>
  dsimp only;rw[Ahv d];exact SW.cndW (m:=m) (wv:=wv) (wr:=wr) (Adz hs<|by simpa using d) SW.no
theorem Bba(hs:Sm m wv wr){ty:TypeId}{x xr:Value}{a:String}{args c:List Value}(g:VR m x xr)(d:AT (VR m) args c):SW VR m wv wr (λK=>@Yb (extOf BF) P ty x a args K wv) λK=>@Yb Bn P ty xr a c K wr:=by
 unfold Yb;cases x <;> try exact SW.no
 obtain⟨t,rfl,e⟩:=g.ifc;dsimp only;rw[Ahv d];refine SW.cndW (m:=m) (wv:=wv) (wr:=wr) (λK i ⟨f,j,⟨b,k⟩,l,n,p,q,h⟩ r=>?_) SW.no;subst k;rcases VF.ptrI e with⟨h,_⟩|⟨b2,o,b',h,s,rfl⟩
 ·cases h
 ·cases h;exact⟨f,_,j,l b' wr,n,p,q,Adz hs (.cons (.one<|.flat e) d) K i h r⟩
theorem Axl(hs:Sm m wv wr){t:TypeId}(a:zB P t=true):SW VR m wv wr (λK=>Jt P t K wv) λK=>Jt P t K wr:=by
 unfold Jt;cases h:Di P t with
 | none=>exact SW.no
 | some z=>exact SW.map (Tq hs<|JU a h) λc b b' h=>.one (.flat<|.ptr h.1)
theorem Ba7(hs:Sm m wv wr){t:TypeId}{v r:Value}(a:VR m v r):SW VR m wv wr (λK=>YT t v K wv) λK=>YT t r K wr:=by
 unfold YT;rw[a.isU];refine SW.cndW (m:=m) (wv:=wv) (wr:=wr) SW.no ?_;cases c:DS v with
 | false=>
  rw[(GE a c).2];exact SW.cndW (m:=m) (wv:=wv) (wr:=wr) SW.no (SW.map (Tq hs (GE a c).1) λd b b' h=>.one<|.flat<|.ptr h.1)
 | true=>exact SW.no
theorem Aof(hs:Sm m wv wr){t:TypeId}(c:zE P t=true){n:Nat}{ps a:List (Nat×Value)}(d:PR2 m ps a):SW VR m wv wr (λK=>CZ P t n ps K wv) λK=>CZ P t n a K wr:=by
 unfold CZ;cases f:P.underlying t with
 | none=>exact SW.no
 | some u=>
  cases u <;> try exact SW.no
  rename_i e;dsimp only;cases h:Di P e with
  | none=>exact SW.no
  | some z=>
   refine SW.cndW (m:=m) (wv:=wv) (wr:=wr) ?_ SW.no;cases g:GF (λi=>some (i*Ex P e,Ex P e)) (CH z n) ps with
   | none=>exact SW.no
   | some cs=>
    obtain⟨rs,j,k⟩:=RK (MO (JU (Ax8 c f) h) n) d g;rw[j];exact SW.map (Tq hs k) λl b b' h=>.one (.flat<|.slc h.1<|by unfold Pf;rw[h.2])
theorem A6a(hs:Sm m wv wr){t:TypeId}(d:zE P t=true){l c a cr:Value}(f:VR m l a)(hc:VR m c cr):SW VR m wv wr (λK=>D7 P t l c K wv) λK=>D7 P t a cr K wr:=by
 unfold D7;cases g:P.underlying t with
 | none=>exact SW.no
 | some u=>
  cases u <;> try exact SW.no
  rename_i e;dsimp only;cases h:Di P e with
  | none=>exact SW.no
  | some z=>
   cases l <;> try exact SW.no
   obtain rfl:=f.int;cases c <;> try exact SW.no
   obtain rfl:=hc.int;refine SW.cndW (m:=m) (wv:=wv) (wr:=wr) ?_ SW.no;exact SW.and id (SW.map (Tq hs<|MO (JU (Ax8 d g) h) _) λi b b' h=>.one<|.flat<|.slc h.1<|by unfold Pf;rw[h.2])
theorem Aym{s:BA}{rs:List Value}(h:AT (VU m) (GB s) rs):rs=GB s:=by
 have:∀{l:List UInt8}{rs:List Value},AT (VU m) (l.map λb=>Value.int .u8 b.toNat) rs->rs=l.map λb=>Value.int .u8 b.toNat:=λ{l}=>by
  induction l with
  | nil=>intro rs h;cases h;rfl
  | cons b l a=>intro rs h;cases h with|cons h c=>rw[(h.resolve_left<|by simp[isU]).int,a c];rfl
 exact this h
theorem Axm(hs:Sm m wv wr){s d:TypeId}{x r:Value}(f:VR m x r):SW VR m wv wr (λK=>I1 P s d x K wv) λK=>I1 P s d r K wr:=by
 unfold I1;cases x <;> try exact SW.no
 rename_i a n c;have key:∀{K g:BA->WP}{a' b},VF m (.slice a n c) (.slice a' n b)->b2s a n K wv->(∀s,K s wv->g s wr)->b2s a' n g wr:=λ{K g a' b} l ⟨s,o,p⟩ i=>by
  obtain⟨w,c2,rs,q,k,t⟩:=Yy hs l o;cases q;rw[Aym t] at k;exact⟨s,k,i s p⟩
 have f:=f.flat (by simp) (by simp);have v:∃a' b,r = .slice a' n b:=by
  rcases VF.slcI f with⟨_,h⟩|⟨_,_,_,_,_,_,_,h⟩
  ·exact⟨_,_,h⟩
  ·exact⟨_,_,h⟩
 obtain⟨a',b,rfl⟩:=v;dsimp only;cases P.underlying s with
 | none=>exact SW.no
 | some u=>
  cases u <;> try exact SW.no
  rename_i e;dsimp only;cases P.underlying e with
  | none=>exact SW.no
  | some u=>
   cases u <;> try exact SW.no
   exact SW.cndW (m:=m) (wv:=wv) (wr:=wr) (λK g j i=>key f j λs j=>i _ _ _ _ _ j (VR.ofAtom rfl) hs .refl) SW.no
theorem Ba8(hs:Sm m wv wr){t:TypeId}(i:zE P t=true){x r:Value}(b:VR m x r):SW UR m wv wr (λK:Unit->WP=>MT P t x (K ()) wv) λK=>MT P t r (K ()) wr:=by
 unfold MT;cases x <;> try exact SW.no
 rename_i a n c;have b:=b.flat (by simp) (by simp);have j:∃a' g,r = .slice a' n g:=by
  rcases VF.slcI b with⟨_,h⟩|⟨_,_,_,_,_,_,_,h⟩
  ·exact⟨_,_,h⟩
  ·exact⟨_,_,h⟩
 obtain⟨a',g,rfl⟩:=j;dsimp only;cases k:P.underlying t with
 | none=>exact SW.no
 | some u=>
  cases u <;> try exact SW.no
  rename_i e;dsimp only;cases h:Di P e with
  | none=>exact SW.no
  | some z=>exact SW.cndW (m:=m) (wv:=wv) (wr:=wr) (λK p d l=>Axq hs b (MO (JU (Ax8 i k) h) n) d λwv' wr' d f o=>l _ () _ () _ d trivial f o) SW.no
theorem To(hs:Sm m wv wr){e a b n:Nat}{z:List Value}{s s':Sl}{new c:World->Option (List Value)}(f:SR m s s')(g:z.length=a)
  (d:∀vs,new wv=some vs->∃rs,c wr=some rs/\AT (VU m) vs rs):SW SR m wv wr (λK=>@Bl (extOf BF) e a b z s n new K wv) λK=>@Bl Bn e a b z s' n c K wr:=Aoe hs f g d
theorem Ahf(hs:Sm m wv wr){t t2:TypeId}(w:zE P t=true){s x sr xr:Value}(d:VR m s sr)(j:VR m x xr):SW VR m wv wr (λK=>@Gp (extOf BF) P t t2 s x K wv) λK=>@Gp Bn P t t2 sr xr K wr:=by
 unfold Gp;cases y:P.underlying t with
 | none=>exact SW.no
 | some u=>
  cases u <;> try exact SW.no
  rename_i e;dsimp only;cases h:Di P e with
  | none=>exact SW.no
  | some z=>
   cases s <;> try exact SW.no
   rename_i a n c;have d:=d.flat (by simp) (by simp);have l:∃a' f,sr = .slice a' n f:=by
    rcases VF.slcI d with⟨_,h⟩|⟨_,_,_,_,_,_,_,h⟩
    ·exact⟨_,_,h⟩
    ·exact⟨_,_,h⟩
   obtain⟨a',f,rfl⟩:=l;dsimp only;cases hc:((P.info? e).isSome && beq z.length (Ex P e) && !beq (byT P e) 0) with
   | false=>exact SW.no
   | true=>
    have k:z.length=Ex P e:=by
     simp only[and_eq_true] at hc;exact eq_of_beq_eq_true hc.1.2
    dsimp only[cond_true];cases x <;> try exact SW.no
    ·rename_i b;obtain rfl:=j.str;refine SW.cndW (m:=m) (wv:=wv) (wr:=wr) (SW.map (rel:=SR) (rel2:=VR) (g:=λs:Sl=>Value.slice s.a s.n s.c) (gr:=λs:Sl=>Value.slice s.a s.n s.c) (To (s:=⟨a,n,c⟩) (s':=⟨a',n,f⟩) hs d k ?_) λo s s' h=>.one<|.flat h) SW.no;exact λvs i=>⟨vs,i,by cases i;exact AT.self λv i=>.inr<| .atom (by obtain⟨b,_,rfl⟩:=mem_map.1 i;rfl)⟩
    ·rename_i A p c2;have j:=j.flat (by simp) (by simp);have l:∃a' f,xr = .slice a' p f:=by
      rcases VF.slcI j with⟨_,h⟩|⟨_,_,_,_,_,_,_,h⟩
      ·exact⟨_,_,h⟩
      ·exact⟨_,_,h⟩
     obtain⟨B,c3,rfl⟩:=l;refine SW.cndW (m:=m) (wv:=wv) (wr:=wr) (SW.map (rel:=SR) (rel2:=VR) (g:=λs:Sl=>Value.slice s.a s.n s.c) (gr:=λs:Sl=>Value.slice s.a s.n s.c) (To (s:=⟨a,n,c⟩) (s':=⟨a',n,f⟩) hs d k ?_) λo s s' h=>.one<|.flat h) SW.no;exact λvs i=>by
      obtain⟨C,c4,rs,q,r,v⟩:=Yy hs j i;cases q;exact⟨rs,r,v⟩
end
end Go.Hb
namespace Go.Hb
section
variable{m:Mp}{wv wr:World}{P:Program}{ρ ρr:Dy}
theorem SW.unit{i b:Type}{rel:Mp->i->b->Prop}{F G:WP->Prop}{x:i}{xr:b}(h:SW UR m wv wr (λK:Unit->WP=>F<|K ()) λK=>G<|K ())(d:∀c,rel c x xr):SW rel m wv wr (λK:i->WP=>F<|K x) λK=>G (K xr):=λK e a f=>
 h (λ_=>K x) (λ_=>e xr) a λc _ wv' _ wr' a _ hs g=>f _ _ _ _ _ a (d _) hs g
theorem A7g(hs:Sm m wv wr)(a:ER m ρ ρr){ty:TypeId}{o:Op}(e:Yr P o=true):SW VR m wv wr (λK=>@OP (extOf BF) P ρ ty o K wv) λK=>@OP Bn P ρr ty o K wr:=by
 unfold OP;rcases Aj6 a hs.gl e with⟨j,p⟩|⟨F,y,j,p,u⟩
 ·rw[j,p];dsimp only;cases o <;> simp only[Yr,and_eq_true,false_eq_true] at e <;> try exact SW.no
  case load t x=>
   dsimp only;cases w:IF x with
   | true=>exact SW.no
   | false=>
    rw[w,Bool.false_or,and_eq_true] at e;exact SW.cndW (m:=m) (wv:=wv) (wr:=wr) SW.no (Akn hs<|a.ev e.1)
  case store t x v=>exact SW.unit (F:=λk=>FH P t _ _ k wv) (G:=λk=>FH P t _ _ k wr) (Axr hs (a.ev e.1)<|a.ev e.2) λ_=>Iw
  case alloc t=>exact Axl hs e
  case box t v=>exact Ba7 hs (a.ev e)
  case buildSlice t n ps=>exact Aof hs e.1 (Nt a e.2)
  case makeSlice t l c=>exact A6a hs e.1.1 (a.ev e.1.2) (a.ev e.2)
  case convert s d x=>exact Axm hs (a.ev e)
  case call c=>
   obtain⟨h,g⟩:=e;dsimp only;cases hc:c.callee with
   | value f=>
    simp only[hc] at h;exact A59 hs (a.ev h) (WM a g)
   | invoke r q=>
    simp only[hc] at h;exact Bba hs (a.ev h) (WM a g)
   | builtin b=>
    simp only[hc] at h;have i:=all_eq_true.1 h;cases b <;> try exact SW.no
    all_goals dsimp only
    case append=>
     match c.args.toList,c.argTypes.toList,g,i with
     | [s,x],[t,t2],g,i=>
      simp only[all_cons,all_nil,Bool.and_true,and_eq_true] at g;exact Ahf hs (i t mem_cons_self) (a.ev g.1) (a.ev g.2)
     | [],_,_,_=>exact SW.no
     | [_],_,_,_=>exact SW.no
     | _::_::_::_,_,_,_=>exact SW.no
     | [_,_],[],_,_=>exact SW.no
     | [_,_],[_],_,_=>exact SW.no
     | [_,_],_::_::_::_,_,_=>exact SW.no
    case clear=>
     match c.args.toList,c.argTypes.toList,g,i with
     | [x],[t],g,i=>
      simp only[all_cons,all_nil,Bool.and_true] at g;exact SW.unit (F:=λk=>MT P t _ k wv) (G:=λk=>MT P t _ k wr) (Ba8 hs (i t mem_cons_self)<|a.ev g) λ_=>Iw
     | [],_,_,_=>exact SW.no
     | _::_::_,_,_,_=>exact SW.no
     | [_],[],_,_=>exact SW.no
     | [_],_::_::_,_,_=>exact SW.no
 ·rw[j,p];exact SW.ofP hs u
theorem Tp{α αr:Type}{rel:Mp->α->αr->Prop}(hρ:ER m ρ ρr){all:List Oper}{o:Oper}{y n:(α->WP)->EW}{yr nr:(αr->WP)->EW}
  (hy:∀ρ ρr,ER m ρ ρr->SW rel m wv wr (λK=>y K ρ wv) λK=>yr K ρr wr) (hn:∀ρ ρr,ER m ρ ρr->SW rel m wv wr (λK=>n K ρ wv) λK=>nr K ρr wr) :
  SW rel m wv wr (λK=>DM all ρ o (y K) (n K) wv) λK=>DM all ρr o (yr K) (nr K) wr:=by
 unfold DM;cases o.guard with
 | none=>exact hy _ _ hρ
 | some p=>
  obtain⟨j,want⟩:=p;dsimp only;cases Ro all j with
  | none=>exact hn _ _ hρ
  | some d=>
   have h:=hρ.gt d;dsimp only;generalize gt ρ d=v at h ⊢;generalize gt ρr d=r at h ⊢;cases v
   case bool b=>
    obtain rfl:=h.boolV;cases b <;> cases want
    ·exact hy _ _ (hρ.pt (VR.ofAtom rfl) _)
    ·exact hn _ _ (hρ.pt (VR.ofAtom rfl) _)
    ·exact hn _ _ (hρ.pt (VR.ofAtom rfl) _)
    ·exact hy _ _ (hρ.pt (VR.ofAtom rfl) _)
   case complex=>exact SW.no
   case slice a n c=>rcases h.slice with⟨_,rfl⟩|⟨_,_,_,_,_,_,_,rfl⟩ <;> exact hn _ _ hρ
   case pointer a=>rcases h.ptr with⟨_,rfl⟩|⟨_,_,_,_,_,rfl⟩ <;> exact hn _ _ hρ
   case agg cs=>obtain⟨_,rfl,_⟩:=h.agg;exact hn _ _ hρ
   case tuple cs=>obtain⟨_,rfl,_⟩:=h.tuple;exact hn _ _ hρ
   case iface t v=>obtain⟨_,rfl,_⟩:=h.ifc;exact hn _ _ hρ
   case func tg f c=>obtain rfl:=h.fun;exact hn _ _ hρ
   case chan c=>cases h.flat (by simp) (by simp) <;> exact hn _ _ hρ
   case map c=>cases h.flat (by simp) (by simp) with|atom h=>exact hn _ _ hρ
   all_goals (obtain rfl:=h.atom rfl;exact hn _ _ hρ)
theorem Ahg{all:List Oper}:∀{l:List Oper}{i b:Dy}{m:Mp}{wv wr:World},(∀o∈l,Yr P o.op=true)->Sm m wv wr->ER m i b->SW (λm=>ER m) m wv wr (λK=>@IN (extOf BF) P all l i K wv) λK=>@IN Bn P all l b K wr
 | [],_,_,_,_,_,_,hs,a=>SW.pt (rel:=λm=>ER m) hs a
 | o::l,i,b,m,wv,wr,c,hs,a=>by
  unfold IN;refine Tp a (y:=λK i=>@OP (extOf BF) P i o.type o.op λv=>@IN (extOf BF) P all l (ptO i o.dst v) K) (yr:=λK i=>@OP Bn P i o.type o.op λv=>@IN Bn P all l (ptO i o.dst v) K) (n:=λK i=>@IN (extOf BF) P all l (ptO i o.dst undef) K) (nr:=λK i=>@IN Bn P all l (ptO i o.dst undef) K)
   (λi b a=>?_) λi b a=>Ahg (λo h=>c o<|mem_cons_of_mem _ h) hs (a.ptO Iw _)
  exact SW.bind (F:=λK=>@OP (extOf BF) P i o.type o.op K wv) (G:=λK=>@OP Bn P b o.type o.op K wr) (F2:=λv K=>@IN (extOf BF) P all l (ptO i o.dst v) K) (G2:=λv K=>@IN Bn P all l (ptO b o.dst v) K) (A7g hs a<|c o mem_cons_self)
   λg x wv' xr wr' e d f=>Ahg (λo h=>c o<|mem_cons_of_mem _ h) d ((a.up f.le).ptO e _)
theorem S8{k:CK}{x:k.ty}(h:Nr k=true):isU (k.val x)=false:=by cases k <;> first|rfl|cases h
def HA(a:Mp)(S:World->Prop):World->Prop:=λw=>∃m wv,a.le m/\S wv/\Sm m wv w
section
variable{m0:Mp}{wv0 wr0:World}{S:World->Prop}(h0:S wv0)(hs0:Sm m0 wv0 wr0)
include h0 hs0
theorem Ahc{b b' o:Nat}{v:Value}(d:m0.le m)(j:m.f b=some b')(h:∀w',S w'->w'.cell? ⟨b,o,none⟩=some v)(e:isU v=false:=by rfl):∃r,VF m v r/\∀w',HA m0 S w'->w'.cell? ⟨b',o,none⟩=some r:=by
 obtain⟨k,r,g,q,i⟩:=hs0.cell (h _ h0) e;have:k=b':=by have:=(d _ _ g).1;rw[j] at this;cases this;rfl
 subst this;refine⟨r,i.up d,λw' ⟨s,wv',a,l,c⟩=>?_⟩;obtain⟨r',n,p⟩:=c.cellAt (h _ l) (a _ _ g).1 e;rw[n,p.fn<|i.up a]
theorem Bbc(d:m0.le m)(hs:Sm m wv wr){k:CK}(e:Nr k=true){b b' o:Nat}(g:m.f b=some b'):SW (CR k) m wv wr (λK=>TK S k b o K wv) λK=>TK (HA m0 S) k b' o K wr:=λK l ⟨x,h,a⟩ i=>by
 obtain⟨r,c,j⟩:=Ahc h0 hs0 d g h (S8 e);obtain⟨y,rfl⟩:=c.ck;exact⟨y,j,i _ _ _ _ _ a c hs .refl⟩
theorem Akm(c:m0.le m):∀{ks:List CK}{b b' o:Nat},ks.all Nr=true->Sm m wv wr->m.f b=some b'->SW (λm=>AT<|VF m) m wv wr (λK=>TL S ks b o K wv) λK=>TL (HA m0 S) ks b' o K wr
 | [],_,_,_,_,hs,_=>SW.pt (rel:=λm=>AT<|VF m) (x:=[]) (xr:=[]) hs .nil
 | k::ks,b,b',o,a,hs,d=>by
  unfold TL;intro K u ⟨x,h,i⟩ j;simp only[all_cons,and_eq_true] at a;obtain⟨r,e,l⟩:=Ahc h0 hs0 c d h (S8 a.1);obtain⟨y,rfl⟩:=e.ck;exact⟨y,l,Akm c a.2 hs d _ _ i λm2 vs n v p q s t g=>j _ _ _ _ _ q (.cons (e.up g.le) s) t g⟩
theorem Axo(j:m0.le m)(hs:Sm m wv wr){t:TypeId}(a:A90 P t=true){x r:Value}(h:VR m x r):SW VR m wv wr (λK=>GO P S t x K wv) λK=>GO P (HA m0 S) t r K wr:=by
 unfold GO;cases x <;> try exact SW.no
 rcases h.ptr with⟨rfl,rfl⟩|⟨b,o,b',rfl,l,rfl⟩
 ·exact SW.no
 ·dsimp only;unfold A90 at a;cases s:Ud P 9 t with
  | none=>exact SW.no
  | some ks=>
   rw[s] at a;refine SW.cndW (m:=m) (wv:=wv) (wr:=wr) ?_ SW.no;cases n:G8 P t with
   | true=>exact SW.map (Akm h0 hs0 j (by rw[n] at a;exact a) hs l) λw x xr h=>.one (.agg h)
   | false=>
    dsimp only;rw[n] at a
    match ks,a with
    | [],_=>exact SW.no
    | _::_::_,_=>exact SW.no
    | [k],a=>
     dsimp only[cond] at a ⊢;cases hi:Dg P t with
     | true=>
      intro K u a q;rcases a with⟨e,c⟩|⟨t,v,e,c⟩
      ·obtain⟨r,d,i⟩:=Ahc h0 hs0 j l e;obtain rfl:=(VR.one<|.flat d).atom rfl;exact .inl ⟨i,q _ _ _ _ _ c (VR.ofAtom rfl) hs .refl⟩
      ·obtain⟨r,d,i⟩:=Ahc h0 hs0 j l e;obtain⟨y,rfl,_⟩:=d.ifcI;exact .inr ⟨t,y,i,q _ _ _ _ _ c (.one<|.flat d) hs .refl⟩
     | false=>
      dsimp only;cases z:EO P t with
      | true=>
       intro K u a q;rcases a with⟨e,c⟩|⟨p,A,e,c⟩
       ·obtain⟨r,d,i⟩:=Ahc h0 hs0 j l e;obtain rfl:=(VR.one<|.flat d).atom rfl;exact .inl ⟨i,q _ _ _ _ _ c (VR.ofAtom rfl) hs .refl⟩
       ·obtain⟨B,C⟩:=Ik A;rw[C] at c;obtain⟨r,d,i⟩:=Ahc h0 hs0 j l e;obtain rfl:=(VR.one<|.flat d).fun;exact .inr ⟨_,JI (K:=λf=>u<|.func (.func f) #[] #[]) B,i,q _ _ _ _ _ c (VR.ofAtom rfl) hs .refl⟩
      | false=>exact SW.map (g:=λx=>k.val x) (gr:=λx=>k.val x) (Bbc h0 hs0 j hs (by rw[hi,z] at a;simpa using a) l) λw x xr h=>.one (.flat h)
theorem Bbe(e:m0.le m)(hs:Sm m wv wr)(d:ER m ρ ρr){o:Op}(a:Yr P o=true):SW VR m wv wr (λK=>stI P S ρ o K wv) λK=>stI P (HA m0 S) ρr o K wr:=by
 unfold stI;rcases Aj6 d hs.gl a with⟨b,c⟩|⟨F,h,b,c,f⟩
 ·rw[b,c];dsimp only;cases o <;> simp only[Yr,and_eq_true,false_eq_true] at a <;> try exact SW.no
  rename_i t x;dsimp only;cases g:IF x with
  | true=>exact SW.no
  | false=>
   rw[g,Bool.false_or,and_eq_true] at a;exact SW.cndW (m:=m) (wv:=wv) (wr:=wr) SW.no (Axo h0 hs0 e hs a.2<|d.ev a.1)
 ·rw[b,c];exact SW.ofP hs f
def Ws(all:List Oper)(A:List Nat):Nat->List Nat->Bool
 | 0,_=>true
 | n+1,a=>match ON all a A with
  | some i=>Ws all A n (i::a)
  | none=>match Lm all a with
   | []=>true
   | [i]=>Ws all A n (i::a)
   | _=>false
theorem Akl{e a:Type}{rel:Mp->e->a->Prop}(c:m0.le m)(hs:Sm m wv wr){b:Bool}{F:(e->WP)->WP}{G:(a->WP)->WP}(h:SW rel m wv wr (λK=>F K wv) λK=>G K wr):SW rel m wv wr (λK=>Al b S (F K) wv) λK=>Al b (HA m0 S) (G K) wr:=by
 cases b
 ·exact h
 ·exact SW.and (λd=>⟨m,wv,c,d,hs⟩) h
theorem ME{all:List Oper}(d:∀o∈all,Yr P o.op=true){A c b:List Nat}:∀{n:Nat}{a:List Nat}{u e:Dy}{m:Mp}{wv wr:World},Ws all A n a=true->m0.le m->Sm m wv wr->ER m u e ->
  SW (λm=>ER m) m wv wr (λK=>@BQ (extOf BF) P all S A c b n a u K wv) λK=>@BQ Bn P all (HA m0 S) A c b n a e K wr
 | 0,a,u,e,m,wv,wr,_,_,hs,f=>by
  unfold BQ;exact SW.cndW (m:=m) (wv:=wv) (wr:=wr) (SW.pt (rel:=λm=>ER m) hs f) SW.no
 | n+1,a,u,e,m,wv,wr,g,j,hs,f=>by
  unfold BQ;unfold Ws at g;cases r:ON all a A with
  | some i=>
   rw[r] at g;dsimp only at g ⊢;cases p:all[i]? with
   | none=>exact SW.no
   | some o=>
    have k:=d o (List.mem_of_getElem? p);refine SW.cndW (m:=m) (wv:=wv) (wr:=wr) ?_ SW.no;refine Tp f (y:=λK u=>stI P S u o.op λv=>@BQ (extOf BF) P all S A c b n (i::a) (ptO u o.dst v) K) (yr:=λK u=>stI P (HA m0 S) u o.op λv=>@BQ Bn P all (HA m0 S) A c b n (i::a) (ptO u o.dst v) K)
     (n:=λK u=>@BQ (extOf BF) P all S A c b n (i::a) (ptO u o.dst undef) K) (nr:=λK u=>@BQ Bn P all (HA m0 S) A c b n (i::a) (ptO u o.dst undef) K) (λu e f=>?_) λu e f=>ME d g j hs (f.ptO Iw _)
    exact SW.bind (F:=λK=>stI P S u o.op K wv) (G:=λK=>stI P (HA m0 S) e o.op K wr) (F2:=λv K=>@BQ (extOf BF) P all S A c b n (i::a) (ptO u o.dst v) K) (G2:=λv K=>@BQ Bn P all (HA m0 S) A c b n (i::a) (ptO e o.dst v) K) (Bbe h0 hs0 j hs f k)
     λs x wv' xr wr' q h l=>ME d g (j.trans l.le) h ((f.up l.le).ptO q _)
  | none=>
   rw[r] at g;dsimp only at g ⊢
   match t:Lm all a,g with
   | [],_=>exact SW.no
   | [i],g=>
    dsimp only at g;show SW (λm=>ER m) m wv wr (λK=>(match all[i]? with
     | none=>Cv
     | some o=>DM all u o (λu=>@OP (extOf BF) P u o.type o.op λv=>Al (Ds c b i) S<|@BQ (extOf BF) P all S A c b n (i::a) (ptO u o.dst v) K) λu=>Al (Ds c b i) S<|@BQ (extOf BF) P all S A c b n (i::a) (ptO u o.dst undef) K) wv)
     λK=>(match all[i]? with
     | none=>Cv
     | some o=>DM all e o (λu=>@OP Bn P u o.type o.op λv=>Al (Ds c b i) (HA m0 S)<|@BQ Bn P all (HA m0 S) A c b n (i::a) (ptO u o.dst v) K) λu=>Al (Ds c b i) (HA m0 S)<|@BQ Bn P all (HA m0 S) A c b n (i::a) (ptO u o.dst undef) K) wr
    cases p:all[i]? with
    | none=>exact SW.no
    | some o=>
     have k:=d o (List.mem_of_getElem? p);refine Tp f (y:=λK u=>@OP (extOf BF) P u o.type o.op λv=>Al (Ds c b i) S<|@BQ (extOf BF) P all S A c b n (i::a) (ptO u o.dst v) K) (yr:=λK u=>@OP Bn P u o.type o.op λv=>Al (Ds c b i) (HA m0 S)<|@BQ Bn P all (HA m0 S) A c b n (i::a) (ptO u o.dst v) K)
      (n:=λK u=>Al (Ds c b i) S<|@BQ (extOf BF) P all S A c b n (i::a) (ptO u o.dst undef) K) (nr:=λK u=>Al (Ds c b i) (HA m0 S)<|@BQ Bn P all (HA m0 S) A c b n (i::a) (ptO u o.dst undef) K) (λu e f=>?_)
      λu e f=>Akl (F:=λK=>@BQ (extOf BF) P all S A c b n (i::a) (ptO u o.dst undef) K) (G:=λK=>@BQ Bn P all (HA m0 S) A c b n (i::a) (ptO e o.dst undef) K) h0 hs0 j hs (ME d g j hs<|f.ptO Iw _)
     exact SW.bind (F:=λK=>@OP (extOf BF) P u o.type o.op K wv) (G:=λK=>@OP Bn P e o.type o.op K wr) (F2:=λv K=>Al (Ds c b i) S<|@BQ (extOf BF) P all S A c b n (i::a) (ptO u o.dst v) K) (G2:=λv K=>Al (Ds c b i) (HA m0 S)<|@BQ Bn P all (HA m0 S) A c b n (i::a) (ptO e o.dst v) K) (A7g hs f k)
      λs x wv' xr wr' q h l=>Akl (F:=λK=>@BQ (extOf BF) P all S A c b n (i::a) (ptO u o.dst x) K) (G:=λK=>@BQ Bn P all (HA m0 S) A c b n (i::a) (ptO e o.dst xr) K) h0 hs0 (j.trans l.le) h (ME d g (j.trans l.le) h<|(f.up l.le).ptO q _)
   | _::_::_,g=>cases g
end
end
end Go.Hb
namespace Go.Hb
inductive Wz (m:Mp):Jl->Jl->Prop
 | n {ρ ρr} (h:ER m ρ ρr):Wz m (.n ρ) (.n ρr)
 | x {i ρ ρr} (h:ER m ρ ρr):Wz m (.x i ρ) (.x i ρr)
 | r {ρ ρr} (h:ER m ρ ρr):Wz m (.r ρ) (.r ρr)
def CW(P:Program)(kp:KP):Code->Bool
 | .region id ops d=>ops.toList.all (λo=>Yr P o.op) && (!d || Ws ops.toList (Aj2 kp id) ops.toList.length [])
 | .seq a b=>CW P kp a && CW P kp b
 | .cond c a b=>Cp c && CW P kp a && CW P kp b
 | .block _ b=>CW P kp b
 | .loop b=>CW P kp b
 | _=>true
section
variable{m:Mp}{wv wr:World}{P:Program}{ρ ρr:Dy}
theorem ER.cleanAt(h:ER m ρ ρr){kp:KP}{n:Nat}:ER m (cleanAt kp n ρ) (cleanAt kp n ρr):=by
 unfold Go.Hb.cleanAt;cases Ih kp.live n with
 | none=>exact h
 | some ks=>exact h.clean ks 0
theorem H6{kp:KP}:∀{c:Code}{Q j:Dy}{m:Mp}{wv wr:World},CW P kp c=true->Sm m wv wr->ER m Q j ->
  SW Wz m wv wr (λK:Jl->WP=>@AD (extOf BF) P kp AU c (λQ=>K<|.n Q) (λi Q=>K<|.x i Q) (λQ=>K<|.r Q) Q wv) λK=>@AD Bn P kp AU c (λQ=>K<|.n Q) (λi Q=>K<|.x i Q) (λQ=>K<|.r Q) j wr
 | .skip,Q,j,m,wv,wr,_,hs,l=>SW.pt (rel:=Wz) (x:=.n Q) (xr:=.n j) hs (.n l)
 | .region id ops d,Q,j,m,wv,wr,hc,hs,l=>by
  unfold CW at hc;simp only[and_eq_true,all_eq_true] at hc;unfold AD;cases d with
  | false=>exact SW.map (g:=Jl.n) (gr:=Jl.n) (Ahg hc.1 hs l) λz Q j h=>.n h
  | true=>
   refine SW.cndW (m:=m) (wv:=wv) (wr:=wr) ?_ SW.no;intro K u ⟨S,p,B⟩ q;have M:Ws ops.toList (Aj2 kp id) ops.toList.length []=true:=by simpa using hc.2
   refine⟨HA m S,⟨m,wv.drew,.refl m,p,hs.drew⟩,ME p hs.drew hc.1 M (.refl m) hs.drew l _ _ B λz x wv' xr wr' N A f s=>q _ _ _ _ _ N (.n A) f<|St.drew.trans s⟩
 | .seq a b,Q,j,m,wv,wr,hc,hs,l=>by
  unfold CW at hc;simp only[and_eq_true] at hc;intro K u h q;unfold AD at h ⊢;let D:(Jl->WP)->Jl->WP:=λK o=>match o with
   | .n Q=>(match Ih kp.live (Pj b) with
    | some ks=>@AD (extOf BF) P kp AU b (λQ=>K<|.n Q) (λi Q=>K<|.x i Q) (λQ=>K<|.r Q) (clean ks 0 Q)
    | none=>@AD (extOf BF) P kp AU b (λQ=>K<|.n Q) (λi Q=>K<|.x i Q) (λQ=>K<|.r Q) Q)
   | .x i Q=>K (.x i Q)
   | .r Q=>K (.r Q)
  let F2:(Jl->WP)->Jl->WP:=λK o=>match o with
   | .n Q=>(match Ih kp.live (Pj b) with
    | some ks=>@AD Bn P kp AU b (λQ=>K<|.n Q) (λi Q=>K<|.x i Q) (λQ=>K<|.r Q) (clean ks 0 Q)
    | none=>@AD Bn P kp AU b (λQ=>K<|.n Q) (λi Q=>K<|.x i Q) (λQ=>K<|.r Q) Q)
   | .x i Q=>K (.x i Q)
   | .r Q=>K (.r Q)
  refine H6 (c:=a) hc.1 hs l (D K) (F2 u) h λz o wv' or wr' p A f s=>?_;have I:∀m2 x w xr y,K x w->Wz m2 x xr->Sm m2 w y->St z wv' wr' m2 w y->u xr y:=λm2 x w xr y B E G H=>q _ _ _ _ _ B E G (s.trans H);cases A with
  | n e=>
   dsimp only[D,F2] at p ⊢;cases J:Ih kp.live (Pj b) with
   | some ks=>simp only[J] at p ⊢;exact H6 (c:=b) hc.2 f (e.clean ks 0) K u p I
   | none=>simp only[J] at p ⊢;exact H6 (c:=b) hc.2 f e K u p I
  | x e=>exact q _ _ _ _ _ p (.x e) f s
  | r e=>exact q _ _ _ _ _ p (.r e) f s
 | .cond c a b,Q,j,m,wv,wr,hc,hs,l=>by
  unfold CW at hc;simp only[and_eq_true] at hc;unfold AD;have h:=l.ev hc.1.1;generalize ev Q c=v at h ⊢;generalize ev j c=r at h ⊢;cases v <;> try exact SW.no
  obtain rfl:=h.boolV;rename_i t;cases t
  ·exact H6 (c:=b) hc.2 hs l
  ·exact H6 (c:=a) hc.1.2 hs l
 | .block id b,Q,j,m,wv,wr,hc,hs,l=>by
  unfold CW at hc;intro K u h q;unfold AD at h ⊢;let F:(Jl->WP)->Jl->WP:=λK o=>match o with
   | .n Q=>K (.n Q)
   | .x i Q=>(match beq i id with
    | true=>K (.n Q)
    | false=>K<|.x i Q)
   | .r Q=>K (.r Q)
  refine H6 (c:=b) hc hs l (F K) (F u) h λz o wv' or wr' p A f s=>?_;cases A with
  | n e=>exact q _ _ _ _ _ p (.n e) f s
  | @x i _ _ e=>
   dsimp only[F] at p ⊢;cases L:beq i id with
   | true=>rw[L] at p;exact q _ _ _ _ _ p (.n e) f s
   | false=>rw[L] at p;exact q _ _ _ _ _ p (.x e) f s
  | r e=>exact q _ _ _ _ _ p (.r e) f s
 | .loop b,Q,j,m,wv,wr,hc,hs,l=>by
  unfold CW at hc;intro K u h q;unfold AD at h ⊢;obtain⟨n,h⟩:=h;refine⟨n,?_⟩;have C:∀(n:Nat)(Q j:Dy)(m:Mp)(wv wr:World),Sm m wv wr->ER m Q j->(∀z x wv' xr wr',K x wv'->Wz z x xr->Sm z wv' wr'->St m wv wr z wv' wr'->u xr wr') ->
    Hr (λk Q=>@AD (extOf BF) P kp AU b k (λi Q=>K<|.x i Q) (λQ=>K<|.r Q) Q) (cleanAt kp<|Jh b) n Q wv ->
    Hr (λk Q=>@AD Bn P kp AU b k (λi Q=>u<|.x i Q) (λQ=>u<|.r Q) Q) (cleanAt kp<|Jh b) n j wr:=by
   intro n
   induction n with
   | zero=>exact λQ j m wv wr _ _ _ h=>h.elim
   | succ n O=>
    intro Q j m wv wr hs l q h;let D:(Jl->WP)->Jl->WP:=λK o=>match o with
     | .n Q=>Hr (λk Q=>@AD (extOf BF) P kp AU b k (λi Q=>K<|.x i Q) (λQ=>K<|.r Q) Q) (cleanAt kp<|Jh b) n (cleanAt kp (Jh b) Q)
     | .x i Q=>K (.x i Q)
     | .r Q=>K (.r Q)
    let F2:(Jl->WP)->Jl->WP:=λK o=>match o with
     | .n Q=>Hr (λk Q=>@AD Bn P kp AU b k (λi Q=>K<|.x i Q) (λQ=>K<|.r Q) Q) (cleanAt kp<|Jh b) n (cleanAt kp (Jh b) Q)
     | .x i Q=>K (.x i Q)
     | .r Q=>K (.r Q)
    refine H6 (c:=b) hc hs l (D K) (F2 u) h λz o wv' or wr' p A f s=>?_;cases A with
    | n e=>exact O _ _ _ _ _ f e.cleanAt (λm2 x w xr y B E G H=>q _ _ _ _ _ B E G<|s.trans H) p
    | x e=>exact q _ _ _ _ _ p (.x e) f s
    | r e=>exact q _ _ _ _ _ p (.r e) f s
  exact C n _ _ m wv wr hs l.cleanAt q h
 | .exit id,Q,j,m,wv,wr,_,hs,l=>SW.pt (rel:=Wz) (x:=.x id Q) (xr:=.x id j) hs (.x l)
 | .ret,Q,j,m,wv,wr,_,hs,l=>SW.pt (rel:=Wz) (x:=.r Q) (xr:=.r j) hs (.r l)
 | .rangeFunc _ _ _ _,Q,j,m,wv,wr,_,hs,l=>by unfold AD;exact SW.no
 | .scope _,Q,j,m,wv,wr,_,hs,l=>by unfold AD;exact SW.no
 | .label _,Q,j,m,wv,wr,_,hs,l=>by unfold AD;exact SW.no
 | .goto _,Q,j,m,wv,wr,_,hs,l=>by unfold AD;exact SW.no
 | .refuse _,Q,j,m,wv,wr,_,hs,l=>by unfold AD;exact SW.no
theorem VR.vg{v r:Value}(h:VR m v r)(a:DS v=false):VG m v r/\DS r=false:=by
 cases h with
 | one h=>exact⟨h,(GE (.one h) a).2⟩
 | tup _=>cases a
theorem VR.tupB{v r:Value}(h:VR m v r):DS r=DS v:=by
 cases a:DS v with
 | false=>exact(h.vg a).2
 | true=>
  cases v <;> first|cases a|skip
  obtain⟨_,rfl,_⟩:=h.tuple;rfl
theorem YD:∀{rs:List ResultVar}{w b:Dy}{m:Mp}{wv wr:World},Sm m wv wr->ER m w b->SW (λm=>AT<|VG m) m wv wr (λK=>Iq P rs w K wv) λK=>Iq P rs b K wr
 | [],w,b,m,wv,wr,hs,_=>SW.pt (rel:=λm=>AT<|VG m) (x:=[]) (xr:=[]) hs .nil
 | .tmp t::l,w,b,m,wv,wr,hs,c=>by
  unfold Iq;have h:=c.gt t;rw[h.isU,h.tupB];refine SW.cndW (m:=m) (wv:=wv) (wr:=wr) SW.no ?_;cases e:DS (gt w t) with
  | true=>exact SW.no
  | false=>exact λK q f g=>YD hs c _ _ f λr vs wv' rs wr' i j k d=>g _ _ _ _ _ i (.cons ((h.vg e).1.up d.le) j) k d
 | .cell a t::l,w,b,m,wv,wr,hs,c=>by
  unfold Iq;refine SW.bind (F:=λK=>GN P t (gt w a) K wv) (G:=λK=>GN P t (gt b a) K wr) (F2:=λv K=>cond (DS v) Cv<|Iq P l w λvs=>K (v::vs)) (G2:=λv K=>cond (DS v) Cv<|Iq P l b λvs=>K (v::vs)) (Akn hs<|c.gt a) λr x wv' xr wr' p n e=>?_;rw[p.tupB];cases o:DS x with
  | true=>exact SW.no
  | false=>exact λK q f g=>YD n (c.up e.le) _ _ f λm2 vs s rs u i j k d=>g _ _ _ _ _ i (.cons ((p.vg o).1.up d.le) j) k d
theorem Axp(hs:Sm m wv wr)(g:ER m ρ ρr){rs:List ResultVar}:SW VR m wv wr (λK=>P7 P rs ρ K wv) λK=>P7 P rs ρr K wr:=λK f h a=>by
 refine YD hs g _ (λvs=>match vs with|[v]=>f v|vs=>f<|.tuple vs.toArray) h λl vs wv' rs wr' b i c d=>?_
 match vs,rs,i with
 | [],_,.nil=>exact a _ _ _ _ _ b (.tup .nil) c d
 | [v],[r],.cons e .nil=>exact a _ _ _ _ _ b (.one e) c d
 | v::u::vs,r::s::rs,.cons e (.cons j k)=>exact a _ _ _ _ _ b (.tup<|by simpa using AT.cons e (.cons j k)) c d
theorem Tt:∀n,ER m (Jc n) (Jc n)
 | 0=>.nil
 | n+1=>.cons Iw (Tt n)
theorem Ba9{kp:KP}{b:Func}(hc:CW P kp (AC b)=true){args q:List Value}(s:AT (VR m) args q)(hs:Sm m wv wr):SW VR m wv wr (λQ=>@Aw (extOf BF) AU P kp b args Q wv) λQ=>@Aw Bn AU P kp b q Q wr:=λQ e h t=>by
 unfold Aw at h ⊢;let F:(VW)->Jl->WP:=λQ o=>match o with
  | .n y=>P7 P b.results.toList y Q
  | .x _ _=>Cv
  | .r y=>P7 P b.results.toList y Q
 rw[s.len];refine H6 (c:=AC b) hc hs (s.app<|Tt _) (F Q) (F e) h λw o wv' or wr' f v d u=>?_;cases v with
 | n a=>exact Axp d a Q e f λm2 x g xr i j k l p=>t _ _ _ _ _ j k l (u.trans p)
 | x a=>exact f.elim
 | r a=>exact Axp d a Q e f λm2 x g xr i j k l p=>t _ _ _ _ _ j k l (u.trans p)
theorem Alc{f:FuncId}{kp:KP}{b:Func}{args:List Value}{Q:VW}(k:P.follows .mixedOrders=true)(l:P.funcs[f]? = some b)(n:b.body.isSome=true)(hc:CW P kp (AC b)=true)
  (h:@Aw (extOf BF) AU P kp b args Q wv):BF P f args.toArray wv λe w'=>∃v,e = .returned v/\Q v w':=λm o wr p hs=>by
 have j:=F9 (kp:=kp) (args:=o.toList) (w:=wr) (Q:=λr wr'=>∃(e:Ending) (wv':World) (a:Mp) (v:Value),(∃v,e = .returned v/\Q v wv')/\e = .returned v/\VR a v r/\Sm a wv' wr'/\St m wv wr a wv' wr') k l n
  (Ba9 hc (by simpa using p) hs Q _ h λa x wv' xr wr' c d g i=>⟨_,wv',a,x,⟨x,rfl,c⟩,rfl,d,g,i⟩)
 rw[Array.toArray_toList] at j;exact j.mono λt wr' ⟨r,q,e,wv',a,v,c,d,g,i,s⟩=>⟨e,wv',a,v,r,c,d,q,g,i,s⟩
theorem Ald{f:FuncId}{a:Array Value}{w:World}{R b:Ending->World->Prop}(hR:∀e w',R e w'->b e w')(h:BF P f a w R):BF P f a w b:=λm c wr d hs=>
 (h m c wr d hs).mono λk wr' ⟨e,wv',g,v,r,i,j⟩=>⟨e,wv',g,v,r,hR _ _ i,j⟩
end
end Go.Hb
