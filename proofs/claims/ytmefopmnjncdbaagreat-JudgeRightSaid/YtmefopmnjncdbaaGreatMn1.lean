import Derived.WalkKit
import Derived.OrdersHeld
import Derived.Laws.StructEq
set_option linter.unusedVariables false
set_option linter.unusedSimpArgs false
set_option linter.unnecessarySimpa false
set_option linter.unusedSectionVars false
set_option maxRecDepth 100000
namespace Go.Hb
abbrev WP:=World -> Prop
abbrev Env:=List Value
def unk:Value:=.complex .f32 0 0
def gt:Env -> Nat -> Value
 | [],_=>unk
 | v::_,0=>v
 | _::ρ,t + 1=>gt ρ t
def pt:Env -> Nat -> Value -> Env
 | [],_,_=>[]
 | _::ρ,0,v=>v::ρ
 | u::ρ,t + 1,v=>u::pt ρ t v
def ptO (ρ:Env):Option Nat -> Value -> Env
 | none,_=>ρ
 | some t,v=>pt ρ t v
def ev (ρ:Env):Operand -> Value
 | .tmp t=>gt ρ t
 | .const v=>v
 | .global g=>.pointer (some ⟨g,0,none⟩)
 | .func f=>.func (.func f) #[] #[]
def isU:Value -> Bool
 | .complex _ _ _=>true
 | _=>false
inductive CK where
 | int (k:IntKind) | bool | str | ptr | slc | any
structure Sl where
 a:Option Addr
 n:Nat
 c:Nat
abbrev CK.ty:CK -> Type
 | .int _=>Int
 | .bool=>Bool
 | .str=>ByteArray
 | .ptr=>Option Addr
 | .slc=>Sl
 | .any=>Value
def CK.val:(k:CK) -> k.ty -> Value
 | .int k,n=>.int k n
 | .bool,b=>.bool b
 | .str,s=>.string s
 | .ptr,p=>.pointer p
 | .slc,s=>.slice s.a s.n s.c
 | .any,v=>v
def kEq:IntKind -> IntKind -> Bool
 | .i8,.i8 | .i16,.i16 | .i32,.i32 | .i64,.i64 | .u8,.u8 | .u16,.u16 | .u32,.u32 | .u64,.u64=>true
 | _,_=>false
def CK.un:(k:CK) -> Value -> Option k.ty
 | .int k,v=>match v with
  | .int k' n=>cond (kEq k k') (some n) none
  | _=>none
 | .bool,v=>match v with
  | .bool b=>some b
  | _=>none
 | .str,v=>match v with
  | .string b=>some b
  | _=>none
 | .ptr,v=>match v with
  | .pointer b=>some b
  | _=>none
 | .slc,v=>match v with
  | .slice a n c=>some ⟨a,n,c⟩
  | _=>none
 | .any,v=>cond (isU v) none (some v)
def joinK:List (Option (List CK)) -> Option (List CK)
 | []=>some []
 | some a::l=>match joinK l with
  | some b=>some (a ++ b)
  | none=>none
 | none::_=>none
def repK (l:List CK):Nat -> List CK
 | 0=>[]
 | n + 1=>l ++ repK l n
def cks (P:Program):Nat -> TypeId -> Option (List CK)
 | 0,_=>none
 | d + 1,t=>match P.underlying t with
  | some (.int k)=>some [.int k]
  | some .bool=>some [.bool]
  | some .string=>some [.str]
  | some (.pointer _)=>some [.ptr]
  | some (.slice _)=>some [.slc]
  | some (.interface _)=>some [.any]
  | some (.func ..)=>some [.any]
  | some (.map ..)=>some [.any]
  | some (.struct fs)=>joinK (fs.toList.map fun f=>cks P d f.type)
  | some (.array n e)=>match cks P d e with
   | some l=>some (repK l n)
   | none=>none
  | _=>none
def aggT (P:Program) (t:TypeId):Bool:=
 match P.underlying t with
 | some (.struct _) | some (.array _ _)=>true
 | _=>false
def szT (P:Program) (t:TypeId):Nat:=
 match P.info? t with
 | some i=>i.size
 | none=>0
def bot:WP:=fun _=>False
def ld (k:CK) (b o:Nat) (K:k.ty -> WP):WP:=fun w=>
 match (w.cell? ⟨b,o,none⟩).bind k.un with
 | some x=>K x w
 | none=>False
def ldF (b o:Nat) (N:WP) (K:TypeId -> Value -> WP):WP:=fun w=>
 match w.cell? ⟨b,o,none⟩ with
 | some .nilIface=>N w
 | some (.iface t v)=>K t v w
 | _=>False
def lds:List CK -> Nat -> Nat -> (List Value -> WP) -> WP
 | [],_,_,K=>K []
 | k::ks,b,o,K=>ld k b o fun x=>lds ks b (o + 1) fun vs=>K (k.val x::vs)
def st (b o:Nat) (v:Value) (K:WP):WP:=fun w=>
 (w.cell? ⟨b,o,none⟩).isSome = true /\ w.frozen? ⟨b,o,none⟩ = false /\ K (w.setCell ⟨b,o,none⟩ v)
def sts:List Value -> Nat -> Nat -> WP -> WP
 | [],_,_,K=>K
 | v::vs,b,o,K=>st b o v (sts vs b (o + 1) K)
def newB (cells:List Value) (T:TypeId) (K:Nat -> WP):WP:=fun w=>K w.heap.size (w.alloc (.cells cells.toArray T))
def nilck (p:Option Addr) (K:Nat -> Nat -> WP):WP:=fun w=>∃ b o,p = some ⟨b,o,none⟩ /\ K b o w
def when (c:Prop) (K:WP):WP:=fun w=>c /\ K w
def ite2 (b:Bool) (K L:WP):WP:=match b with
 | true=>K
 | false=>L
def cellsL:Value -> List Value
 | .agg cs=>cs.toList
 | v=>[v]
def okC:List Value -> Bool
 | []=>true
 | v::l=>match v with
  | .agg _=>false
  | .tuple _=>false
  | _=>okC l
def shlV (k:IntKind) (x y:Int):Int:=k.wrap (x * 2 ^ (min y.toNat k.bits))
def shrV (k:IntKind) (x y:Int):Int:=x.fdiv (2 ^ (min y.toNat k.bits))
def sEq (x y:ByteArray):Bool:=x.toList == y.toList
def sLt (x y:ByteArray):Bool:=Op.bytesLess x.toList y.toList
def intI (op:BinOp) (k:IntKind) (a b:Int) (K:Value -> Prop):Prop:=
 match op with
 | .add=>K (.int k (k.wrap (a + b)))
 | .sub=>K (.int k (k.wrap (a - b)))
 | .mul=>K (.int k (k.wrap (a * b)))
 | .quo=>b ≠ 0 /\ K (.int k (k.wrap (a.tdiv b)))
 | .rem=>b ≠ 0 /\ K (.int k (a.tmod b))
 | .and=>K (.int k (bits .and k a b))
 | .or=>K (.int k (bits .or k a b))
 | .xor=>K (.int k (bits .xor k a b))
 | .andNot=>K (.int k (bits .andNot k a b))
 | .eql=>K (.bool (a == b))
 | .neq=>K (.bool (a != b))
 | .lss=>K (.bool (decide (a < b)))
 | .leq=>K (.bool (decide (a <= b)))
 | .gtr=>K (.bool (decide (a > b)))
 | .geq=>K (.bool (decide (a >= b)))
 | _=>False
def strI (op:BinOp) (a b:ByteArray) (K:Value -> Prop):Prop:=
 match op with
 | .add=>a.size + b.size <= 9223372036854775807 /\ K (.string (a ++ b))
 | .eql=>K (.bool (sEq a b))
 | .neq=>K (.bool (!sEq a b))
 | .lss=>K (.bool (sLt a b))
 | .leq=>K (.bool (sLt a b || sEq a b))
 | .gtr=>K (.bool !(sLt a b || sEq a b))
 | .geq=>K (.bool !sLt a b)
 | _=>False
def isPtrT (P:Program) (t:TypeId):Bool:=match P.underlying t with
 | some (.pointer _)=>true
 | _=>false
def isSlcT (P:Program) (t:TypeId):Bool:=match P.underlying t with
 | some (.slice _)=>true
 | _=>false
def isBoolT (P:Program) (t:TypeId):Bool:=match P.underlying t with
 | some .bool=>true
 | _=>false
def isIfcT (P:Program) (t:TypeId):Bool:=match P.underlying t with
 | some (.interface _)=>true
 | _=>false
def isStrT (P:Program) (t:TypeId):Bool:=match P.underlying t with
 | some .string=>true
 | _=>false
def eqI (op:BinOp) (b:Bool) (K:Value -> Prop):Prop:=match op with
 | .eql=>K (.bool b)
 | .neq=>K (.bool (!b))
 | _=>False
def eqRowC (k:IntKind):List Value -> List Value -> (Bool -> Prop) -> Prop
 | [],ys,K=>match ys with
  | []=>K true
  | _=>False
 | x::xs,ys,K=>match x with
  | .int k1 a=>match ys with
   | y::ys=>match y with
    | .int k2 b=>cond (kEq k k1 && kEq k k2) (eqRowC k xs ys fun r=>K ((a == b) && r)) False
    | _=>False
   | []=>False
  | _=>False
def eqFldC (P:Program) (xs ys:List Value):List Field -> (Bool -> Prop) -> Prop
 | [],K=>K true
 | f::fs,K=>match P.underlying f.type with
  | some (.int k)=>match xs[f.offset]? with
   | some (.int k1 a)=>match ys[f.offset]? with
    | some (.int k2 b) => cond (kEq k k1 && kEq k k2 && !(f.name == "_")) (eqFldC P xs ys fs fun r => K ((a == b) && r)) False
    | _=>False
   | _=>False
  | _=>False
def binI (P:Program) (op:BinOp) (t:TypeId) (u v:Value) (K:Value -> Prop):Prop:=
 match u with
 | .agg xs=>match v with
  | .agg ys=>match P.underlying t with
   | some (.array n e)=>match P.underlying e with
    | some (.int k)=>cond ((P.info? e).isSome && Nat.beq (P.cellsOf e) 1 && Nat.beq xs.toList.length n) (eqRowC k xs.toList ys.toList fun b=>eqI op b K) False
    | _=>False
   | some (.struct fs)=>cond (P.stoodInHeld t) False (eqFldC P xs.toList ys.toList fs.toList fun b=>eqI op b K)
   | _=>False
  | _=>False
 | .int k a=>match v with
  | .int k' b=>match op with
   | .shl=>0 <= b /\ K (.int k (shlV k a b))
   | .shr=>0 <= b /\ K (.int k (shrV k a b))
   | op=>cond (kEq k k') (intI op k a b K) False
  | _=>False
 | .string a=>match v with
  | .string b=>strI op a b K
  | _=>False
 | .pointer a=>match v with
  | .pointer none=>cond (isPtrT P t) (eqI op a.isNone K) False
  | _=>False
 | .slice a _ _=>match v with
  | .slice none _ _=>cond (isSlcT P t) (eqI op a.isNone K) False
  | _=>False
 | .bool a=>match v with
  | .bool b=>cond (isBoolT P t) (eqI op (a == b) K) False
  | _=>False
 | _=>False
def nilI (P:Program) (op:BinOp) (t:TypeId) (u:Value) (K:Value -> Prop):Prop:=
 match u with
 | .nilIface=>cond (isIfcT P t) (eqI op true K) False
 | .iface _ _=>cond (isIfcT P t) (eqI op false K) False
 | _=>False
def isFunT (P:Program) (t:TypeId):Bool:=match P.underlying t with
 | some (.func _ _ _)=>true
 | _=>false
def nilFI (P:Program) (op:BinOp) (t:TypeId) (u:Value) (K:Value -> Prop):Prop:=
 match u with
 | .nilFunc=>cond (isFunT P t) (eqI op true K) False
 | .func _ _ _=>cond (isFunT P t) (eqI op false K) False
 | _=>False
def unI (op:UnOp) (v:Value) (K:Value -> Prop):Prop:=
 match op with
 | .not=>match v with
  | .bool b=>K (.bool (!b))
  | _=>False
 | .neg=>match v with
  | .int k n=>K (.int k (k.wrap (0 - n)))
  | _=>False
 | _=>False
def subA (base:Option Addr) (l m s:Nat):Option Addr:=if m = l then base else base.map (·.add (l * s))
def loB (v:Option Value) (h:Nat) (K:Nat -> Prop):Prop:=
 match v with
 | none=>K 0
 | some (.int _ i)=>(0 <= i /\ i <= (h:Int)) /\ K i.toNat
 | _=>False
def hiB (v:Option Value) (n c:Nat) (K:Nat -> Prop):Prop:=
 match v with
 | none=>K n
 | some (.int _ i)=>(0 <= i /\ i <= (c:Int)) /\ K i.toNat
 | _=>False
def mxB (v:Option Value) (c:Nat) (K:Nat -> Prop):Prop:=
 match v with
 | none=>K c
 | some (.int _ i)=>(0 <= i /\ i <= (c:Int)) /\ K i.toNat
 | _=>False
def sliceI (P:Program) (t:TypeId) (x:Value) (lo hi mx:Option Value) (K:Value -> Prop):Prop:=
 match x with
 | .string s=>cond (isStrT P t) (match mx with
  | none=>hiB hi s.size s.size fun h=>loB lo h fun l=>K (.string (s.extract l h))
  | some _=>False) False
 | .slice a n c=>match P.underlying t with
  | some (.slice e)=>cond (P.info? e).isSome (match hi with
   | none=>(match mx with
    | none=>loB lo n fun l=>K (.slice (subA a l c (szT P e)) (n - l) (c - l))
    | some _=>False)
   | some _=>mxB mx c fun m=>hiB hi n m fun h=>loB lo h fun l=>K (.slice (subA a l m (szT P e)) (h - l) (m - l))) False
  | _=>False
 | _=>False
def fieldOf (P:Program) (t:TypeId) (f:Nat):Option (Nat × TypeId):=
 match P.underlying t with
 | some (.struct fs)=>match fs.toList[f]? with
  | some g=>some (g.offset,g.type)
  | none=>none
 | _=>none
def fieldAI (P:Program) (t:TypeId) (x:Value) (f:Nat) (K:Value -> Prop):Prop:=
 match x with
 | .pointer (some ⟨b,o,none⟩)=>match fieldOf P t f with
  | some (off,ft)=>match szT P ft with
   | 0=>False
   | _ + 1=>K (.pointer (some ⟨b,o + off,none⟩))
  | none=>False
 | _=>False
def partI (P:Program) (t:TypeId) (cs:Array Value) (off:Nat) (K:Value -> Prop):Prop:=
 match aggT P t with
 | true=>K (.agg ((cs.toList.drop off).take (szT P t)).toArray)
 | false=>match cs.toList[off]? with
  | some v=>cond (isU v) False (K v)
  | none=>False
def fieldI (P:Program) (t:TypeId) (x:Value) (f:Nat) (K:Value -> Prop):Prop:=
 match x with
 | .agg cs=>match fieldOf P t f with
  | some (off,ft)=>cond (P.underlying ft).isSome (partI P ft cs off K) False
  | none=>False
 | _=>False
def indexAI (P:Program) (t:TypeId) (x i:Value) (K:Value -> Prop):Prop:=
 match i with
 | .int _ i=>match P.underlying t with
  | some (.slice e)=>match x with
   | .slice a n _=>cond (P.info? e).isSome (∃ b o,a = some ⟨b,o,none⟩ /\ (0 <= i /\ i < (n:Int)) /\ K (.pointer (some ⟨b,o + i.toNat * szT P e,none⟩))) False
   | _=>False
  | some (.array n e)=>match x with
   | .pointer (some ⟨b,o,none⟩)=>cond (P.info? e).isSome ((0 <= i /\ i < (n:Int)) /\ K (.pointer (some ⟨b,o + i.toNat * szT P e,none⟩))) False
   | _=>False
  | _=>False
 | _=>False
def byteAt (s:ByteArray) (i:Nat):Int:=((s.data.toList[i]?).getD 0).toNat
def indexI (P:Program) (t:TypeId) (x i:Value) (K:Value -> Prop):Prop:=
 match i with
 | .int _ i=>match x with
  | .string s=>cond (isStrT P t) ((0 <= i /\ i < (s.size:Int)) /\ K (.int .u8 (byteAt s i.toNat))) False
  | .agg cs=>match P.underlying t with
   | some (.array n e)=>match cks P 9 e with
    | some [k]=>cond (aggT P e || !Nat.beq (szT P e) 1 || !(P.info? e).isSome) False <| (0 <= i /\ i < (n:Int)) /\ ∃ x:k.ty,cs.toList[i.toNat]? = some (k.val x) /\ isU (k.val x) = false /\ K (k.val x)
    | _=>False
   | _=>False
  | _=>False
 | _=>False
def extractI (x:Value) (i:Nat) (K:Value -> Prop):Prop:=
 match x with
 | .tuple vs=>match vs.toList[i]? with
  | some v=>K v
  | none=>False
 | _=>False
def laysL:List Value -> Nat -> List Value -> List Value
 | cs,_,[]=>cs
 | cs,o,v::vs=>laysL (pt cs o v) (o + 1) vs
def fillL (place:Nat -> Option (Nat × Nat)):List Value -> List (Nat × Value) -> Option (List Value)
 | cells,[]=>some cells
 | cells,(i,v)::r=>match place i with
  | none=>none
  | some (off,size)=>cond (isU v || !(Nat.beq (cellsL v).length size) || !(Nat.ble (off + size) cells.length)) none (fillL place (laysL cells off (cellsL v)) r)
def zeroL (P:Program) (t:TypeId):Option (List Value):=
 match P.info? t with
 | some i=>match i.zero with
  | some z=>some (cellsL z)
  | none=>none
 | none=>none
def placesF (P:Program) (fs:List Field) (i:Nat):Option (Nat × Nat):=
 match fs[i]? with
 | some f=>some (f.offset,szT P f.type)
 | none=>none
def evParts (ρ:Env):List (Nat × Operand) -> List (Nat × Value)
 | []=>[]
 | (i,x)::l=>(i,ev ρ x)::evParts ρ l
def buildL (P:Program) (t:TypeId) (parts:List (Nat × Value)):Option (List Value):=
 match zeroL P t with
 | none=>none
 | some z=>match P.underlying t with
  | some (.struct fs)=>cond (fs.toList.all fun f=>(P.info? f.type).isSome) (fillL (placesF P fs.toList) z parts) none
  | some (.array _ e)=>cond (P.info? e).isSome (fillL (fun i=>some (i * szT P e,szT P e)) z parts) none
  | _=>none
def buildI (P:Program) (t:TypeId) (parts:List (Nat × Value)) (K:Value -> Prop):Prop:=
 match buildL P t parts with
 | some cs=>K (.agg cs.toArray)
 | none=>False
def convI (P:Program) (d:TypeId) (x:Value) (K:Value -> Prop):Prop:=
 match x with
 | .int _ n=>match P.underlying d with
  | some (.int k)=>K (.int k (k.wrap n))
  | _=>False
 | .string s=>cond (isStrT P d) (K (.string s)) False
 | _=>False
def lenI (P:Program) (t:TypeId) (x:Value) (K:Value -> Prop):Prop:=
 match x with
 | .string s=>cond (isStrT P t) (K (.int .i64 (s.size:Int))) False
 | .slice _ n _=>cond (isSlcT P t) (K (.int .i64 (n:Int))) False
 | .agg _=>match P.underlying t with
  | some (.array n _)=>K (.int .i64 (n:Int))
  | _=>False
 | _=>False
def maxI (x y:Value) (K:Value -> Prop):Prop:=
 match x with
 | .int k a=>match y with
  | .int _ b=>K (.int k (if b > a then b else a))
  | _=>False
 | _=>False
def minI (x y:Value) (K:Value -> Prop):Prop:=
 match x with
 | .int k a=>match y with
  | .int _ b=>K (.int k (if b < a then b else a))
  | _=>False
 | _=>False
def mn (a b:Int):Int:=if b < a then b else a
def min4I (x y z u:Value) (K:Value -> Prop):Prop:=
 match x with
 | .int k a=>match y with
  | .int _ b=>match z with
   | .int _ c=>match u with
    | .int _ d=>K (.int k (mn (mn (mn a b) c) d))
    | _=>False
   | _=>False
  | _=>False
 | _=>False
def pickI (ρ:Env) (c a b:Operand) (K:Value -> Prop):Prop:=
 match ev ρ c with
 | .bool t=>match t with
  | true=>K (ev ρ a)
  | false=>K (ev ρ b)
 | _=>False
def nilckI (v:Value) (K:Value -> Prop):Prop:=
 match v with
 | .pointer p=>∃ b o,p = some ⟨b,o,none⟩ /\ K (.pointer (some ⟨b,o,none⟩))
 | _=>False
def evO (ρ:Env):Option Operand -> Option Value
 | none=>none
 | some x=>some (ev ρ x)
def pureI (P:Program) (ρ:Env) (o:Op):Option ((Value -> Prop) -> Prop):=
 match o with
 | .move x=>some fun K=>K (ev ρ x)
 | .assign x=>some fun K=>K (ev ρ x)
 | .pick c a b=>some (pickI ρ c a b)
 | .nilCheck x=>some (nilckI (ev ρ x))
 | .binOp op t x y _=>(match y with
  | .const c=>(match c with
   | .nilIface=>some (nilI P op t (ev ρ x))
   | .nilFunc=>some (nilFI P op t (ev ρ x))
   | c=>some (binI P op t (ev ρ x) c))
  | y=>some (binI P op t (ev ρ x) (ev ρ y)))
 | .makeInterface t x=>some fun K=>cond ((P.underlying t).isSome && !isIfcT P t && !isU (ev ρ x)) (K (.iface t (ev ρ x))) False
 | .unOp op _ x=>some (unI op (ev ρ x))
 | .convert s d x=>(match ev ρ x with
  | .int _ n=>cond (P.underlying s).isSome (some (convI P d (.int .i64 n))) none
  | .string b=>cond (isStrT P s) (cond (isStrT P d) (some (convI P d (.string b))) none) none
  | _=>none)
 | .slice t x lo hi mx=>some (sliceI P t (ev ρ x) (evO ρ lo) (evO ρ hi) (evO ρ mx))
 | .fieldAddr t x f=>some (fieldAI P t (ev ρ x) f)
 | .field t x f=>some (fieldI P t (ev ρ x) f)
 | .indexAddr t x i=>some (indexAI P t (ev ρ x) (ev ρ i))
 | .index t x i=>some (indexI P t (ev ρ x) (ev ρ i))
 | .extract t i=>some (extractI (ev ρ t) i)
 | .build t ps=>some (buildI P t (evParts ρ ps.toList))
 | .call c=>(match c.callee with
  | .builtin b=>(match b with
   | .len=>(match c.args.toList with
    | [x]=>(match c.argTypes.toList with
     | [t]=>some (lenI P t (ev ρ x))
     | _=>none)
    | _=>none)
   | .max=>(match c.args.toList with
    | [x,y]=>some (maxI (ev ρ x) (ev ρ y))
    | _=>none)
   | .min=>(match c.args.toList with
    | [x,y]=>some (minI (ev ρ x) (ev ρ y))
    | [x,y,z,u]=>some (min4I (ev ρ x) (ev ρ y) (ev ρ z) (ev ρ u))
    | _=>none)
   | _=>none)
  | _=>none)
 | _=>none
def eqL:List Nat -> List Nat -> Bool
 | [],[]=>true
 | a::l,b::m=>Nat.beq a b && eqL l m
 | _,_=>false
def candL (ps rs:List TypeId):Nat -> List Func -> List FuncId
 | _,[]=>[]
 | i,f::l=>cond (eqL f.params.toList ps && eqL f.resultTypes.toList rs) (i::candL ps rs (i + 1) l) (candL ps rs (i + 1) l)
def candF (P:Program) (t:TypeId):List FuncId:=
 match P.underlying t with
 | some (.func ps rs _)=>candL ps.toList rs.toList 0 P.funcs.toList
 | _=>[]
def mapF (K:FuncId -> WP):List FuncId -> List (FuncId × WP)
 | []=>[]
 | f::l=>(f,K f)::mapF K l
def ldV (b o:Nat) (N:WP) (l:List (FuncId × WP)):WP:=fun w=>
 match w.cell? ⟨b,o,none⟩ with
 | some .nilFunc=>N w
 | some (.func (.func f) first cap)=>first = #[] /\ cap = #[] /\ ∃ p ∈ l,p.1 = f /\ p.2 w
 | _=>False
def ldVS (S:World -> Prop) (b o:Nat) (N:WP) (l:List (FuncId × WP)):WP:=fun w=>
 ((∀ w',S w' -> w'.cell? ⟨b,o,none⟩ = some .nilFunc) /\ N w) \/ ∃ p ∈ l,(∀ w',S w' -> w'.cell? ⟨b,o,none⟩ = some (.func (.func p.1) #[] #[])) /\ p.2 w
def loadI (P:Program) (t:TypeId) (x:Value) (K:Value -> WP):WP:=
 match x with
 | .pointer (some ⟨b,o,none⟩)=>match cks P 9 t with
  | some ks=>cond ((P.underlying t).isSome && (P.info? t).isSome && Nat.beq (szT P t) ks.length) (match aggT P t with
   | true=>lds ks b o fun vs=>K (.agg vs.toArray)
   | false=>match ks with
    | [k]=>match isIfcT P t with
     | true=>ldF b o (K .nilIface) fun t v=>K (.iface t v)
     | false=>match isFunT P t with
      | true=>ldV b o (K .nilFunc) (mapF (fun f=>K (.func (.func f) #[] #[])) (candF P t))
      | false=>ld k b o fun x=>K (k.val x)
    | _=>bot) bot
  | none=>bot
 | _=>bot
def storeI (P:Program) (t:TypeId) (x v:Value) (K:WP):WP:=
 match x with
 | .pointer (some ⟨b,o,none⟩)=>cond ((P.info? t).isSome && Nat.beq (szT P t) (cellsL v).length && okC (cellsL v) && !(cellsL v).any isU) (sts (cellsL v) b o K) bot
 | _=>bot
def allocI (P:Program) (t:TypeId) (K:Value -> WP):WP:=
 match zeroL P t with
 | some z=>newB z t fun b=>K (.pointer (some ⟨b,0,none⟩))
 | none=>bot
def boxI (t:TypeId) (v:Value) (K:Value -> WP):WP:=
 cond (isU v) bot (newB (cellsL v) t fun b=>K (.pointer (some ⟨b,0,none⟩)))
def zrow (z:List Value):Nat -> List Value
 | 0=>[]
 | n + 1=>z ++ zrow z n
def buildSliceI (P:Program) (t:TypeId) (n:Nat) (parts:List (Nat × Value)) (K:Value -> WP):WP:=
 match P.underlying t with
 | some (.slice e)=>match zeroL P e with
  | some z=>cond ((P.info? e).isSome && Nat.beq z.length (szT P e) && Nat.ble (n * szT P e) 65536) (match fillL (fun i=>some (i * szT P e,szT P e)) (zrow z n) parts with
   | some cs=>newB cs e fun b=>K (.slice (some ⟨b,0,none⟩) n n)
   | none=>bot) bot
  | none=>bot
 | _=>bot
def makeC (e bytes:Nat) (z:List Value) (l c:Int) (K:Sl -> WP):WP:=fun w=>
 (0 <= l /\ l <= c /\ c <= 4611686018427387904 /\ (bytes:Int) * c <= 281474976710656) /\ newB (zrow z c.toNat) e (fun b=>K ⟨some ⟨b,0,none⟩,l.toNat,c.toNat⟩) w
def byT (P:Program) (t:TypeId):Nat:=
 match P.info? t with
 | some i=>i.bytes
 | none=>0
def makeSliceI (P:Program) (t:TypeId) (l c:Value) (K:Value -> WP):WP:=
 match P.underlying t with
 | some (.slice e)=>match zeroL P e with
  | some z=>match l with
   | .int _ l=>match c with
    | .int _ c=>cond ((P.info? e).isSome && Nat.beq z.length (szT P e)) (makeC e (byT P e) z l c fun s=>K (.slice s.a s.n s.c)) bot
    | _=>bot
   | _=>bot
  | none=>bot
 | _=>bot
def rdL (w:World) (b:Nat):Nat -> Nat -> Option (List Value)
 | _,0=>some []
 | o,n + 1=>match w.cell? ⟨b,o,none⟩ with
  | some v=>match rdL w b (o + 1) n with
   | some l=>some (v::l)
   | none=>none
  | none=>none
def rdA (w:World) (a:Option Addr) (n:Nat):Option (List Value):=
 match a with
 | none=>some []
 | some ⟨b,o,none⟩=>rdL w b o n
 | some ⟨_,_,some _⟩=>none
def stA (a:Option Addr) (off:Nat) (vs:List Value) (K:WP):WP:=
 match a with
 | none=>match vs with
  | []=>K
  | _::_=>bot
 | some ⟨b,o,none⟩=>sts vs b (o + off) K
 | some ⟨_,_,some _⟩=>bot
def appendC (e size bytes:Nat) (z:List Value) (s:Sl) (n:Nat) (new:World -> Option (List Value)) (K:Sl -> WP):WP:=fun w=>
 ∃ vs,new w = some vs /\ okC vs = true /\
  if s.n + n <= s.c then stA s.a (s.n * size) vs (K ⟨s.a,s.n + n,s.c⟩) w
  else Builtin.nextslicecap (s.n + n) s.c * bytes <= 281474976710656 /\ ∃ old,rdA w s.a (s.n * size) = some old /\
   ∀ N,s.n + n <= N -> K ⟨some ⟨w.heap.size,0,none⟩,s.n + n,N⟩ (w.drew.alloc (.cells (old ++ vs ++ zrow z (N - (s.n + n))).toArray e))
def bytesL (s:ByteArray):List Value:=s.data.toList.map fun b=>.int .u8 b.toNat
def appendI (P:Program) (t t2:TypeId) (s x:Value) (K:Value -> WP):WP:=
 match P.underlying t with
 | some (.slice e)=>match zeroL P e with
  | some z=>match s with
   | .slice a n c=>cond ((P.info? e).isSome && Nat.beq z.length (szT P e) && !Nat.beq (byT P e) 0) (match x with
    | .slice a' n' _=>cond (isSlcT P t2) (appendC e (szT P e) (byT P e) z ⟨a,n,c⟩ n' (fun w=>rdA w a' (n' * szT P e)) fun s=>K (.slice s.a s.n s.c)) bot
    | .string b=>cond (isStrT P t2) (appendC e (szT P e) (byT P e) z ⟨a,n,c⟩ b.size (fun _=>some (bytesL b)) fun s=>K (.slice s.a s.n s.c)) bot
    | _=>bot) bot
   | _=>bot
  | none=>bot
 | _=>bot
def b2s (a:Option Addr) (n:Nat) (K:ByteArray -> WP):WP:=fun w=>∃ s:ByteArray,rdA w a n = some (bytesL s) /\ K s w
def convSI (P:Program) (s d:TypeId) (x:Value) (K:Value -> WP):WP:=
 match x with
 | .slice a n _=>match P.underlying s with
  | some (.slice e)=>match P.underlying e with
   | some (.int k)=>cond (kEq k .u8 && isStrT P d) (b2s a n fun s=>K (.string s)) bot
   | _=>bot
  | _=>bot
 | _=>bot
def exV:List CK -> (List Value -> Prop) -> Prop
 | [],K=>K []
 | k::ks,K=>∃ x:k.ty,exV ks fun vs=>K (k.val x::vs)
def exT (P:Program) (t:TypeId) (F:Value -> Prop):Prop:=
 match cks P 9 t with
 | some ks=>(match aggT P t with
  | true=>exV ks fun vs=>F (.agg vs.toArray)
  | false=>match ks with
   | [k]=>match isIfcT P t with
    | true=>F .nilIface \/ ∃ t v,F (.iface t v)
    | false=>∃ x:k.ty,F (k.val x)
   | _=>False)
 | none=>False
def exTs (P:Program):List TypeId -> (List Value -> Prop) -> Prop
 | [],F=>F []
 | t::ts,F=>exT P t fun v=>exTs P ts fun vs=>F (v::vs)
def retI (P:Program) (ts:List TypeId) (F:Value -> Prop):Prop:=
 match ts with
 | []=>F (.tuple #[])
 | [t]=>exT P t F
 | ts=>exTs P ts fun vs=>F (.tuple vs.toArray)
def evL (ρ:Env):List Operand -> List Value
 | []=>[]
 | x::l=>ev ρ x::evL ρ l
def callC (P:Program) (f:FuncId) (args:List Value) (R:(Value -> Prop) -> Prop) (K:Value -> WP):WP:=fun w=>
 Calls P f args.toArray w fun e w'=>R fun v=>e = .returned v /\ K v w'
def notGor (s : String) : Bool := !(s == "runtime.NumGoroutine")
def callI (P:Program) (f:Value) (args:List Value) (K:Value -> WP):WP:=
 match f with
 | .func (.func f) first captured=>match P.funcs[f]? with
  | some fn=>cond (fn.body.isSome && notGor fn.name && !args.any isU) (callC P f (first.toList ++ args ++ captured.toList) (retI P fn.resultTypes.toList) K) bot
  | none=>bot
 | _=>bot
def invX (P:Program) (t:TypeId) (v:Value) (name:String) (C:FuncId -> Value -> WP):WP:=fun w=>
 ∃ f rc fn,(method (P.types.size + Made.depth) t v name).run P w = .ok (f,rc) w /\ P.funcs[f]? = some fn /\ fn.body.isSome = true /\ notGor fn.name = true /\ C f rc w
def invC (P:Program) (t:TypeId) (v:Value) (name:String) (args:List Value) (R:(Value -> Prop) -> Prop) (K:Value -> WP):WP:=invX P t v name fun f rc=>callC P f (rc::args) R K
def tupT (P:Program) (t:TypeId):List TypeId:=
 match P.underlying t with
 | some (.tuple ts)=>ts.toList
 | _=>[t]
def invI (P:Program) (ty:TypeId) (x:Value) (name:String) (args:List Value) (K:Value -> WP):WP:=
 match x with
 | .iface t v=>cond (!args.any isU) (invC P t v name args (retI P (tupT P ty)) K) bot
 | _=>bot
def mkCh (P:Program) (t:TypeId) (n:Value) (K:Nat -> WP):WP:=fun w=>∃ w',(Instr.makeChan t n).run P w = .ok (.chan (some w.heap.size)) w' /\ K w.heap.size w'
def clrW (z:List Value) (a:Option Addr) (n:Nat) (K:WP):WP:=cond (okC (zrow z n)) (stA a 0 (zrow z n) K) bot
def clrI (P:Program) (t:TypeId) (x:Value) (K:WP):WP:=
 match x with
 | .slice a n _=>match P.underlying t with
  | some (.slice e)=>match zeroL P e with
   | some z=>clrW z a n K
   | none=>bot
  | _=>bot
 | _=>bot
def newM (K:Nat -> WP):WP:=fun w=>K w.heap.size (w.alloc (.map #[] 0))
def mUp (P:Program) (t:TypeId) (m k x:Value) (K:WP):WP:=fun w=>∃ w',(Instr.mapUpdate t m k x).run P w = .ok () w' /\ K w'
def mLook (P:Program) (t:TypeId) (m k:Value) (c:CK) (K:c.ty -> WP):WP:=fun w=>∃ x:c.ty,(Instr.lookup t m k false).run P w = .ok (c.val x) w /\ K x w
def lookI (P:Program) (t:TypeId) (m k:Value) (K:Value -> WP):WP:=
 match P.underlying t with
 | some (.map _ e)=>match cks P 9 e with
  | some [c]=>cond (aggT P e || isU m || isU k) bot (mLook P t m k c fun x=>K (c.val x))
  | _=>bot
 | _=>bot
def opI (P:Program) (ρ:Env) (ty:TypeId) (o:Op) (K:Value -> WP):WP:=
 match pureI P ρ o with
 | some F=>fun w=>F fun v=>K v w
 | none=>match o with
  | .load t x=>loadI P t (ev ρ x) K
  | .store t x v=>storeI P t (ev ρ x) (ev ρ v) (K undef)
  | .alloc t=>allocI P t K
  | .box t v=>boxI t (ev ρ v) K
  | .buildSlice t n ps=>buildSliceI P t n (evParts ρ ps.toList) K
  | .makeSlice t l c=>makeSliceI P t (ev ρ l) (ev ρ c) K
  | .convert s d x=>convSI P s d (ev ρ x) K
  | .makeMap _ r=>(match r with
   | none=>newM fun b=>K (.map (some b))
   | some _=>bot)
  | .mapUpdate t m k x=>cond (isU (ev ρ m) || isU (ev ρ k) || isU (ev ρ x)) bot (mUp P t (ev ρ m) (ev ρ k) (ev ρ x) (K undef))
  | .lookup t m k c=>(match c with
   | false=>lookI P t (ev ρ m) (ev ρ k) K
   | true=>bot)
  | .makeChan t n=>cond (isU (ev ρ n)) bot (mkCh P t (ev ρ n) fun b=>K (.chan (some b)))
  | .call c=>(match c.callee with
   | .value f=>callI P (ev ρ f) (evL ρ c.args.toList) K
   | .invoke r name=>invI P ty (ev ρ r) name (evL ρ c.args.toList) K
   | .builtin b=>(match b with
    | .append=>(match c.args.toList with
     | [s,x]=>(match c.argTypes.toList with
      | [t,t2]=>appendI P t t2 (ev ρ s) (ev ρ x) K
      | _=>bot)
     | _=>bot)
    | .clear=>(match c.args.toList with
     | [x]=>(match c.argTypes.toList with
      | [t]=>clrI P t (ev ρ x) (K (.tuple #[]))
      | _=>bot)
     | _=>bot)
    | _=>bot))
  | _=>bot
def dstOf (all:List Oper) (j:Nat):Option Nat:=
 match all[j]? with
 | some o=>o.dst
 | none=>none
def guardI (all:List Oper) (ρ:Env) (o:Oper) (yes no:Env -> WP):WP:=
 match o.guard with
 | none=>yes ρ
 | some (j,want)=>match dstOf all j with
  | none=>no ρ
  | some d=>match gt ρ d with
   | .complex _ _ _=>bot
   | .bool b=>ite2 b (cond want (yes (pt ρ d (.bool true))) (no (pt ρ d (.bool true)))) (cond want (no (pt ρ d (.bool false))) (yes (pt ρ d (.bool false))))
   | _=>no ρ
def opsI (P:Program) (all:List Oper):List Oper -> Env -> (Env -> WP) -> WP
 | [],ρ,K=>K ρ
 | o::l,ρ,K=>guardI all ρ o (fun ρ=>opI P ρ o.type o.op fun v=>opsI P all l (ptO ρ o.dst v) K) (fun ρ=>opsI P all l (ptO ρ o.dst undef) K)
def memb (i:Nat):List Nat -> Bool
 | []=>false
 | j::l=>Nat.beq i j || memb i l
def edgesL:List Edge -> List Nat
 | []=>[]
 | e::l=>match e.ground with
  | .textOnly _=>edgesL l
  | .gcOnly _=>edgesL l
  | _=>e.on::edgesL l
def waitsL (all:List Oper) (i:Nat):List Nat:=
 match all[i]? with
 | some o=>edgesL o.after.toList
 | none=>[]
def rdy (all:List Oper) (done:List Nat) (i:Nat):Bool:=!memb i done && (waitsL all i).all (memb · done)
def freeL (all:List Oper) (done:List Nat) (i:Nat) (o:Oper):Bool:=
 (List.range all.length).all fun j=>Nat.beq j i || memb j done || memb i (waitsL all j) || (match all[j]? with
  | some oj=>o.apart all.toArray oj
  | none=>true)
def maskOf (acc:List Nat):List Nat -> Nat
 | []=>0
 | e::es=>(2 ^ e ||| acc.getD e 0) ||| maskOf acc es
def mkTab:List Oper -> List Nat -> List Nat
 | [],acc=>acc
 | o::l,acc=>mkTab l (acc ++ [maskOf acc (edgesL o.after.toList)])
def needS (A tab:List Nat) (j:Nat):Bool:=A.any fun k=>!(tab.getD j 0).testBit k
def isLd (all:List Oper) (i:Nat):Bool:=
 match all[i]? with
 | some o=>(match o.op with
  | .load _ _=>true
  | _=>false)
 | none=>false
def loadsOf (all:List Oper) (A:List Nat):List Nat:=A.filter (isLd all)
def readyL (all:List Oper) (done:List Nat):List Nat:=(List.range all.length).filter (rdy all done)
def nextA (all:List Oper) (done:List Nat):List Nat -> Option Nat
 | []=>none
 | i::A=>match rdy all done i with
  | true=>some i
  | false=>nextA all done A
def ldS (S:World -> Prop) (k:CK) (b o:Nat) (K:k.ty -> WP):WP:=fun w=>
 ∃ x:k.ty,(∀ w',S w' -> w'.cell? ⟨b,o,none⟩ = some (k.val x)) /\ K x w
def ldFS (S:World -> Prop) (b o:Nat) (N:WP) (K:TypeId -> Value -> WP):WP:=fun w=>
 ((∀ w',S w' -> w'.cell? ⟨b,o,none⟩ = some .nilIface) /\ N w) \/ ∃ t v,(∀ w',S w' -> w'.cell? ⟨b,o,none⟩ = some (.iface t v)) /\ K t v w
def ldsS (S:World -> Prop):List CK -> Nat -> Nat -> (List Value -> WP) -> WP
 | [],_,_,K=>K []
 | k::ks,b,o,K=>ldS S k b o fun x=>ldsS S ks b (o + 1) fun vs=>K (k.val x::vs)
def loadSI (P:Program) (S:World -> Prop) (t:TypeId) (x:Value) (K:Value -> WP):WP:=
 match x with
 | .pointer (some ⟨b,o,none⟩)=>match cks P 9 t with
  | some ks=>cond ((P.underlying t).isSome && (P.info? t).isSome && Nat.beq (szT P t) ks.length) (match aggT P t with
   | true=>ldsS S ks b o fun vs=>K (.agg vs.toArray)
   | false=>match ks with
    | [k]=>match isIfcT P t with
     | true=>ldFS S b o (K .nilIface) fun t v=>K (.iface t v)
     | false=>match isFunT P t with
      | true=>ldVS S b o (K .nilFunc) (mapF (fun f=>K (.func (.func f) #[] #[])) (candF P t))
      | false=>ldS S k b o fun x=>K (k.val x)
    | _=>bot) bot
  | none=>bot
 | _=>bot
def stI (P:Program) (S:World -> Prop) (ρ:Env) (o:Op) (K:Value -> WP):WP:=
 match pureI P ρ o with
 | some F=>fun w=>F fun v=>K v w
 | none=>match o with
  | .load t x=>loadSI P S t (ev ρ x) K
  | _=>bot
def keepS (b:Bool) (S:World -> Prop) (K:WP):WP:=
 match b with
 | true=>fun w=>S w /\ K w
 | false=>K
def allW:List WP -> WP
 | []=>bot
 | [p]=>p
 | p::l=>fun w=>p w /\ allW l w
def drawI (P:Program) (all:List Oper) (S:World -> Prop) (A AL tab:List Nat):Nat -> List Nat -> Env -> (Env -> WP) -> WP
 | 0,done,ρ,K=>cond ((List.range all.length).all (memb · done)) (K ρ) bot
 | n + 1,done,ρ,K=>match nextA all done A with
  | some i=>match all[i]? with
   | none=>bot
   | some o=>cond (freeL all done i o)
     (guardI all ρ o (fun ρ=>stI P S ρ o.op fun v=>drawI P all S A AL tab n (i::done) (ptO ρ o.dst v) K) (fun ρ=>drawI P all S A AL tab n (i::done) (ptO ρ o.dst undef) K)) bot
  | none=>allW ((readyL all done).map fun i=>match all[i]? with
   | none=>bot
   | some o=>guardI all ρ o (fun ρ=>opI P ρ o.type o.op fun v=>keepS (needS AL tab i) S (drawI P all S A AL tab n (i::done) (ptO ρ o.dst v) K))
     (fun ρ=>keepS (needS AL tab i) S (drawI P all S A AL tab n (i::done) (ptO ρ o.dst undef) K)))
structure KP where
 live:List (Nat × List Nat)
 ord:List (Nat × List Nat)
def lookN:List (Nat × List Nat) -> Nat -> Option (List Nat)
 | [],_=>none
 | (k,l)::r,n=>match Nat.beq k n with
  | true=>some l
  | false=>lookN r n
def clean:List Nat -> Nat -> Env -> Env
 | _,_,[]=>[]
 | [],i,_::ρ=>unk::clean [] (i + 1) ρ
 | k::ks,i,v::ρ=>match Nat.beq k i with
  | true=>v::clean ks (i + 1) ρ
  | false=>unk::clean (k::ks) (i + 1) ρ
def cleanAt (kp:KP) (n:Nat) (ρ:Env):Env:=
 match lookN kp.live n with
 | some ks=>clean ks 0 ρ
 | none=>ρ
def firstR:Code -> Option Nat
 | .region id _ _=>some id
 | .seq a b=>match firstR a with
  | some i=>some i
  | none=>firstR b
 | .cond _ a b=>match firstR a with
  | some i=>some i
  | none=>firstR b
 | .block _ b=>firstR b
 | .loop b=>firstR b
 | _=>none
def keyS (c:Code):Nat:=match firstR c with
 | some i=>2 * i + 2
 | none=>0
def keyL (c:Code):Nat:=match firstR c with
 | some i=>2 * i + 3
 | none=>1
def loopI (body:(Env -> WP) -> Env -> WP) (cl:Env -> Env):Nat -> Env -> WP
 | 0,_=>bot
 | m + 1,ρ=>body (fun ρ'=>loopI body cl m (cl ρ')) ρ
def noSel (o:Oper):Bool:=match o.op with
 | .select _ _=>false
 | _=>true
def ordOf (kp:KP) (id:Nat):List Nat:=
 match lookN kp.ord id with
 | some l=>l
 | none=>[]
def drawnI (P:Program) (kp:KP) (id:Nat) (all:List Oper) (ρ:Env) (n:Env -> WP):WP:=fun w=>
 ∃ S:World -> Prop,S w.drew /\ drawI P all S (ordOf kp id) (loadsOf all (ordOf kp id)) (mkTab all []) all.length [] ρ n w.drew
abbrev Jn:=Nat -> (Env -> WP) -> Env -> WP
def idJ:Jn:=fun _ f ρ=>f ρ
def codeI (P:Program) (kp:KP) (jn:Jn):Code -> (Env -> WP) -> (Nat -> Env -> WP) -> (Env -> WP) -> Env -> WP
 | .skip,n,_,_,ρ=>n ρ
 | .region id ops d,n,_,_,ρ=>match d with
  | false=>opsI P ops.toList ops.toList ρ n
  | true=>cond (ops.toList.all noSel) (drawnI P kp id ops.toList ρ n) bot
 | .seq a b,n,x,r,ρ=>codeI P kp jn a (fun ρ=>match lookN kp.live (keyS b) with
  | some ks=>jn (keyS b) (fun ρ=>codeI P kp jn b n x r ρ) (clean ks 0 ρ)
  | none=>codeI P kp jn b n x r ρ) x r ρ
 | .cond c a b,n,x,r,ρ=>match ev ρ c with
  | .bool t=>ite2 t (codeI P kp jn a n x r ρ) (codeI P kp jn b n x r ρ)
  | _=>bot
 | .block id b,n,x,r,ρ=>codeI P kp jn b n (fun i ρ=>match Nat.beq i id with
  | true=>n ρ
  | false=>x i ρ) r ρ
 | .loop b,_,x,r,ρ=>fun w=>∃ m,loopI (fun k ρ=>codeI P kp jn b k x r ρ) (cleanAt kp (keyL b)) m (cleanAt kp (keyL b) ρ) w
 | .exit id,_,x,_,ρ=>x id ρ
 | .ret,_,_,r,ρ=>r ρ
 | _,_,_,_,_=>bot
def resL (P:Program):List ResultVar -> Env -> (List Value -> WP) -> WP
 | [],_,K=>K []
 | .tmp t::l,ρ,K=>cond (isU (gt ρ t)) bot (resL P l ρ fun vs=>K (gt ρ t::vs))
 | .cell a t::l,ρ,K=>loadI P t (gt ρ a) fun v=>resL P l ρ fun vs=>K (v::vs)
def resI (P:Program) (rs:List ResultVar) (ρ:Env) (Q:Value -> WP):WP:=
 resL P rs ρ fun vs=>match vs with
  | [v]=>Q v
  | vs=>Q (.tuple vs.toArray)
def bodyOf (fn:Func):Code:=match fn.body with
 | some c=>c
 | none=>.skip
def undefs:Nat -> Env
 | 0=>[]
 | n + 1=>undef::undefs n
def funJ (jn:Jn) (P:Program) (kp:KP) (fn:Func) (args:List Value) (Q:Value -> WP):WP:=
 codeI P kp jn (bodyOf fn) (fun ρ=>resI P fn.results.toList ρ Q) (fun _ _=>bot) (fun ρ=>resI P fn.results.toList ρ Q) (args ++ undefs (fn.ntmps - args.length))
def us:Nat -> Env -> Env
 | 0,l=>l
 | n + 1,l=>unk::us n l
def idx (a:Option Addr) (n:Nat) (i:Int) (K:Nat -> Nat -> WP):WP:=fun w=>∃ b o,a = some ⟨b,o,none⟩ /\ (0 <= i /\ i < (n:Int)) /\ K b o w
def call0 (P:Program) (f:FuncId) (args:List Value) (K:WP):WP:=fun w=>
 Calls P f args.toArray w fun e w'=>e = .returned (.tuple #[]) /\ K w'
def call1 (k:CK) (P:Program) (f:FuncId) (args:List Value) (K:k.ty -> WP):WP:=fun w=>
 Calls P f args.toArray w fun e w'=>∃ x:k.ty,e = .returned (k.val x) /\ K x w'
def call2 (k l:CK) (P:Program) (f:FuncId) (args:List Value) (K:k.ty -> l.ty -> WP):WP:=fun w=>
 Calls P f args.toArray w fun e w'=>∃ x:k.ty,∃ y:l.ty,e = .returned (.tuple #[k.val x,l.val y]) /\ K x y w'
def call3 (k l m:CK) (P:Program) (f:FuncId) (args:List Value) (K:k.ty -> l.ty -> m.ty -> WP):WP:=fun w=>
 Calls P f args.toArray w fun e w'=>∃ x:k.ty,∃ y:l.ty,∃ z:m.ty,e = .returned (.tuple #[k.val x,l.val y,m.val z]) /\ K x y z w'
def lft:Code -> Code
 | .seq a _=>a
 | .cond _ a _=>a
 | .block _ b=>b
 | .loop b=>b
 | c=>c
def rgt:Code -> Code
 | .seq _ b=>b
 | .cond _ _ b=>b
 | c=>c
def cAtN:List Nat -> Code -> Code
 | [],c=>c
 | 0::l,c=>cAtN l (lft c)
 | _::l,c=>cAtN l (rgt c)
def retK (P:Program) (fn:Func) (Q:Value -> WP):Env -> WP:=fun ρ=>resI P fn.results.toList ρ Q
def noX:Nat -> Env -> WP:=fun _ _=>bot
def seqK (P:Program) (kp:KP) (jn:Jn) (b:Code) (n:Env -> WP) (x:Nat -> Env -> WP) (r:Env -> WP):Env -> WP:=fun ρ=>match lookN kp.live (keyS b) with
 | some ks=>jn (keyS b) (fun ρ=>codeI P kp jn b n x r ρ) (clean ks 0 ρ)
 | none=>codeI P kp jn b n x r ρ
def blkX (id:Nat) (n:Env -> WP) (x:Nat -> Env -> WP):Nat -> Env -> WP:=fun i ρ=>match Nat.beq i id with
 | true=>n ρ
 | false=>x i ρ
def lopK (P:Program) (kp:KP) (jn:Jn) (c:Code) (x:Nat -> Env -> WP) (r:Env -> WP) (m:Nat):Env -> WP:=fun ρ=>
 loopI (fun k ρ=>codeI P kp jn c k x r ρ) (cleanAt kp (keyL c)) m (cleanAt kp (keyL c) ρ)
def lop (P:Program) (kp:KP) (jn:Jn) (c:Code) (x:Nat -> Env -> WP) (r:Env -> WP) (m:Nat) (ρ:Env):WP:=
 loopI (fun k ρ=>codeI P kp jn c k x r ρ) (cleanAt kp (keyL c)) m ρ
def drawW (K:(World -> Prop) -> WP):WP:=fun w=>∃ S:World -> Prop,S w.drew /\ K S w.drew
def exM (L:Nat -> WP):WP:=fun w=>∃ m,L m w
end Go.Hb
namespace Go.Hb
def Le (v v':Value):Prop:=v = unk \/ v = v'
theorem Le.refl (v:Value):Le v v:=.inr rfl
theorem Le.eq {v v':Value} (h:Le v v') (hu:isU v = false):v' = v:=by
 rcases h with h | h
 ·subst h; simp [isU,unk] at hu
 ·exact h.symm
structure Sub (ρ:Env) (a:Act):Prop where
 defers:a.defers = []
 size:ρ.length <= a.tmps.size
 get:∀ t,Le (gt ρ t) (a.tmps.getD t undef)
theorem gt_pt (ρ:Env) (t u:Nat) (v:Value):gt (pt ρ t v) u = if u = t /\ t < ρ.length then v else gt ρ u:=by
 induction ρ generalizing t u with
 | nil=>simp [pt,gt]
 | cons x ρ ih=>
  cases t with
  | zero=>cases u <;> simp [pt,gt]
  | succ t=>cases u with
   | zero=>simp [pt,gt]
   | succ u=>simp [pt,gt,ih]
theorem length_pt (ρ:Env) (t:Nat) (v:Value):(pt ρ t v).length = ρ.length:=by
 induction ρ generalizing t with
 | nil=>simp [pt]
 | cons x ρ ih=>cases t <;> simp [pt,ih]
theorem Sub.put {ρ:Env} {a:Act} (h:Sub ρ a) (dst:Option Nat) {v v':Value} (hv:Le v v'):Sub (ptO ρ dst v) (a.put dst v'):=by
 cases dst with
 | none=>exact h
 | some t=>
  refine ⟨h.defers,by simpa [ptO,length_pt,Act.put] using h.size,fun u=>?_⟩
  simp only [ptO,gt_pt,Act.put]
  by_cases hu:u = t /\ t < ρ.length
  ·obtain ⟨rfl,hl⟩:=hu
   have hl':u < a.tmps.size:=Nat.lt_of_lt_of_le hl h.size
   simp [hl,hl']; exact hv
  ·rw [if_neg hu]
   by_cases hut:u = t
   ·subst hut
    have hl:¬ u < ρ.length:=fun hl=>hu ⟨rfl,hl⟩
    have:gt ρ u = unk:=by
     have key:∀ (l:Env) (n:Nat),¬ n < l.length -> gt l n = unk:=by
      intro l
      induction l with
      | nil=>intros; rfl
      | cons x l ih=>intro n hn; cases n with
       | zero=>simp at hn
       | succ n=>exact ih n (by simpa using hn)
     exact key ρ u hl
    exact .inl this
   ·have:(a.tmps.setIfInBounds t v').getD u undef = a.tmps.getD u undef:=by
     simp [Array.getElem?_setIfInBounds_ne (Ne.symm hut)]
    rw [this]; exact h.get u
theorem ev_le {ρ:Env} {a:Act} (h:Sub ρ a) (x:Operand):Le (ev ρ x) (a.eval x):=by
 cases x with
 | tmp t=>exact h.get t
 | _=>exact Le.refl _
theorem ev_eq {ρ:Env} {a:Act} (h:Sub ρ a) {x:Operand} {v:Value} (hv:ev ρ x = v) (hu:isU v = false):a.eval x = v:=by
 have:=(ev_le h x).eq (by rw [hv]; exact hu)
 rw [this,hv]
theorem kEq_eq {k k':IntKind} (h:kEq k k' = true):k = k':=by
 cases k <;> cases k' <;> simp_all [kEq]
def Gives (P:Program) (o:Oper) (a:Act) (v:Value):Prop:=∀ w,(execOp a.eval o).run P w = .ok (.value v) w
theorem run_equalIn_ptr {P:Program} {t e:TypeId} (he:P.underlying t = some (.pointer e)) (d:Nat) (p:Option Addr) (w:World) :
  (Op.equalIn (d + 1) t (.pointer p) (.pointer none)).run P w = .ok p.isNone w:=by
 cases p <;> simp [Op.equalIn,run_underlying he]
theorem run_equalIn_slc {P:Program} {t e:TypeId} (he:P.underlying t = some (.slice e)) (d:Nat) (p:Option Addr) (n c m k:Nat) (w:World) :
  (Op.equalIn (d + 1) t (.slice p n c) (.slice none m k)).run P w = .ok p.isNone w:=by
 cases p <;> simp [Op.equalIn,run_underlying he]
theorem run_equalIn_bool {P:Program} {t:TypeId} (he:P.underlying t = some .bool) (d:Nat) (p q:Bool) (w:World) :
  (Op.equalIn (d + 1) t (.bool p) (.bool q)).run P w = .ok (p == q) w:=by
 simp [Op.equalIn,run_underlying he]
theorem run_binOp_eql {P:Program} {t:TypeId} {u v:Value} {b:Bool} {w:World} {op:BinOp} (hop:op = .eql \/ op = .neq)
  (hu:(∃ p,u = .pointer p /\ ∃ q,v = .pointer q) \/ (∃ p n c,u = .slice p n c /\ ∃ p n c,v = .slice p n c) \/ (∃ p,u = .bool p /\ ∃ q,v = .bool q))
  (h:(Op.equalIn 10000 t u v).run P w = .ok b w):(binOp op t u v).run P w = .ok (.bool (if op = .eql then b else !b)) w:=by
 have h':(Op.equal t u v).run P w = .ok b w:=h
 rcases hop with rfl | rfl <;> rcases hu with ⟨p,rfl,q,rfl⟩ | ⟨p,n,c,rfl,p',n',c',rfl⟩ | ⟨p,rfl,q,rfl⟩ <;>
  (simp only [binOp,Sem.run_bind,h',Result.andThen_ok]; rfl)
section
variable {P:Program} {ρ:Env} {a:Act}
theorem run_part_int {e:TypeId} {k:IntKind} {w:World} (he:P.underlying e = some (.int k)) {xs:Array Value} {o:Nat} {v:Value} (h:xs.toList[o]? = some v):(part e xs o).run P w = .ok v w:=by
 have h':xs[o]? = some v:=by rw [<- Array.getElem?_toList]; exact h
 unfold part
 simp [isAgg,run_underlying he,h']
theorem run_equalIn_int {e:TypeId} {k:IntKind} {w:World} (he:P.underlying e = some (.int k)) (d:Nat) (a b:Int):(Op.equalIn (d + 1) e (.int k a) (.int k b)).run P w = .ok (a == b) w:=by
 simp [Op.equalIn,run_underlying he]
theorem eqRow_sound {e:TypeId} {k:IntKind} (he:P.underlying e = some (.int k)) (d:Nat) (xs ys:Array Value):∀ (l m:List Value) (o:Nat) (K:Bool -> Prop),xs.toList.drop o = l -> ys.toList.drop o = m -> eqRowC k l m K ->
  ∃ r,K r /\ ∀ w,(Op.eqItems (d + 1) e 1 xs ys (List.range' o l.length)).run P w = .ok r w:=by
 intro l
 induction l with
 | nil=>
  intro m o K h1 h2 h
  cases m with
  | nil=>exact ⟨true,h,fun w=>by simp [Op.eqItems]⟩
  | cons _ _=>exact h.elim
 | cons x l ih=>
  intro m o K h1 h2 h
  unfold eqRowC at h
  cases x <;> try exact h.elim
  rename_i k1 a
  cases m with
  | nil=>exact h.elim
  | cons y m=>
  cases y <;> try exact h.elim
  rename_i k2 b
  simp only at h
  cases hk:kEq k k1 && kEq k k2 with
  | false=>rw [hk] at h; exact h.elim
  | true=>
   rw [hk] at h
   simp only [Bool.and_eq_true] at hk
   obtain rfl:=kEq_eq hk.1
   obtain rfl:=kEq_eq hk.2
   have hx:xs.toList[o]? = some (.int k a):=by
    have:=congrArg (·[0]?) h1
    simpa using this
   have hy:ys.toList[o]? = some (.int k b):=by
    have:=congrArg (·[0]?) h2
    simpa using this
   have h1':xs.toList.drop (o + 1) = l:=by rw [<- List.drop_drop,h1]; rfl
   have h2':ys.toList.drop (o + 1) = m:=by rw [<- List.drop_drop,h2]; rfl
   obtain ⟨r,hr,hw⟩:=ih m (o + 1) _ h1' h2' h
   refine ⟨_,hr,fun w=>?_⟩
   simp only [List.length_cons,List.range'_succ,Op.eqItems,Sem.run_bind,Nat.mul_one,run_part_int he hx,run_part_int he hy,Result.andThen_ok,run_equalIn_int he]
   cases hab:(a == b) with
   | true=>simpa using hw w
   | false=>simp
theorem eqFld_sound (d:Nat) (xs ys:Array Value):∀ (fs:List Field) (K:Bool -> Prop),eqFldC P xs.toList ys.toList fs K ->
  (∃ r,K r /\ ∀ w,(Op.eqFields (d + 1) xs ys fs).run P w = .ok r w) /\ ∀ f ∈ fs,∃ k,P.underlying f.type = some (.int k):=by
 intro fs
 induction fs with
 | nil=>intro K h; exact ⟨⟨true,h,fun w=>by simp [Op.eqFields]⟩,fun f hf=>by cases hf⟩
 | cons f fs ih=>
  intro K h
  unfold eqFldC at h
  cases hu:P.underlying f.type with
  | none=>simp only [hu] at h
  | some td=>
  simp only [hu] at h
  cases td <;> try exact h.elim
  rename_i k
  simp only at h
  cases hx:xs.toList[f.offset]? with
  | none=>simp only [hx] at h
  | some x=>
  simp only [hx] at h
  cases x <;> try exact h.elim
  rename_i k1 a
  simp only at h
  cases hy:ys.toList[f.offset]? with
  | none=>simp only [hy] at h
  | some y=>
  simp only [hy] at h
  cases y <;> try exact h.elim
  rename_i k2 b
  simp only at h
  cases hk : (kEq k k1 && kEq k k2 && !(f.name == "_")) with
  | false=>rw [hk] at h; exact h.elim
  | true=>
   rw [hk] at h
   simp only [Bool.and_eq_true,Bool.not_eq_eq_eq_not,Bool.not_true,beq_eq_false_iff_ne] at hk
   obtain rfl:=kEq_eq hk.1.1
   obtain rfl:=kEq_eq hk.1.2
   obtain ⟨⟨r,hr,hw⟩,hall⟩:=ih _ h
   refine ⟨⟨_,hr,fun w=>?_⟩,fun g hg=>?_⟩
   ·have hne : f.name ≠ "_" := hk.2
    simp only [Op.eqFields,hne,ne_eq,not_false_eq_true,if_true,Sem.run_bind,run_part_int hu hx,run_part_int hu hy,Result.andThen_ok,Hb.run_equalIn_int hu]
    cases hab:(a == b) with
    | true=>simpa using hw w
    | false=>simp
   ·cases hg with
    | head=>exact ⟨_,hu⟩
    | tail _ hg=>exact hall g hg
theorem binI_sound {op:BinOp} {t:TypeId} {x y:Operand} {u v:Value} {K:Value -> Prop} (h:binI P op t u v K) :
  ∃ r,K r /\ isU u = false /\ isU v = false /\ ∀ w,((do eqGuard op t x y u v; binOp op t u v:Sem Value)).run P w = .ok r w:=by
 unfold binI at h
 cases u <;> try exact h.elim
 case agg xs=>
  cases v <;> try exact h.elim
  case agg ys=>
   simp only at h
   split at h
   case h_3=>exact h.elim
   case h_2=>
    rename_i fs hfs
    cases hst:P.stoodInHeld t with
    | true=>rw [hst] at h; exact h.elim
    | false=>
    rw [hst] at h
    have hfo:P.fieldsOf t = fs:=by simp [Program.fieldsOf,hfs]
    obtain ⟨⟨r,hr,hw⟩,hall⟩:=eqFld_sound (P:=P) 9998 xs ys fs.toList _ h
    have heq:∀ w,(Op.equalIn 10000 t (.agg xs) (.agg ys)).run P w = .ok r w:=by
     intro w
     rw [run_equalIn_struct (P:=P) w 9999 t xs ys (by rw [hfo]; exact hfs) hst,hfo]
     exact hw w
    have hg:P.eqGuardType P.depth t = false:=by
     obtain ⟨d,hd⟩:∃ d,P.depth = d + 2:=⟨_,rfl⟩
     rw [hd]
     simp only [Program.eqGuardType,hfs]
     rw [Array.any_eq_false']
     intro f hf
     obtain ⟨k,hk⟩:=hall f (by simpa using hf)
     simp [hk]
    have heq':∀ w,(Op.equal t (.agg xs) (.agg ys)).run P w = .ok r w:=heq
    cases op <;> simp only [eqI] at hr <;> try exact hr.elim
    all_goals
     refine ⟨_,hr,rfl,rfl,fun w=>?_⟩
     simp [eqGuard,hg,binOp,heq',go_sem]
   rename_i n e he
   split at h
   case h_2=>exact h.elim
   rename_i k hk
   cases hc:(P.info? e).isSome && Nat.beq (P.cellsOf e) 1 && Nat.beq xs.toList.length n with
   | false=>rw [hc] at h; exact h.elim
   | true=>
    rw [hc] at h
    simp only [Bool.and_eq_true,Nat.beq_eq] at hc
    obtain ⟨⟨hi,hc1⟩,hn⟩:=hc
    obtain ⟨i,hi⟩:=Option.isSome_iff_exists.1 hi
    obtain ⟨r,hr,hw⟩:=eqRow_sound (P:=P) hk 9998 xs ys _ _ 0 _ rfl rfl h
    have heq:∀ w,(Op.equalIn 10000 t (.agg xs) (.agg ys)).run P w = .ok r w:=by
     intro w
     rw [run_equalIn_array (P:=P) w 9999 xs ys he hi,hc1,List.range_eq_range',<- hn]
     simpa using hw w
    have hg:P.eqGuardType P.depth t = false:=by
     obtain ⟨d,hd⟩:∃ d,P.depth = d + 2:=⟨_,rfl⟩
     rw [hd]
     simp [Program.eqGuardType,he,hk]
    have heq':∀ w,(Op.equal t (.agg xs) (.agg ys)).run P w = .ok r w:=heq
    cases op <;> simp only [eqI] at hr <;> try exact hr.elim
    all_goals
     refine ⟨_,hr,rfl,rfl,fun w=>?_⟩
     simp [eqGuard,hg,binOp,heq',go_sem]
 case int k n=>
  cases v <;> try exact h.elim
  case int k' m=>
   have hgen:∀ op,cond (kEq k k') (intI op k n m K) False -> ∃ r,K r /\ ∀ w,((do eqGuard op t x y (.int k n) (.int k' m); binOp op t (.int k n) (.int k' m):Sem Value)).run P w = .ok r w:=by
    intro op h
    cases hk:kEq k k' with
    | false=>rw [hk] at h; exact h.elim
    | true=>
     rw [hk] at h
     obtain rfl:=kEq_eq hk
     cases op <;> simp only [intI,cond_true] at h <;> try exact h.elim
     case quo=>exact ⟨_,h.2,fun w=>by simp [go_sem,Op.intDiv,h.1]⟩
     case rem=>exact ⟨_,h.2,fun w=>by simp [go_sem,Op.intDiv,h.1]⟩
     all_goals exact ⟨_,h,fun w=>by simp [go_sem,Op.intArith]⟩
   cases op
   case shl=>
    refine ⟨_,h.2,rfl,rfl,fun w=>?_⟩
    have:¬ m < 0:=by have:=h.1; omega
    simp [go_sem,Op.shift,this,shlV]
   case shr=>
    refine ⟨_,h.2,rfl,rfl,fun w=>?_⟩
    have:¬ m < 0:=by have:=h.1; omega
    simp [go_sem,Op.shift,this,shrV]
   all_goals
    obtain ⟨r,hr,hw⟩:=hgen _ h
    exact ⟨r,hr,rfl,rfl,hw⟩
 case string s=>
  cases v <;> try exact h.elim
  case string s'=>
   cases op <;> simp only [strI] at h <;> try exact h.elim
   case add=>
    refine ⟨_,h.2,rfl,rfl,fun w=>?_⟩
    have h1:¬ ((s.size:Int) + (s'.size:Int) > 9223372036854775807):=by have:=h.1; omega
    simp [go_sem,binOp,Op.stringOp]
    omega
   all_goals exact ⟨_,h,rfl,rfl,fun w=>by simp [go_sem,binOp,Op.stringOp,sEq,sLt]⟩
 case pointer p=>
  cases v <;> try exact h.elim
  case pointer q=>
   cases q with
   | some q=>exact h.elim
   | none=>
    simp only [isPtrT] at h
    split at h
    case h_2=>exact h.elim
    rename_i e he
    simp only [cond_true] at h
    cases op <;> simp only [eqI] at h <;> try exact h.elim
    all_goals
     refine ⟨_,h,rfl,rfl,fun w=>?_⟩
     simp only [Sem.run_bind,eqGuard_at_pointer,Sem.run_pure,Result.andThen_ok]
     exact run_binOp_eql (by simp) (.inl ⟨_,rfl,_,rfl⟩) (run_equalIn_ptr he 9999 p w)
 case slice p n c=>
  cases v <;> try exact h.elim
  case slice q m d=>
   cases q with
   | some q=>exact h.elim
   | none=>
    simp only [isSlcT] at h
    split at h
    case h_2=>exact h.elim
    rename_i e he
    simp only [cond_true] at h
    cases op <;> simp only [eqI] at h <;> try exact h.elim
    all_goals
     refine ⟨_,h,rfl,rfl,fun w=>?_⟩
     simp only [Sem.run_bind,eqGuard_at_slice,Sem.run_pure,Result.andThen_ok]
     exact run_binOp_eql (by simp) (.inr (.inl ⟨_,_,_,rfl,_,_,_,rfl⟩)) (run_equalIn_slc he 9999 p n c m d w)
 case bool b=>
  cases v <;> try exact h.elim
  case bool b'=>
   simp only [isBoolT] at h
   split at h
   case h_2=>exact h.elim
   rename_i he
   simp only [cond_true] at h
   cases op <;> simp only [eqI] at h <;> try exact h.elim
   all_goals
    refine ⟨_,h,rfl,rfl,fun w=>?_⟩
    simp only [Sem.run_bind,eqGuard_at_bool,Sem.run_pure,Result.andThen_ok]
    exact run_binOp_eql (by simp) (.inr (.inr ⟨_,rfl,_,rfl⟩)) (run_equalIn_bool he 9999 b b' w)
theorem run_equalIn_nn {P:Program} {t:TypeId} {ms:Array (String × TypeId)} (he:P.underlying t = some (.interface ms)) (d:Nat) (w:World):(Op.equalIn (d + 1) t .nilIface .nilIface).run P w = .ok true w:=by
 simp [Op.equalIn,run_underlying he]
theorem run_equalIn_in {P:Program} {t:TypeId} {ms:Array (String × TypeId)} (he:P.underlying t = some (.interface ms)) (d:Nat) (t':TypeId) (v':Value) (w:World):(Op.equalIn (d + 1) t (.iface t' v') .nilIface).run P w = .ok false w:=by
 simp [Op.equalIn,run_underlying he]
theorem run_equalIn_ff {P:Program} {t:TypeId} {ps rs:Array TypeId} {v:Bool} (he:P.underlying t = some (.func ps rs v)) (d:Nat) (w:World):(Op.equalIn (d + 1) t .nilFunc .nilFunc).run P w = .ok true w:=by
 simp [Op.equalIn,run_underlying he]
theorem run_equalIn_fn {P:Program} {t:TypeId} {ps rs:Array TypeId} {v:Bool} (he:P.underlying t = some (.func ps rs v)) (d:Nat) (f:Fn) (a c:Array Value) (w:World):(Op.equalIn (d + 1) t (.func f a c) .nilFunc).run P w = .ok false w:=by
 simp [Op.equalIn,run_underlying he]
theorem isIfc_spec {t:TypeId} (h:isIfcT P t = true):∃ ms,P.underlying t = some (.interface ms):=by
 unfold isIfcT at h
 split at h
 ·exact ⟨_,by assumption⟩
 ·cases h
theorem nilI_sound {op:BinOp} {t:TypeId} {x:Operand} {u:Value} {K:Value -> Prop} (h:nilI P op t u K) :
  ∃ r,K r /\ isU u = false /\ ∀ w,((do eqGuard op t x (.const .nilIface) u .nilIface; binOp op t u .nilIface:Sem Value)).run P w = .ok r w:=by
 unfold nilI at h
 cases u <;> try exact h.elim
 case nilIface=>
  cases hi:isIfcT P t with
  | false=>simp only [hi] at h; exact h.elim
  | true=>
   simp only [hi,cond_true] at h
   obtain ⟨ms,he⟩:=isIfc_spec hi
   have heq:∀ w,(Op.equalIn 10000 t .nilIface .nilIface).run P w = .ok true w:=run_equalIn_nn he 9999
   have heq':∀ w,(Op.equal t .nilIface .nilIface).run P w = .ok true w:=heq
   cases op <;> simp only [eqI] at h <;> try exact h.elim
   all_goals
    refine ⟨_,h,rfl,fun w=>?_⟩
    simp [eqGuard,binOp,heq',go_sem]
 case iface t' v'=>
  cases hi:isIfcT P t with
  | false=>simp only [hi] at h; exact h.elim
  | true=>
   simp only [hi,cond_true] at h
   obtain ⟨ms,he⟩:=isIfc_spec hi
   have heq:∀ w,(Op.equalIn 10000 t (.iface t' v') .nilIface).run P w = .ok false w:=run_equalIn_in he 9999 t' v'
   have heq':∀ w,(Op.equal t (.iface t' v') .nilIface).run P w = .ok false w:=heq
   cases op <;> simp only [eqI] at h <;> try exact h.elim
   all_goals
    refine ⟨_,h,rfl,fun w=>?_⟩
    simp [eqGuard,binOp,heq',go_sem]
theorem isFun_spec {t:TypeId} (h:isFunT P t = true):∃ ps rs v,P.underlying t = some (.func ps rs v):=by
 unfold isFunT at h
 split at h
 ·exact ⟨_,_,_,by assumption⟩
 ·cases h
theorem nilFI_sound {op:BinOp} {t:TypeId} {x:Operand} {u:Value} {K:Value -> Prop} (h:nilFI P op t u K) :
  ∃ r,K r /\ isU u = false /\ ∀ w,((do eqGuard op t x (.const .nilFunc) u .nilFunc; binOp op t u .nilFunc:Sem Value)).run P w = .ok r w:=by
 unfold nilFI at h
 cases u <;> try exact h.elim
 case nilFunc=>
  cases hi:isFunT P t with
  | false=>simp only [hi] at h; exact h.elim
  | true=>
   simp only [hi,cond_true] at h
   obtain ⟨_,_,_,he⟩:=isFun_spec hi
   have heq:∀ w,(Op.equalIn 10000 t .nilFunc .nilFunc).run P w = .ok true w:=run_equalIn_ff he 9999
   have heq':∀ w,(Op.equal t .nilFunc .nilFunc).run P w = .ok true w:=heq
   cases op <;> simp only [eqI] at h <;> try exact h.elim
   all_goals
    refine ⟨_,h,rfl,fun w=>?_⟩
    simp [eqGuard,binOp,heq',go_sem]
 case func f first cap=>
  cases hi:isFunT P t with
  | false=>simp only [hi] at h; exact h.elim
  | true=>
   simp only [hi,cond_true] at h
   obtain ⟨_,_,_,he⟩:=isFun_spec hi
   have heq:∀ w,(Op.equalIn 10000 t (.func f first cap) .nilFunc).run P w = .ok false w:=run_equalIn_fn he 9999 f first cap
   have heq':∀ w,(Op.equal t (.func f first cap) .nilFunc).run P w = .ok false w:=heq
   cases op <;> simp only [eqI] at h <;> try exact h.elim
   all_goals
    refine ⟨_,h,rfl,fun w=>?_⟩
    simp [eqGuard,binOp,heq',go_sem]
end
end Go.Hb
