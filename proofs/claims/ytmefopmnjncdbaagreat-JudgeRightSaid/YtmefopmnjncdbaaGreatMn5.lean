import Derived.ProofKit
import Derived.SizedLaws
import Derived.ChangeArms
import Derived.ChangeMaps5
import Derived.Lib.Strings
import Derived.Test.YtmefopmnjncdbaaGreatMn4
set_option linter.unusedVariables false
set_option linter.unusedSimpArgs false
set_option linter.unnecessarySimpa false
set_option linter.unusedSectionVars false
set_option maxRecDepth 100000
namespace Go.Hb
open Go.ChangeShapes Go.WideShapes Go.RowKit
def okV:CK -> Value -> Prop
 | .int k,v=>∃ n,v = .int k n /\ (Lit.int k n).wf = true
 | .bool,v=>∃ b,v = .bool b
 | .str,v=>∃ s,v = .string s /\ s.size <= reachBytes
 | _,_=>False
def okRow:List CK -> List Value -> Prop
 | [],[]=>True
 | k::ks,v::vs=>okV k v /\ okRow ks vs
 | _,_=>False
theorem okRow_len:∀ {ks:List CK} {vs:List Value},okRow ks vs -> vs.length = ks.length
 | [],[],_=>rfl
 | _::_,_::_,h=>by simp [okRow_len h.2]
theorem okRow_append:∀ {ks ls:List CK} {vs us:List Value},okRow ks vs -> okRow ls us -> okRow (ks ++ ls) (vs ++ us)
 | [],_,[],_,_,h=>h
 | _::_,_,_::_,_,h,h'=>⟨h.1,okRow_append h.2 h'⟩
theorem okRow_rep {ks:List CK}:∀ {n:Nat} {rows:List (List Value)},rows.length = n -> (∀ r ∈ rows,okRow ks r) -> okRow (repK ks n) rows.flatten
 | 0,[],_,_=>trivial
 | n + 1,r::rows,h,hr=>okRow_append (hr r (.head _)) (okRow_rep (by simpa using h) fun x hx=>hr x (.tail _ hx))
def flatF (P:Program) (rec:TypeId -> Option (List CK)):Nat -> List Field -> Option (List CK)
 | _,[]=>some []
 | o,f::fs=>if f.offset = o then match rec f.type with
  | some ks=>if ks.length = P.cellsOf f.type then (flatF P rec (o + ks.length) fs).map (ks ++ ·) else none
  | none=>none else none
def flatT (P:Program):Nat -> TypeId -> Option (List CK)
 | 0,_=>none
 | d + 1,t=>match P.underlying t with
  | some .bool=>some [.bool]
  | some (.int k)=>some [.int k]
  | some .string=>some [.str]
  | some (.struct fs)=>match flatF P (flatT P d) 0 fs.toList with
   | some ks=>if ks.length = P.cellsOf t then some ks else none
   | none=>none
  | some (.array n e)=>match flatT P d e with
   | some ks=>if ks.length = P.cellsOf e /\ n * ks.length = P.cellsOf t then some (repK ks n) else none
   | none=>none
  | _=>none
section
variable {H:Type} {enc:TypeId × Value -> H} {P:Program} {W:World} {sp:Nat -> Bool} {held:Bool} {base:Nat}
theorem mapM_all {α β:Type} {f:α -> Option β}:∀ {l:List α} {xs:List β},l.mapM f = some xs -> ∀ a ∈ l,∃ y,f a = some y
 | [],_,_,_,h=>by cases h
 | a::l,xs,h,b,hb=>by
  simp only [List.mapM_cons,Option.bind_eq_bind,Option.pure_def,Option.bind_eq_some_iff] at h
  obtain ⟨y,hy,ys,hys,_⟩:=h
  cases hb with
  | head=>exact ⟨y,hy⟩
  | tail _ hb=>exact mapM_all hys b hb
theorem mapM_get {α β:Type} {f:α -> Option β}:∀ {l:List α} {xs:List β} {i:Nat} {a:α},l.mapM f = some xs -> l[i]? = some a -> ∃ y,xs[i]? = some y /\ f a = some y
 | [],_,_,_,_,h=>by simp at h
 | b::l,xs,i,a,h,hi=>by
  simp only [List.mapM_cons,Option.bind_eq_bind,Option.pure_def,Option.bind_eq_some_iff] at h
  obtain ⟨y,hy,ys,hys,hx⟩:=h
  cases hx
  cases i with
  | zero=>simp only [List.getElem?_cons_zero,Option.some.injEq] at hi; subst hi; exact ⟨y,rfl,hy⟩
  | succ i=>exact mapM_get (l:=l) (i:=i) hys (by simpa using hi)
def Light (P:Program) (t:TypeId) (d:DataW H):Prop:=∀ n ∈ d.weights P t,n <= reachBytes
theorem mem_weightsAll {e:TypeId}:∀ {ds:List (DataW H)} {d:DataW H} {n:Nat},d ∈ ds -> n ∈ d.weights P e -> n ∈ DataW.weightsAll P e ds
 | [],_,_,h,_=>by cases h
 | x::ds,d,n,h,hn=>by
  simp only [DataW.weightsAll,List.mem_append]
  cases h with
  | head=>exact .inl hn
  | tail _ h=>exact .inr (mem_weightsAll h hn)
theorem light_each {ts:List TypeId} {ds:List (DataW H)} (h:∀ n ∈ DataW.weightsEach P ts ds,n <= reachBytes) {j:Nat} {t:TypeId} {d:DataW H} (ht:ts[j]? = some t) (hd:ds[j]? = some d):Light P t d:=fun n hn=>
 h n (DataW.weights_mem_each ht hd n hn)
theorem light_all {e:TypeId} {ds:List (DataW H)} (h:∀ n ∈ DataW.weightsAll P e ds,n <= reachBytes) {d:DataW H} (hd:d ∈ ds):Light P e d:=fun n hn=>h n (mem_weightsAll hd hn)
theorem flatF_ok {rec:TypeId -> Option (List CK)} {cs:List Value} (hrec:∀ t ks us,rec t = some ks -> (∃ fuel x,DataW.trod enc P W base sp held fuel t us = some x /\ Light P t x.1) -> okRow ks us) :
  ∀ (fs:List Field) (o:Nat) (ks:List CK),flatF P rec o fs = some ks -> (∀ f ∈ fs,∃ fuel x,DataW.trod enc P W base sp held fuel f.type ((cs.drop f.offset).take (P.cellsOf f.type)) = some x /\ Light P f.type x.1) ->
   okRow ks ((cs.drop o).take ks.length)
 | [],o,ks,h,_=>by simp only [flatF,Option.some.injEq] at h; subst h; simp [okRow]
 | f::fs,o,ks,h,hf=>by
  simp only [flatF] at h
  split at h
  case isFalse=>cases h
  rename_i ho
  split at h
  case h_2=>cases h
  rename_i l hl
  split at h
  case isFalse=>cases h
  rename_i hn
  simp only [Option.map_eq_some_iff] at h
  obtain ⟨m,hm,rfl⟩:=h
  have h1:=hrec _ _ _ hl (hf f (.head _))
  have h2:=flatF_ok hrec fs _ _ hm fun g hg=>hf g (.tail _ hg)
  rw [ho,<- hn] at h1
  have:(cs.drop o).take (l ++ m).length = (cs.drop o).take l.length ++ (cs.drop (o + l.length)).take m.length:=by
   rw [List.length_append,List.take_add,List.drop_drop]
  rw [this]
  exact okRow_append h1 h2
theorem flatT_ok:∀ (d:Nat) (t:TypeId) (ks:List CK) (us:List Value),flatT P d t = some ks -> (∃ fuel x,DataW.trod enc P W base sp held fuel t us = some x /\ Light P t x.1) -> okRow ks us:=by
 intro d
 induction d with
 | zero=>intro t ks us h; cases h
 | succ d ih=>
  intro t ks us h ⟨fuel,x,hx,hlt⟩
  unfold flatT at h
  cases hu:P.underlying t with
  | none=>rw [hu] at h; cases h
  | some td=>
  rw [hu] at h
  cases td <;> try (cases h; done)
  case bool=>
   cases h
   obtain ⟨b,rfl,_⟩:=DataW.trod_bool hu hx
   exact ⟨⟨b,rfl⟩,trivial⟩
  case int k=>
   cases h
   obtain ⟨n,rfl,_,hw⟩:=DataW.trod_int hu hx
   exact ⟨⟨n,rfl,hw⟩,trivial⟩
  case string=>
   cases h
   obtain ⟨s,rfl,rfl,hw⟩:=DataW.trod_string hu hx
   have:=hlt s.data.toList.length (by simp [DataW.weights])
   exact ⟨⟨s,rfl,by simpa using this⟩,trivial⟩
  case struct fs=>
   simp only at h
   split at h
   case h_2=>cases h
   rename_i l hl
   split at h
   case isFalse=>cases h
   rename_i hn
   cases h
   cases fuel with
   | zero=>cases hx
   | succ fuel=>
   unfold DataW.trod at hx
   rw [hu] at hx
   simp only at hx
   split at hx
   case isFalse=>cases hx
   rename_i hlen
   simp only [Option.map_eq_some_iff] at hx
   obtain ⟨xs,hxs,rfl⟩:=hx
   have hlt':∀ n ∈ DataW.weightsEach P (fs.toList.map (·.type)) (xs.map (·.1)),n <= reachBytes:=fun n hn=>hlt n (by simp only [DataW.weights,hu]; exact hn)
   have:=flatF_ok (enc:=enc) (W:=W) (sp:=sp) (held:=held) (base:=base) (cs:=us) ih fs.toList 0 _ hl fun f hf=>by
    obtain ⟨i,hi,hfi⟩:=List.mem_iff_getElem.1 hf
    obtain ⟨y,hy,hfy⟩:=mapM_get hxs (List.getElem?_eq_getElem hi)
    rw [hfi] at hfy
    exact ⟨fuel,y,hfy,light_each hlt' (j:=i) (by rw [List.getElem?_map,List.getElem?_eq_getElem hi,hfi]; rfl) (by rw [List.getElem?_map,hy]; rfl)⟩
   rw [List.drop_zero,List.take_of_length_le (by omega)] at this
   exact this
  case array n e=>
   simp only at h
   split at h
   case h_2=>cases h
   rename_i l hl
   split at h
   case isFalse=>cases h
   rename_i hn
   cases h
   cases fuel with
   | zero=>cases hx
   | succ fuel=>
   unfold DataW.trod at hx
   rw [hu] at hx
   simp only at hx
   split at hx
   case isFalse=>cases hx
   rename_i hlen
   simp only [Option.map_eq_some_iff] at hx
   obtain ⟨xs,hxs,rfl⟩:=hx
   have hlt':∀ n ∈ DataW.weightsAll P e (xs.map (·.1)),n <= reachBytes:=fun n hn=>hlt n (by simp only [DataW.weights,hu]; exact hn)
   have hrows:us = ((List.range n).map fun i=>(us.drop (i * P.cellsOf e)).take (P.cellsOf e)).flatten:=by
    have:∀ (n:Nat) (us:List Value),us.length = n * P.cellsOf e -> us = ((List.range n).map fun i=>(us.drop (i * P.cellsOf e)).take (P.cellsOf e)).flatten:=by
     intro n
     induction n with
     | zero=>intro us h; simpa using h
     | succ n ih=>
      intro us h
      rw [List.range_succ_eq_map]
      simp only [List.map_cons,List.map_map,List.flatten_cons,Nat.zero_mul,List.drop_zero]
      conv=>lhs; rw [<- List.take_append_drop (P.cellsOf e) us]
      congr 1
      rw [ih (us.drop (P.cellsOf e)) (by simp [h,Nat.add_mul])]
      congr 1
      apply List.map_congr_left
      intro i _
      simp only [Function.comp,List.drop_drop,Nat.succ_mul]
      rw [Nat.add_comm]
    exact this n us (by rw [hlen,<- hn.2,hn.1])
   rw [hrows]
   refine okRow_rep (by simp) fun r hr=>?_
   simp only [List.mem_map] at hr
   obtain ⟨i,hi,rfl⟩:=hr
   obtain ⟨j,hj,hji⟩:=List.mem_iff_getElem.1 hi
   obtain ⟨y,hy,hfy⟩:=mapM_get hxs (List.getElem?_eq_getElem hj)
   rw [hji] at hfy
   exact ih _ _ _ hl ⟨fuel,y,hfy,light_all hlt' (List.mem_map.2 ⟨y,List.mem_of_getElem? hy,rfl⟩)⟩
theorem open_slc {t e:TypeId} {v:Value} {d:DataW H} {ps:List MemPlace} {ks:List CK} {r:Reach} {b0:Nat} (ht:P.underlying t = some (.slice e)) (hks:flatT P 9 e = some ks) (hsz:P.cellsOf e = ks.length) (_hpos:0 < ks.length)
  (hval:Value.okWide P W r b0 t v) (hd:DataW.Trod enc P W base sp held t v d ps) (hlt:Light P t d) :
  ∃ (s:Sl) (rows:List (List Value)),v = .slice s.a s.n s.c /\ s.n = rows.length /\ s.n * P.bytesOf e <= reachBytes /\ Reads W ks.length s rows.flatten /\ ∀ x ∈ rows,okRow ks x:=by
 obtain ⟨a,len,cap,rfl⟩:=okWide_slice ht hval
 obtain ⟨fuel,hf⟩:=hd
 rcases DataW.trod_slice ht hf with ⟨h,_⟩ | ⟨a',len',cap',elems,rest,n,rfl,h,hd',_,hlc,hcm,hel,hcell,_,_⟩
 ·simp only [Value.cells,List.cons.injEq,Value.slice.injEq,and_true] at h
  obtain ⟨rfl,rfl,rfl⟩:=h
  exact ⟨⟨none,0,0⟩,[],rfl,rfl,by simp,⟨by simp,.inl ⟨rfl,rfl⟩⟩,fun _ hx=>by cases hx⟩
 ·simp only [Value.cells,List.cons.injEq,Value.slice.injEq,and_true] at h
  obtain ⟨rfl,rfl,rfl⟩:=h
  simp only [Prod.mk.injEq] at hd'
  obtain ⟨rfl,rfl⟩:=hd'
  have hwt:(elems.length + rest.length) * P.bytesOf e <= reachBytes:=by
   have:=hlt ((elems.length + rest.length) * P.bytesOf e) (by simp [DataW.weights,ht])
   exact this
  have hle:∀ y ∈ elems,Light P e y.1:=fun y hy=>light_all (P:=P) (e:=e) (ds:=elems.map (·.1)) (fun n hn=>hlt n (by simp only [DataW.weights,ht,List.mem_cons,List.mem_append]; exact .inr (.inl hn))) (List.mem_map.2 ⟨y,hy,rfl⟩)
  have hspot:a'.spot = none:=by
   simp only [Value.okWide,ht,Cell.okWide,Cell.ok] at hval
   exact hval.2.2.2.1
  obtain ⟨b,o,spot⟩:=a'
  simp only at hspot
  subst hspot
  have hrow:∀ i,i < len -> ∃ c,W.cells? base (Addr.add ⟨b,o,none⟩ (i * P.cellsOf e)) (P.cellsOf e) = some c /\ okRow ks c:=by
   intro i hi
   have h1:=hcell i hi
   rw [List.getElem?_eq_getElem (by omega)] at h1
   simp only [Option.bind_eq_some_iff] at h1
   obtain ⟨c,hc,hx⟩:=h1
   exact ⟨c,hc,flatT_ok 9 e ks c hks ⟨_,_,hx,hle _ (List.getElem_mem _)⟩⟩
  have hrow2:∀ i,∃ c,i < len -> W.cells? base (Addr.add ⟨b,o,none⟩ (i * P.cellsOf e)) (P.cellsOf e) = some c /\ okRow ks c:=by
   intro i
   by_cases hi:i < len
   ·obtain ⟨c,hc⟩:=hrow i hi; exact ⟨c,fun _=>hc⟩
   ·exact ⟨[],fun h=>absurd h hi⟩
  let f:Nat -> List Value:=fun i=>Classical.choose (hrow2 i)
  have hf:∀ i,i < len -> W.cells? base (Addr.add ⟨b,o,none⟩ (i * P.cellsOf e)) (P.cellsOf e) = some (f i) /\ okRow ks (f i):=fun i hi=>Classical.choose_spec (hrow2 i) hi
  have hadd:∀ j,Addr.add ⟨b,o,none⟩ j = ⟨b,o + j,none⟩:=by
   intro j
   unfold Addr.add
   split
   ·simp_all
   ·rfl
  have hcells:∀ (i n:Nat) (c:List Value),W.cells? base ⟨b,i,none⟩ n = some c -> c.length = n /\ ∀ j,j < n -> W.cell? ⟨b,i + j,none⟩ = c[j]?:=by
   intro i n c h
   unfold World.cells? at h
   have h:(List.range n).mapM (fun i_1=>W.cell? (Addr.add ⟨b,i,none⟩ i_1)) = some c:=by
    by_cases hb:base <= b
    ·rwa [if_pos hb] at h
    ·rw [if_neg hb] at h; cases h
   have:∀ (l:List Nat) (c:List Value),l.mapM (fun i_1=>W.cell? (Addr.add ⟨b,i,none⟩ i_1)) = some c -> c.length = l.length /\ ∀ j (hj:j < l.length),W.cell? (Addr.add ⟨b,i,none⟩ l[j]) = c[j]?:=by
    intro l
    induction l with
    | nil=>intro c h; simp only [List.mapM_nil,Option.pure_def,Option.some.injEq] at h; subst h; exact ⟨rfl,fun j hj=>by simp at hj⟩
    | cons x l ih=>
     intro c h
     simp only [List.mapM_cons,Option.bind_eq_bind,Option.pure_def,Option.bind_eq_some_iff] at h
     obtain ⟨y,hy,ys,hys,hc⟩:=h
     cases hc
     obtain ⟨h1,h2⟩:=ih ys hys
     refine ⟨by simp [h1],fun j hj=>?_⟩
     cases j with
     | zero=>simpa using hy
     | succ j=>simpa using h2 j (by simpa using hj)
   obtain ⟨h1,h2⟩:=this _ _ h
   refine ⟨by simpa using h1,fun j hj=>?_⟩
   have:=h2 j (by simpa using hj)
   simp only [List.getElem_range] at this
   rw [<- this]
   unfold Addr.add
   split
   ·simp_all
   ·rfl
  refine ⟨⟨some ⟨b,o,none⟩,len,cap⟩,(List.range len).map f,rfl,by simp,by simp only; exact Nat.le_trans (Nat.mul_le_mul_right _ (by omega)) hwt,⟨?_,.inr ⟨b,o,rfl,?_⟩⟩,?_⟩
  ·simp only
   have:∀ (l:List (List Value)),(∀ x ∈ l,x.length = ks.length) -> l.flatten.length = l.length * ks.length:=by
    intro l
    induction l with
    | nil=>simp
    | cons x l ih=>intro h; simp [ih fun y hy=>h y (.tail _ hy),h x (.head _),Nat.add_mul,Nat.add_comm]
   rw [this]
   ·simp
   ·intro x hx
    simp only [List.mem_map,List.mem_range] at hx
    obtain ⟨i,hi,rfl⟩:=hx
    exact okRow_len (hf i hi).2
  ·have:∀ (n:Nat) (g:Nat -> List Value) (p:Nat),(∀ i,i < n -> (g i).length = ks.length /\ ∀ j,j < ks.length -> W.cell? ⟨b,p + i * ks.length + j,none⟩ = (g i)[j]?) ->
     ∀ j,j < ((List.range n).map g).flatten.length -> W.cell? ⟨b,p + j,none⟩ = ((List.range n).map g).flatten[j]?:=by
    intro n
    induction n with
    | zero=>intro g p _ j hj; simp at hj
    | succ n ih=>
     intro g p h j hj
     have hr:(List.range (n + 1)).map g = g 0::(List.range n).map (g ∘ Nat.succ):=by
      rw [List.range_succ_eq_map]; simp
     rw [hr] at hj ⊢
     simp only [List.flatten_cons] at hj ⊢
     obtain ⟨h0,h0'⟩:=h 0 (by omega)
     by_cases hj0:j < ks.length
     ·rw [List.getElem?_append_left (by omega)]
      simpa using h0' j hj0
     ·rw [List.getElem?_append_right (by omega)]
      have:=ih (g ∘ Nat.succ) (p + ks.length) (fun i hi=>by
       obtain ⟨a1,a2⟩:=h (i + 1) (by omega)
       refine ⟨a1,fun j hj=>?_⟩
       have:=a2 j hj
       show _ = (g (i + 1))[j]?
       rw [<- this]
       congr 2
       rw [Nat.add_mul]; omega) (j - ks.length) (by simp at hj ⊢; omega)
      rw [h0,<- this]
      congr 2
      omega
   refine this len f o fun i hi=>?_
   obtain ⟨h1,h2⟩:=hf i hi
   rw [hadd,hsz] at h1
   obtain ⟨h3,h4⟩:=hcells _ _ _ h1
   exact ⟨h3,h4⟩
  ·intro x hx
   simp only [List.mem_map,List.mem_range] at hx
   obtain ⟨i,hi,rfl⟩:=hx
   exact (hf i hi).2
end
theorem law_lifted {H:Type} {enc:TypeId × Value -> H} {C:Checked} {os:Os} {f:FuncId} {fn:Func} {s:ChangeSpec} {conds:List PathCond} {bt:TypeId}
  (own:ownKnob C.prog.godebug = none) (started:os.Started) (noInit:C.prog.inits.idxOf? f = none) (hfn:C.prog.funcs[f]? = some fn)
  (witness:∃ (w:World) (tape:Tape) (i:Input),w.os = os /\ (w.forCall tape i).Shaped C.prog /\ i.vars = [] /\ Input.okWide C.prog (w.forCall tape i) .any w.heap.size f i /\
   s.pre6 enc C.prog fn conds false (w.forCall tape i).memory i.args /\ ({}:Assume).holds C.prog (lone (Frame.enter C.prog f i.args .normal) [] (w.forCall tape i)))
  (hv:s.vars = []) (hrt:fn.resultTypes = #[bt]) (hb:C.prog.underlying bt = some .bool) (hpl:(fn.params.toList.all fun t=>plainT C.prog 9 t) = true)
  (contract:∀ (W:World) (base:Nat) (args:Array Value) (ds:List (DataW H)) (p:List MemPlace),
   (∀ (j:Nat) t v,fn.params[j]? = some t -> args[j]? = some v -> Value.okWide C.prog W .any base t v) ->
   DataW.TrodAll enc C.prog W 0 (fun _=>true) true fn.params.toList args.toList ds p ->
   (∀ n ∈ DataW.weightsEach C.prog fn.params.toList ds,n <= reachBytes) ->
   ((s.fn H ds).results = [.lit (.bool true)] /\ (s.fn H ds).args = ds /\ (s.fn H ds).vars = []) /\
   Calls C.prog f args W fun e W'=>e = .returned (.bool true) /\ KeptH W W') :
  ReturnsInHanded {} C os f .any (s.pre6 enc C.prog fn conds false) (s.post enc C.prog fn false true false false):=by
 refine returnsInHanded_of_change_sized own started noInit hfn witness ?_
 intro W base args ds gs before hval hW _ hwt _
 have hW':=hW
 obtain ⟨p,q,hA,hV,rfl,_,_⟩:=hW
 have hgs:gs = []:=by
  rw [hv] at hV
  cases gs with
  | nil=>rfl
  | cons _ _=>exact hV.elim
 subst hgs
 have hvt:s.plain.varTypes C.prog = []:=by
  unfold DataSpec.varTypes; rw [show s.plain.vars = s.vars from rfl,hv]; rfl
 obtain ⟨h1,h2⟩:=contract W base args ds p hval hA (by
  intro n hn
  rw [hvt,List.append_nil,List.append_nil] at hwt
  simpa using List.all_eq_true.1 hwt n hn)
 refine h2.mono fun e W' ⟨he,hk⟩=>⟨_,he,?_⟩
 exact law_post hv hrt hb hpl hW' (by simpa using h1) hk
end Go.Hb
namespace Go.Hb
theorem atLd {k:CK} {b o:Nat} {K:k.ty -> WP} {w:World} (h:ld k b o K w):ld k b o K w:=h
theorem isLdS {k:CK} {b o:Nat} {S:World -> Prop} {K:k.ty -> WP} {w:World} (h:ldS S k b o K w):ldS S k b o K w:=h
theorem isSt {b o:Nat} {v:Value} {K:WP} {w:World} (h:st b o v K w):st b o v K w:=h
theorem isIdx {a:Option Addr} {n:Nat} {i:Int} {K:Nat -> Nat -> WP} {w:World} (h:idx a n i K w):idx a n i K w:=h
theorem isNew {cs:List Value} {T:TypeId} {K:Nat -> WP} {w:World} (h:newB cs T K w):newB cs T K w:=h
theorem isKeep {b:Bool} {S:World -> Prop} {K:WP} {w:World} (h:keepS b S K w):keepS b S K w:=h
theorem isWhen {c:Prop} {K:WP} {w:World} (h:when c K w):when c K w:=h
theorem isDraw {K:(World -> Prop) -> WP} {w:World} (h:drawW K w):drawW K w:=h
section
variable {L:List HP} {F:HP -> List HP} {b:Nat} {s:Sl} {W W0 w:World}
variable {α:Type} [Inhabited α] {E:Rec α} {rows:List α}
section
variable {o i n j1 j2 j3 j4 j5:Nat} {k:CK} {x:k.ty} {K:k.ty -> WP}
theorem ld_r0 (h:Sat W0 w L) [hA:At L b (reca E b o s rows) F] (hK:K x w) (hi:i < rows.length:=by first | omega | (simp only [List.length_set,List.length_append,List.length_cons,List.length_nil,List.length_take,List.length_drop,List.length_map,Int.toNat_natCast] <;> omega) | fail) (hc:(E.cells (rows.getD i default))[0]? = some (k.val x):=by exact rfl) (hn:n = E.sz:=by exact rfl) (hu:k ≠ .any:=by simp):ld k b (o + i * n) K w:=
 ld_r (hA:=hA) h (by rw [hn]; rfl) hi hc hK hu
theorem ld_r1 (h:Sat W0 w L) [hA:At L b (reca E b o s rows) F] (hK:K x w) (hi:i < rows.length:=by first | omega | (simp only [List.length_set,List.length_append,List.length_cons,List.length_nil,List.length_take,List.length_drop,List.length_map,Int.toNat_natCast] <;> omega) | fail) (hc:(E.cells (rows.getD i default))[j1]? = some (k.val x):=by exact rfl) (hn:n = E.sz:=by exact rfl) (hu:k ≠ .any:=by simp):ld k b (o + i * n + j1) K w:=
 ld_r (hA:=hA) h (by rw [hn]; omega) hi hc hK hu
theorem ld_r2 (h:Sat W0 w L) [hA:At L b (reca E b o s rows) F] (hK:K x w) (hi:i < rows.length:=by first | omega | (simp only [List.length_set,List.length_append,List.length_cons,List.length_nil,List.length_take,List.length_drop,List.length_map,Int.toNat_natCast] <;> omega) | fail) (hc:(E.cells (rows.getD i default))[j1 + j2]? = some (k.val x):=by exact rfl) (hn:n = E.sz:=by exact rfl) (hu:k ≠ .any:=by simp):ld k b (o + i * n + j1 + j2) K w:=
 ld_r (hA:=hA) h (by rw [hn]; omega) hi hc hK hu
theorem ld_r3 (h:Sat W0 w L) [hA:At L b (reca E b o s rows) F] (hK:K x w) (hi:i < rows.length:=by first | omega | (simp only [List.length_set,List.length_append,List.length_cons,List.length_nil,List.length_take,List.length_drop,List.length_map,Int.toNat_natCast] <;> omega) | fail) (hc:(E.cells (rows.getD i default))[j1 + j2 + j3]? = some (k.val x):=by exact rfl) (hn:n = E.sz:=by exact rfl) (hu:k ≠ .any:=by simp):ld k b (o + i * n + j1 + j2 + j3) K w:=
 ld_r (hA:=hA) h (by rw [hn]; omega) hi hc hK hu
theorem ldS_rs {L':List HP} {F':HP -> List HP} {rows':List α} {w':World} {p j:Nat} (h:Sat W0 w' L') [hB:At L' b (reca E b o s rows') F'] [hA:AtS L s (recs E s rows) F] (hp:p = o + (i * E.sz + j)) (hi:i < rows.length) (hc:(E.cells (rows.getD i default))[j]? = some (k.val x)) (hK:K x w) :
  ldS (fun w'=>Sat W0 w' L) k b p K w:=by
 have ha:s.a = some ⟨b,o,none⟩:=At.one (hA:=hB) h fun _ h _=>h.pure (q:=0) rfl fun _ hg=>hg.1
 subst hp
 refine ldS_by x (fun w' h=>AtS.one (hA:=hA) h fun _ h _=>?_) hK
 have h2:=h.turn (q:=0) (p':=reca E b o s rows) rfl fun _ hg=>⟨ha,hg⟩
 exact (reca_cell h2 (getD_some hi) (by rw [<- E.len (rows.getD i default)]; exact (List.getElem?_eq_some_iff.1 hc).1)).trans hc
theorem ldS_rs0 {L':List HP} {F':HP -> List HP} {rows':List α} {w':World} (h:Sat W0 w' L') [hB:At L' b (reca E b o s rows') F'] [hA:AtS L s (recs E s rows) F] (hK:K x w) (hi:i < rows.length:=by first | omega | (simp only [List.length_set,List.length_append,List.length_cons,List.length_nil,List.length_take,List.length_drop,List.length_map,Int.toNat_natCast] <;> omega) | fail) (hc:(E.cells (rows.getD i default))[0]? = some (k.val x):=by exact rfl) (hn:n = E.sz:=by exact rfl) :
  ldS (fun w'=>Sat W0 w' L) k b (o + i * n) K w:=ldS_rs (hA:=hA) (hB:=hB) h (j:=0) (by rw [hn]; rfl) hi hc hK
end
section
variable {o i n j1 j2 j3:Nat} {v:Value} {a':α} {K:WP}
theorem st_r0 (h:Sat W0 w L) [hA:At L b (reca E b o s rows) F] [hS:SetR E (rows.getD i default) 0 v a']
  (hK:∀ w',Sat W0 w' (F (reca E b o s (rows.set i a'))) -> K w') (hi:i < rows.length:=by first | omega | (simp only [List.length_set,List.length_append,List.length_cons,List.length_nil,List.length_take,List.length_drop,List.length_map,Int.toNat_natCast] <;> omega) | fail) (hn:n = E.sz:=by exact rfl):st b (o + i * n) v K w:=
 st_r (hA:=hA) h (by rw [hn]; rfl) hi hS.eq hS.lt hK
theorem st_r1 (h:Sat W0 w L) [hA:At L b (reca E b o s rows) F] [hS:SetR E (rows.getD i default) j1 v a']
  (hK:∀ w',Sat W0 w' (F (reca E b o s (rows.set i a'))) -> K w') (hi:i < rows.length:=by first | omega | (simp only [List.length_set,List.length_append,List.length_cons,List.length_nil,List.length_take,List.length_drop,List.length_map,Int.toNat_natCast] <;> omega) | fail) (hn:n = E.sz:=by exact rfl):st b (o + i * n + j1) v K w:=
 st_r (hA:=hA) h (by rw [hn]; omega) hi hS.eq hS.lt hK
end
class RecOf {α:Type} (E:Rec α) (vs:List Value) (a:outParam α):Prop where
 eq:E.cells a = vs
section
variable {o i n:Nat} {a':α} {K:WP}
theorem st_rec3 {v0 v1 v2:Value} (h:Sat W0 w L) [hA:At L b (reca E b o s rows) F] [hR:RecOf E [v0,v1,v2] a']
  (hK:∀ w',Sat W0 w' (F (reca E b o s (rows.set i a'))) -> K w') (hi:i < rows.length:=by first | omega | (simp only [List.length_set,List.length_append,List.length_cons,List.length_nil,List.length_take,List.length_drop,List.length_map,Int.toNat_natCast] <;> omega) | fail) (hn:n = E.sz:=by exact rfl):st b (o + i * n) v0 (st b (o + i * n + 1) v1 (st b (o + i * n + 1 + 1) v2 (K))) w:=
 st_rec (hA:=hA) h hi hR.eq (by rw [hn]) hK rfl
theorem st_rec4 {v0 v1 v2 v3:Value} (h:Sat W0 w L) [hA:At L b (reca E b o s rows) F] [hR:RecOf E [v0,v1,v2,v3] a']
  (hK:∀ w',Sat W0 w' (F (reca E b o s (rows.set i a'))) -> K w') (hi:i < rows.length:=by first | omega | (simp only [List.length_set,List.length_append,List.length_cons,List.length_nil,List.length_take,List.length_drop,List.length_map,Int.toNat_natCast] <;> omega) | fail) (hn:n = E.sz:=by exact rfl):st b (o + i * n) v0 (st b (o + i * n + 1) v1 (st b (o + i * n + 1 + 1) v2 (st b (o + i * n + 1 + 1 + 1) v3 (K)))) w:=
 st_rec (hA:=hA) h hi hR.eq (by rw [hn]) hK rfl
end
instance SetR.int {k:IntKind} {a n:Int}:SetR (Rec.int k) a 0 (.int k n) n:=⟨rfl,Nat.one_pos⟩
theorem addr_add (b o k:Nat):Addr.add ⟨b,o,none⟩ k = ⟨b,o + k,none⟩:=by
 unfold Addr.add
 split
 ·simp_all
 ·rfl
theorem cut_s {lo hi c:Nat} {a:Option Addr} (h:Sat W0 w L) [hA:AtS L s (recs E s rows) F] (ha:a = subA s.a lo c E.sz) (hlo:lo <= hi) (hhi:hi <= rows.length) (hc:c = s.c) (hpos:0 < E.sz) :
  Sat W0 w (F (recs E ⟨a,hi - lo,c - lo⟩ ((rows.drop lo).take (hi - lo)))):=by
 have hn:=recs_len (hA:=hA) h hpos
 refine AtS.one (hA:=hA) h fun M h hb=>hb _ _ (h.turn (q:=0) rfl fun g hg=>?_)
 subst ha hc
 obtain ⟨⟨h1,h2⟩,h3⟩:=hg
 refine ⟨⟨?_,?_⟩,?_⟩
 ·rw [Rec.flat_length]; simp only [List.length_take,List.length_drop]; congr 1; omega
 ·simp only; omega
 rcases h3 with ⟨h4,h5,h6⟩ | ⟨b,o,pre,tl,h4,h5,h6,h7⟩
 ·left
  refine ⟨?_,?_,?_⟩
  ·simp only; unfold subA; split
   ·exact h4
   ·rw [h4]; rfl
  ·simp only; omega
  ·simp only; omega
 ·right
  have hrows:rows = rows.take lo ++ ((rows.drop lo).take (hi - lo) ++ rows.drop hi):=by
   conv=>lhs; rw [<- List.take_append_drop lo rows]
   congr 1
   conv=>lhs; rw [<- List.take_append_drop (hi - lo) (rows.drop lo)]
   rw [List.drop_drop]; congr 2; omega
  have hfl:E.flat rows = E.flat (rows.take lo) ++ (E.flat ((rows.drop lo).take (hi - lo)) ++ E.flat (rows.drop hi)):=by
   rw [<- Rec.flat_append,<- Rec.flat_append]; exact congrArg E.flat hrows
  have hlast:(s.c - lo - (hi - lo)) * E.sz <= (E.flat (rows.drop hi) ++ tl).length:=by
   rw [List.length_append,Rec.flat_length,List.length_drop]
   have:(s.c - lo - (hi - lo)) * E.sz = (rows.length - hi) * E.sz + (s.c - s.n) * E.sz:=by rw [<- Nat.add_mul]; congr 1; omega
   omega
  by_cases hm:s.c = lo
  ·
   have hlo':lo = hi:=by omega
   have hr:rows.length = lo:=by omega
   refine ⟨b,o,pre,E.flat rows ++ tl,?_,h5,?_,?_⟩
   ·show subA s.a lo s.c E.sz = _
    unfold subA; rw [if_pos hm]; exact h4
   ·have:(rows.drop lo).take (hi - lo) = []:=by rw [hlo',Nat.sub_self,List.take_zero]
    show Hb.blk b (pre ++ E.flat ((rows.drop lo).take (hi - lo)) ++ (E.flat rows ++ tl)) g
    rw [this,Rec.flat_nil,List.append_nil,<- List.append_assoc]; exact h6
   ·have:s.c - lo - (hi - lo) = 0:=by omega
    show (s.c - lo - (hi - lo)) * E.sz <= _
    rw [this,Nat.zero_mul]; exact Nat.zero_le _
  ·refine ⟨b,o + lo * E.sz,pre ++ E.flat (rows.take lo),E.flat (rows.drop hi) ++ tl,?_,?_,?_,hlast⟩
   ·show subA s.a lo s.c E.sz = _
    unfold subA; rw [if_neg hm,h4]
    simp only [Option.map_some,Option.some.injEq]
    exact addr_add _ _ _
   ·rw [List.length_append,h5,Rec.flat_length,List.length_take,Nat.min_eq_left (by omega)]
   ·show Hb.blk b (pre ++ E.flat (rows.take lo) ++ E.flat ((rows.drop lo).take (hi - lo)) ++ (E.flat (rows.drop hi) ++ tl)) g
    rw [hfl] at h6
    simpa [List.append_assoc] using h6
end
end Go.Hb
namespace Go.Hb
class ReadsR (W:World) (s:Sl) {α:outParam Type} (E:outParam (Rec α)) (rows:outParam (List α)):Prop where
 len:s.n = rows.length
 at_:(s.a = none /\ s.n = 0) \/ ∃ b o,s.a = some ⟨b,o,none⟩ /\ ∀ i j a,rows[i]? = some a -> j < E.sz -> W.cell? ⟨b,o + (i * E.sz + j),none⟩ = (E.cells a)[j]?
theorem ReadsR.of {W:World} {s:Sl} {α:Type} {E:Rec α} {rows:List α} (hpos:0 < E.sz) (h:Reads W E.sz s (E.flat rows)):ReadsR W s E rows:=by
 have hl:s.n = rows.length:=by
  have:=h.1; rw [Rec.flat_length] at this; exact (Nat.eq_of_mul_eq_mul_right hpos this).symm
 refine ⟨hl,?_⟩
 rcases h.2 with h1 | ⟨b,o,h1,h2⟩
 ·exact .inl h1
 ·refine .inr ⟨b,o,h1,fun i j a ha hj=>?_⟩
  have hlt:=(List.getElem?_eq_some_iff.1 ha).1
  rw [h2 (i * E.sz + j) (by rw [Rec.flat_length]; calc _ < i * E.sz + E.sz:=by omega
   _ = (i + 1) * E.sz:=by rw [Nat.add_mul,Nat.one_mul]
   _ <= _:=Nat.mul_le_mul_right _ (by omega)),Rec.flat_get ha hj]
class Rdb (W0:World) (L:List HP) (s:Sl) {α:outParam Type} (E:outParam (Rec α)) (rows:outParam (List α)):Prop where
 rd:∀ w,Sat W0 w L -> ReadsR w s E rows
section
variable {L:List HP} {F:HP -> List HP} {b:Nat} {s:Sl} {W W0 w:World}
section
variable {α:Type} {E:Rec α} {rows:List α}
class PosR {α:Type} (E:Rec α):Prop where
 pos:0 < E.sz
instance {k:IntKind}:PosR (Rec.int k):=⟨Nat.one_pos⟩
instance:PosR Rec.str:=⟨Nat.one_pos⟩
instance Rdb.recs [hA:AtS L s (recs E s rows) F] [hp:PosR E]:Rdb W0 L s E rows:=⟨fun w h=>by
 refine AtS.one (hA:=hA) h fun M h _=>ReadsR.of hp.pos ?_
 refine ⟨(slcv_facts (q:=0) h rfl).1,?_⟩
 obtain ⟨g,hg,⟨h1,h2⟩,h3⟩:=h.get (q:=0) rfl
 rcases h3 with ⟨h4,h5,_⟩ | ⟨b,o,pre,tl,h4,_⟩
 ·exact .inl ⟨h4,h5⟩
 ·exact .inr ⟨b,o,h4,fun j hj=>slc_cell (q:=0) h rfl h4 hj⟩⟩
instance Rdb.reca {o:Nat} [hA:AtS L s (reca E b o s rows) F] [hp:PosR E]:Rdb W0 L s E rows:=⟨fun w h=>by
 refine AtS.one (hA:=hA) h fun M h _=>?_
 have h':=h.turn (q:=0) (p':=Hb.recs E s rows) rfl fun _ hg=>hg.2
 have h':Sat W0 w (Hb.recs E s rows::M):=h'
 exact (Rdb.recs (W0:=W0) (L:=Hb.recs E s rows::M)).rd w h'⟩
instance Rdb.old [hA:AtO L W] [hr:ReadsR W s E rows]:Rdb W0 L s E rows:=⟨fun w h=>by
 obtain ⟨M,h1⟩:=hA.pos
 have h2:=h.perm h1
 refine ⟨hr.len,?_⟩
 rcases hr.at_ with h3 | ⟨b,o,h3,h4⟩
 ·exact .inl h3
 ·refine .inr ⟨b,o,h3,fun i j a ha hj=>?_⟩
  have h5:=h4 i j a ha hj
  rw [List.getElem?_eq_getElem (by rw [E.len]; exact hj)] at h5 ⊢
  exact h2.cell_old (q:=0) rfl h5⟩
theorem rdb_len (h:Sat W0 w L) [hR:Rdb W0 L s E rows]:s.n = rows.length:=(hR.rd w h).len
theorem idx_rd {i:Int} {K:Nat -> Nat -> WP} (h:Sat W0 w L) [hR:Rdb W0 L s E rows] (hK:∀ b o,s.a = some ⟨b,o,none⟩ -> K b o w) (h0:0 <= i:=by first | omega | (simp only [List.length_set,List.length_append,List.length_cons,List.length_nil,List.length_take,List.length_drop,List.length_map,Int.toNat_natCast] <;> omega) | fail) (h1:i < (s.n:Int):=by first | omega | (simp only [List.length_set,List.length_append,List.length_cons,List.length_nil,List.length_take,List.length_drop,List.length_map,Int.toNat_natCast] <;> omega) | fail):idx s.a s.n i K w:=by
 rcases (hR.rd w h).at_ with ⟨_,h3⟩ | ⟨b,o,h3,_⟩
 ·omega
 ·exact ⟨b,o,h3,⟨h0,h1⟩,hK b o h3⟩
theorem rd_rdb (h:Sat W0 w L) [hR:Rdb W0 L s E rows]:rdA w s.a (s.n * E.sz) = some (E.flat rows):=by
 have hr:=hR.rd w h
 rw [hr.len]
 rcases hr.at_ with ⟨h1,h2⟩ | ⟨b,o,h1,h2⟩
 ·have:rows = []:=List.length_eq_zero_iff.1 (by rw [<- hr.len]; exact h2)
  rw [h1,this]; rfl
 ·rw [h1,<- Rec.flat_length]
  refine rdL_of (E.flat rows) o fun j hj=>?_
  rw [Rec.flat_length] at hj
  have hsz:0 < E.sz:=Nat.pos_of_ne_zero fun h=>by rw [h] at hj; omega
  have hd:=Nat.div_add_mod j E.sz
  have hi:j / E.sz < rows.length:=(Nat.div_lt_iff_lt_mul hsz).2 hj
  have hm:=Nat.mod_lt j hsz
  have h3:=h2 (j / E.sz) (j % E.sz) rows[j / E.sz] (List.getElem?_eq_getElem hi) hm
  have hj2:j / E.sz * E.sz + j % E.sz = j:=by rw [Nat.mul_comm]; exact hd
  rw [hj2] at h3
  rw [h3,<- Rec.flat_get (List.getElem?_eq_getElem hi) hm,hj2]
end
section
variable {α:Type} [Inhabited α] {E:Rec α} {rows:List α}
theorem rd_cell {b o i j:Nat} (hR:ReadsR w s E rows) (ha:s.a = some ⟨b,o,none⟩) (hi:i < rows.length) (hj:j < E.sz):w.cell? ⟨b,o + (i * E.sz + j),none⟩ = (E.cells (rows.getD i default))[j]?:=by
 rcases hR.at_ with ⟨h3,_⟩ | ⟨b',o',h3,h4⟩
 ·rw [h3] at ha; cases ha
 ·rw [h3] at ha; cases ha
  exact h4 i j _ (getD_some hi) hj
theorem ld_rd {b o i j p:Nat} {k:CK} {x:k.ty} {K:k.ty -> WP} (ha:s.a = some ⟨b,o,none⟩) (h:Sat W0 w L) [hR:Rdb W0 L s E rows] (hp:p = o + (i * E.sz + j)) (hi:i < rows.length)
  (hc:(E.cells (rows.getD i default))[j]? = some (k.val x)) (hK:K x w) (hu:k ≠ .any:=by simp):ld k b p K w:=by
 subst hp
 exact ld_cell ((rd_cell (hR.rd w h) ha hi (by rw [<- E.len (rows.getD i default)]; exact (List.getElem?_eq_some_iff.1 hc).1)).trans hc) hu hK
theorem ldS_rd {b o i j p:Nat} {k:CK} {x:k.ty} {K:k.ty -> WP} (ha:s.a = some ⟨b,o,none⟩) [hR:Rdb W0 L s E rows] (hp:p = o + (i * E.sz + j)) (hi:i < rows.length)
  (hc:(E.cells (rows.getD i default))[j]? = some (k.val x)) (hK:K x w):ldS (fun w'=>Sat W0 w' L) k b p K w:=by
 subst hp
 exact ldS_by x (fun w' h=>(rd_cell (hR.rd w' h) ha hi (by rw [<- E.len (rows.getD i default)]; exact (List.getElem?_eq_some_iff.1 hc).1)).trans hc) hK
section
variable {o i n j1 j2 j3 j4:Nat} {k:CK} {x:k.ty} {K:k.ty -> WP}
theorem ld_rd0 (ha:s.a = some ⟨b,o,none⟩) (h:Sat W0 w L) [hR:Rdb W0 L s E rows] (hK:K x w) (hi:i < rows.length:=by first | omega | (simp only [List.length_set,List.length_append,List.length_cons,List.length_nil,List.length_take,List.length_drop,List.length_map,Int.toNat_natCast] <;> omega) | fail) (hc:(E.cells (rows.getD i default))[0]? = some (k.val x):=by exact rfl) (hn:n = E.sz:=by exact rfl) (hu:k ≠ .any:=by simp):ld k b (o + i * n) K w:=
 ld_rd (hR:=hR) ha h (j:=0) (by rw [hn]; rfl) hi hc hK hu
theorem ldS_rd0 (ha:s.a = some ⟨b,o,none⟩) [hR:Rdb W0 L s E rows] (hK:K x w) (hi:i < rows.length:=by first | omega | (simp only [List.length_set,List.length_append,List.length_cons,List.length_nil,List.length_take,List.length_drop,List.length_map,Int.toNat_natCast] <;> omega) | fail) (hc:(E.cells (rows.getD i default))[0]? = some (k.val x):=by exact rfl) (hn:n = E.sz:=by exact rfl):ldS (fun w'=>Sat W0 w' L) k b (o + i * n) K w:=
 ldS_rd (hR:=hR) ha (j:=0) (by rw [hn]; rfl) hi hc hK
theorem ld_rd1 (ha:s.a = some ⟨b,o,none⟩) (h:Sat W0 w L) [hR:Rdb W0 L s E rows] (hK:K x w) (hi:i < rows.length:=by first | omega | (simp only [List.length_set,List.length_append,List.length_cons,List.length_nil,List.length_take,List.length_drop,List.length_map,Int.toNat_natCast] <;> omega) | fail) (hc:(E.cells (rows.getD i default))[j1]? = some (k.val x):=by exact rfl) (hn:n = E.sz:=by exact rfl) (hu:k ≠ .any:=by simp):ld k b (o + i * n + j1) K w:=
 ld_rd (hR:=hR) ha h (j:=j1) (by rw [hn]; omega) hi hc hK hu
theorem ldS_rd1 (ha:s.a = some ⟨b,o,none⟩) [hR:Rdb W0 L s E rows] (hK:K x w) (hi:i < rows.length:=by first | omega | (simp only [List.length_set,List.length_append,List.length_cons,List.length_nil,List.length_take,List.length_drop,List.length_map,Int.toNat_natCast] <;> omega) | fail) (hc:(E.cells (rows.getD i default))[j1]? = some (k.val x):=by exact rfl) (hn:n = E.sz:=by exact rfl):ldS (fun w'=>Sat W0 w' L) k b (o + i * n + j1) K w:=
 ldS_rd (hR:=hR) ha (j:=j1) (by rw [hn]; omega) hi hc hK
theorem ld_rd2 (ha:s.a = some ⟨b,o,none⟩) (h:Sat W0 w L) [hR:Rdb W0 L s E rows] (hK:K x w) (hi:i < rows.length:=by first | omega | (simp only [List.length_set,List.length_append,List.length_cons,List.length_nil,List.length_take,List.length_drop,List.length_map,Int.toNat_natCast] <;> omega) | fail) (hc:(E.cells (rows.getD i default))[j1 + j2]? = some (k.val x):=by exact rfl) (hn:n = E.sz:=by exact rfl) (hu:k ≠ .any:=by simp):ld k b (o + i * n + j1 + j2) K w:=
 ld_rd (hR:=hR) ha h (j:=j1 + j2) (by rw [hn]; omega) hi hc hK hu
theorem ldS_rd2 (ha:s.a = some ⟨b,o,none⟩) [hR:Rdb W0 L s E rows] (hK:K x w) (hi:i < rows.length:=by first | omega | (simp only [List.length_set,List.length_append,List.length_cons,List.length_nil,List.length_take,List.length_drop,List.length_map,Int.toNat_natCast] <;> omega) | fail) (hc:(E.cells (rows.getD i default))[j1 + j2]? = some (k.val x):=by exact rfl) (hn:n = E.sz:=by exact rfl):ldS (fun w'=>Sat W0 w' L) k b (o + i * n + j1 + j2) K w:=
 ldS_rd (hR:=hR) ha (j:=j1 + j2) (by rw [hn]; omega) hi hc hK
theorem ld_rd3 (ha:s.a = some ⟨b,o,none⟩) (h:Sat W0 w L) [hR:Rdb W0 L s E rows] (hK:K x w) (hi:i < rows.length:=by first | omega | (simp only [List.length_set,List.length_append,List.length_cons,List.length_nil,List.length_take,List.length_drop,List.length_map,Int.toNat_natCast] <;> omega) | fail) (hc:(E.cells (rows.getD i default))[j1 + j2 + j3]? = some (k.val x):=by exact rfl) (hn:n = E.sz:=by exact rfl) (hu:k ≠ .any:=by simp):ld k b (o + i * n + j1 + j2 + j3) K w:=
 ld_rd (hR:=hR) ha h (j:=j1 + j2 + j3) (by rw [hn]; omega) hi hc hK hu
theorem ldS_rd3 (ha:s.a = some ⟨b,o,none⟩) [hR:Rdb W0 L s E rows] (hK:K x w) (hi:i < rows.length:=by first | omega | (simp only [List.length_set,List.length_append,List.length_cons,List.length_nil,List.length_take,List.length_drop,List.length_map,Int.toNat_natCast] <;> omega) | fail) (hc:(E.cells (rows.getD i default))[j1 + j2 + j3]? = some (k.val x):=by exact rfl) (hn:n = E.sz:=by exact rfl):ldS (fun w'=>Sat W0 w' L) k b (o + i * n + j1 + j2 + j3) K w:=
 ldS_rd (hR:=hR) ha (j:=j1 + j2 + j3) (by rw [hn]; omega) hi hc hK
end
end
end
section
variable {L:List HP} {F:HP -> List HP} {b:Nat} {s:Sl} {W W0 w:World} {α:Type} {E:Rec α} {rows:List α}
theorem rd_sub {lo c k n:Nat} (h:Sat W0 w L) [hR:Rdb W0 L s E rows] (hk:lo + k <= rows.length) (hc:rows.length <= c) (hn:n = k * E.sz):rdA w (subA s.a lo c E.sz) n = some (E.flat ((rows.drop lo).take k)):=by
 have hr:=hR.rd w h
 have hfl:(E.flat ((rows.drop lo).take k)).length = k * E.sz:=by
  rw [Rec.flat_length,List.length_take,List.length_drop,Nat.min_eq_left (by omega)]
 by_cases hk0:k = 0
 ·subst hk0
  rw [hn,Nat.zero_mul,List.take_zero,Rec.flat_nil]
  unfold subA
  rcases hr.at_ with ⟨h1,h2⟩ | ⟨b,o,h1,h2⟩
  ·rw [h1]; simp [rdA]
  ·rw [h1]; split
   ·rfl
   ·simp only [Option.map_some,addr_add]; rfl
 ·rcases hr.at_ with ⟨h1,h2⟩ | ⟨b,o,h1,h2⟩
  ·have:=hr.len; omega
  ·have hs:subA s.a lo c E.sz = some ⟨b,o + lo * E.sz,none⟩:=by
    unfold subA; rw [if_neg (by omega),h1]
    simp only [Option.map_some,addr_add]
   rw [hs,hn,<- hfl]
   refine rdL_of _ _ fun j hj=>?_
   rw [hfl] at hj
   have hsz:0 < E.sz:=Nat.pos_of_ne_zero fun h=>by rw [h] at hj; omega
   have hd:=Nat.div_add_mod j E.sz
   have hi:j / E.sz < k:=(Nat.div_lt_iff_lt_mul hsz).2 hj
   have hm:=Nat.mod_lt j hsz
   have hlt:lo + j / E.sz < rows.length:=by omega
   have h3:=h2 (lo + j / E.sz) (j % E.sz) rows[lo + j / E.sz] (List.getElem?_eq_getElem hlt) hm
   have hj2:j / E.sz * E.sz + j % E.sz = j:=by rw [Nat.mul_comm]; exact hd
   have hj3:o + ((lo + j / E.sz) * E.sz + j % E.sz) = o + lo * E.sz + j:=by rw [Nat.add_mul]; omega
   rw [hj3] at h3
   rw [h3]
   have h4:((rows.drop lo).take k)[j / E.sz]? = some rows[lo + j / E.sz]:=by
    rw [List.getElem?_take_of_lt hi,List.getElem?_drop,List.getElem?_eq_getElem hlt]
   rw [<- Rec.flat_get h4 hm,hj2]
theorem Sat.blkS {cs:List Value} {n:Nat} (E:Rec α) (rows:List α) [hA:At L b (blk b cs) F] (h:Sat W0 w L) (hc:E.flat rows = cs) (hn:rows.length = n):Sat W0 w (F (Hb.recs E ⟨some ⟨b,0,none⟩,n,n⟩ rows)):=
 At.turn (hA:=hA) h fun g hg=>by
  subst hc hn
  exact ⟨⟨by rw [Rec.flat_length],Nat.le_refl _⟩,.inr ⟨b,0,[],[],rfl,rfl,by simpa using hg,by simp⟩⟩
theorem app_own {ty by_ k n:Nat} {z:List Value} {cs:List Value} {rows new:List α} {K:Sl -> WP} {g:World -> Option (List Value)} [Inhabited α] (h:Sat W0 w (blk b cs::L)) (E:Rec α) (hc:E.flat rows = cs) (hk:rows.length = k) (hnew:g w = some (E.flat new)) (hn:n = new.length)
  (hok:okC (E.flat new) = true) (hz:z.length = E.sz) (hpos:0 < E.sz) (hby:(rows.length + new.length) * by_ <= 140737488355328)
  (hK:∀ s' w',s'.n = rows.length + new.length -> Sat W0 w' (Hb.recs E s' (rows ++ new)::L) -> K s' w'):appendC ty E.sz by_ z ⟨some ⟨b,0,none⟩,k,k⟩ n g K w:=by
 have h2:Sat W0 w (Hb.recs E ⟨some ⟨b,0,none⟩,k,k⟩ rows::L):=Sat.blkS (b:=b) (L:=blk b cs::L) E rows h hc hk
 exact app_by (s:=⟨some ⟨b,0,none⟩,k,k⟩) h2 hnew hn hok hz hpos hby hK
theorem Sat.nilR (E:Rec α) (h:Sat W0 w L):Sat W0 w (Hb.recs E ⟨none,0,0⟩ []::L):=nilS h
end
class OkR {α:Type} (E:Rec α):Prop where
 ok:∀ a,okC (E.cells a) = true
theorem okC_append:∀ {a b:List Value},okC a = true -> okC b = true -> okC (a ++ b) = true
 | [],_,_,h=>h
 | v::a,b,h,h'=>by cases v <;> first | exact okC_append (a:=a) h h' | cases h
theorem okC_flat {α:Type} {E:Rec α} [h:OkR E]:∀ (rows:List α),okC (E.flat rows) = true
 | []=>rfl
 | a::rows=>okC_append (h.ok a) (okC_flat rows)
instance:OkR Rec.str:=⟨fun _=>rfl⟩
instance {k:IntKind}:OkR (Rec.int k):=⟨fun _=>rfl⟩
theorem take_snoc {α:Type} [Inhabited α] {l:List α} {i:Nat} (h:i < l.length):l.take (i + 1) = l.take i ++ [l.getD i default]:=by
 rw [List.take_add_one,List.getD_eq_getElem?_getD,List.getElem?_eq_getElem h]; rfl
theorem sEq_eq (a b:ByteArray):sEq a b = decide (a = b):=by
 unfold sEq
 rw [Bool.eq_iff_iff,beq_iff_eq,decide_eq_true_eq,ByteArray.toList_eq,ByteArray.toList_eq]
 constructor
 ·intro h
  exact ByteArray.ext (Array.toList_inj.1 h)
 ·rintro rfl; rfl
section
variable {K M:WP} {w:World} {a b:Int}
theorem ite_ltI (h1:a < b -> K w) (h2:¬ a < b -> M w):ite2 (decide (a < b)) K M w:=ite_cases (fun h=>h1 (of_decide_eq_true h)) fun h=>h2 (of_decide_eq_false h)
theorem ite_leI (h1:a <= b -> K w) (h2:¬ a <= b -> M w):ite2 (decide (a <= b)) K M w:=ite_cases (fun h=>h1 (of_decide_eq_true h)) fun h=>h2 (of_decide_eq_false h)
theorem ite_gtI (h1:b < a -> K w) (h2:¬ b < a -> M w):ite2 (decide (a > b)) K M w:=ite_cases (fun h=>h1 (of_decide_eq_true h)) fun h=>h2 (of_decide_eq_false h)
theorem ite_geI (h1:b <= a -> K w) (h2:¬ b <= a -> M w):ite2 (decide (a >= b)) K M w:=ite_cases (fun h=>h1 (of_decide_eq_true h)) fun h=>h2 (of_decide_eq_false h)
theorem ite_eqI (h1:a = b -> K w) (h2:¬ a = b -> M w):ite2 (a == b) K M w:=ite_cases (fun h=>h1 (by simpa using h)) fun h=>h2 (by simpa using h)
theorem ite_neI (h1:¬ a = b -> K w) (h2:a = b -> M w):ite2 (a != b) K M w:=ite_cases (fun h=>h1 (by simpa using h)) fun h=>h2 (by simpa using h)
theorem ite_dec {c:Prop} [Decidable c] (h1:c -> K w) (h2:¬ c -> M w):ite2 (decide c) K M w:=ite_cases (fun h=>h1 (of_decide_eq_true h)) fun h=>h2 (of_decide_eq_false h)
theorem ite_ndec {c:Prop} [Decidable c] (h1:¬ c -> K w) (h2:c -> M w):ite2 (!decide c) K M w:=ite_cases (fun h=>h1 (by simpa using h)) fun h=>h2 (by simpa using h)
theorem ite_some {α:Type} {o:Option α} (h1:∀ x,o = some x -> K w) (h2:o = none -> M w):ite2 o.isSome K M w:=by
 cases o with
 | none=>exact h2 rfl
 | some x=>exact h1 x rfl
end
end Go.Hb
