import Derived.Deep.LoopGhost
import Derived.Test.YtmefopmnjncdbaaGreatMn2
set_option linter.unusedVariables false
set_option linter.unusedSimpArgs false
set_option linter.unnecessarySimpa false
set_option linter.unusedSectionVars false
set_option maxRecDepth 100000
namespace Go.Hb
section
variable {P:Program} {ρ:Env} {a:Act} {w:World}
theorem rdL_spec:∀ (n o:Nat) (w:World) (b:Nat) (vs:List Value),rdL w b o n = some vs -> vs.length = n /\ ∀ (j:Nat) v,vs[j]? = some v -> w.cell? ⟨b,o + j,none⟩ = some v
 | 0,o,w,b,vs,h=>by simp [rdL] at h; subst h; simp
 | n + 1,o,w,b,vs,h=>by
  simp only [rdL] at h
  split at h
  case h_2=>cases h
  rename_i v hv
  split at h
  case h_2=>cases h
  rename_i l hl
  cases h
  obtain ⟨h1,h2⟩:=rdL_spec n (o + 1) w b l hl
  refine ⟨by simp [h1],fun j u hj=>?_⟩
  cases j with
  | zero=>simp at hj; subst hj; exact hv
  | succ j=>
   have:=h2 j u (by simpa using hj)
   rwa [show o + 1 + j = o + (j + 1) by omega] at this
theorem rdA_run {b:Option Addr} {n size c m:Nat} {vs:List Value} (h:rdA w b (n * size) = some vs) (w':World) (hw:∀ x,w'.cell? x = w.cell? x) :
  (Builtin.firstCells size n (.slice b m c)).run P w' = .ok vs.toArray w':=by
 rcases b with _ | ⟨b,o,_ | _⟩
 ·simp only [rdA,Option.some.injEq] at h
  subst h
  simp [Builtin.firstCells]
 ·obtain ⟨h1,h2⟩:=rdL_spec _ _ _ _ _ h
  have:=run_loadCells_list (P:=P) w' ⟨b,o,none⟩ vs (fun j v hj=>by rw [Addr.add_lit,hw]; exact h2 j v hj)
  rw [h1] at this
  simpa [Builtin.firstCells] using this
 ·cases h
def stS (b:Option Addr) (off:Nat) (vs:List Value):Sem Unit:=match b with
 | some x=>storeCells (x.add off) vs
 | none=>pure ()
theorem stA_sound {b:Option Addr} {off:Nat} {vs:List Value} {K:WP} (h:stA b off vs K w) (hk:okC vs = true) :
  ∃ w',K w' /\ (stS b off vs).run P w = .ok () w':=by
 rcases b with _ | ⟨b,o,_ | _⟩
 ·cases vs with
  | nil=>exact ⟨w,h,rfl⟩
  | cons v vs=>exact h.elim
 ·obtain ⟨w',hK,hr⟩:=sts_sound (P:=P) _ _ _ _ _ h hk
  refine ⟨w',hK,?_⟩
  have:=hr (o + off) 0 rfl
  simpa [stS,Addr.add_lit] using this
 ·exact h.elim
theorem appendC_sound {t t2 e ty:TypeId} {i:TypeInfo} {zv:Value} {z:List Value} {s:Sl} {x:Value} {n:Nat} {new:World -> Option (List Value)} {K:Sl -> WP}
  (ht:P.underlying t = some (.slice e)) (hi:P.info? e = some i) (hz:i.zero = some zv) (hzc:zv.cells = z.toArray) (_hl:z.length = i.size)
  (hb0:i.bytes ≠ 0) (ht2:(∃ e2,P.underlying t2 = some (.slice e2)) \/ P.underlying t2 = some .string)
  (hx:∀ w,(Builtin.lenOf x).run P w = .ok n w) (hn:∀ w vs,new w = some vs -> ∀ w',(∀ y,w'.cell? y = w.cell? y) -> (Builtin.firstCells i.size n x).run P w' = .ok vs.toArray w')
  (h:appendC e i.size i.bytes z s n new K w) :
  ∃ r w',K r w' /\ (Builtin.append_ #[t,t2] ty #[.slice s.a s.n s.c,x]).run P w = .ok (.slice r.a r.n r.c) w':=by
 obtain ⟨sa,sn,sc⟩:=s
 obtain ⟨vs,hvs,hok,h⟩:=h
 dsimp only at h ⊢
 have hnew:=hn w vs hvs
 by_cases hle:sn + n <= sc
 ·rw [if_pos hle] at h
  obtain ⟨w',hK,hr⟩:=stA_sound (P:=P) h hok
  refine ⟨_,w',hK,?_⟩
  have h2:(Builtin.firstCells i.size n x).run P w = .ok vs.toArray w:=hnew w (fun _=>rfl)
  cases sa with
  | none=>
   have hr':w = w':=by simpa [stS] using hr
   subst hr'
   rcases ht2 with ⟨e2,hd⟩ | hd <;> simp [Builtin.append_,run_underlying ht,run_underlying hd,sizeOf,typeInfo,hi,hx,hle,h2]
  | some y=>
   simp only [stS] at hr
   rcases ht2 with ⟨e2,hd⟩ | hd <;> simp [Builtin.append_,run_underlying ht,run_underlying hd,sizeOf,typeInfo,hi,hx,hle,h2,hr]
 ·rw [if_neg hle] at h
  obtain ⟨hcap,old,hold,h⟩:=h
  have hq:(Question.appendCap (sn + n) sc e).forced = false:=rfl
  obtain ⟨N,hN⟩:∃ N,N = (Question.appendCap (sn + n) sc e).cut (w.tape w.drawn (.appendCap (sn + n) sc e)):=⟨_,rfl⟩
  have hNle:sn + n <= N:=by rw [hN]; exact Nat.le_add_right _ _
  have h1:(Builtin.firstCells i.size sn (.slice sa sn sc)).run P w.drew = .ok old.toArray w.drew:=rdA_run hold _ (fun _=>rfl)
  have h2:(Builtin.firstCells i.size n x).run P w.drew = .ok vs.toArray w.drew:=hnew _ (fun _=>rfl)
  have h3:Builtin.zeroCells zv.cells (N - (sn + n)) = (zrow z (N - (sn + n))).toArray:=by
   rw [<- zrow_map,hzc]
   rfl
  have hzv:∀ w,(zeroValue e).run P w = .ok zv w:=fun w=>by simp [zeroValue,typeInfo,hi,hz]
  refine ⟨_,_,h N hNle,?_⟩
  have hcap':¬ Builtin.nextslicecap (sn + n) sc * i.bytes > 281474976710656:=by omega
  rcases ht2 with ⟨e2,hd⟩ | hd
  all_goals
   simp [Builtin.append_,run_underlying ht,run_underlying hd,sizeOf,typeInfo,hi,hx,hle,hb0,hcap',-run_choose]
   rw [hq,<- hN]
   simp only [Bool.false_eq_true,if_false,h1,Result.andThen_ok,h2,hzv,h3,newRow,Sem.run_bind,run_newObj,Sem.run_pure,List.append_toArray,World.alloc]
   rfl
theorem isSlc_spec {t:TypeId} (h:isSlcT P t = true):∃ e,P.underlying t = some (.slice e):=by
 unfold isSlcT at h
 split at h
 ·rename_i e he; exact ⟨e,he⟩
 ·cases h
theorem isStr_spec {t:TypeId} (h:isStrT P t = true):P.underlying t = some .string:=by
 unfold isStrT at h
 split at h
 ·rename_i he; exact he
 ·cases h
theorem bytes_first (b:ByteArray) (size:Nat) (w:World):(Builtin.firstCells size b.size (.string b)).run P w = .ok (bytesL b).toArray w:=by
 have h1:b.extract 0 b.size = b:=by simp
 simp only [Builtin.firstCells,h1,Sem.run_pure]
 congr 1
 rw [<- Array.toList_inj]
 simp [bytesL]
theorem appendI_sound {t t2 ty:TypeId} {s x:Value} {K:Value -> WP} (h:appendI P t t2 s x K w) :
  isU s = false /\ isU x = false /\ ∃ r w',K r w' /\ (Builtin.append_ #[t,t2] ty #[s,x]).run P w = .ok r w':=by
 unfold appendI at h
 cases ht:P.underlying t with
 | none=>simp only [ht] at h; exact h.elim
 | some d=>
 simp only [ht] at h
 cases d <;> try exact h.elim
 rename_i e
 simp only at h
 cases hz:zeroL P e with
 | none=>simp only [hz] at h; exact h.elim
 | some z=>
 simp only [hz] at h
 cases s <;> try exact h.elim
 rename_i sa sn sc
 simp only at h
 cases hc:((P.info? e).isSome && Nat.beq z.length (szT P e) && !Nat.beq (byT P e) 0) with
 | false=>rw [hc] at h; exact h.elim
 | true=>
  rw [hc] at h
  simp only [Bool.and_eq_true,Bool.not_eq_eq_eq_not,Bool.not_true] at hc
  obtain ⟨⟨hi,hl⟩,hb⟩:=hc
  have hl':z.length = szT P e:=Nat.eq_of_beq_eq_true hl
  have hb':byT P e ≠ 0:=fun h0=>by rw [h0] at hb; cases hb
  obtain ⟨i,v,hi',hv,hvc⟩:=zeroL_sound' hz
  have hby:byT P e = i.bytes:=by simp [byT,hi']
  have hsz:szT P e = i.size:=by simp [szT,hi']
  rw [hsz] at hl'
  rw [hby] at hb'
  simp only [cond_true] at h
  cases x <;> try exact h.elim
  case string b=>
   cases hs2:isStrT P t2 with
   | false=>simp only [hs2] at h; exact h.elim
   | true=>
    simp only [hs2,hsz,hby,cond_true] at h
    obtain ⟨r,w',hK,hr⟩:=appendC_sound (ty:=ty) (x:=.string b) (n:=b.size) (new:=fun _=>some (bytesL b)) ht hi' hv hvc hl' hb' (.inr (isStr_spec hs2)) (fun w=>by simp [Builtin.lenOf])
     (fun w vs hvs w' _=>by cases hvs; exact bytes_first b _ w') h
    exact ⟨rfl,rfl,_,_,hK,hr⟩
  case slice a' n' c'=>
   cases hs2:isSlcT P t2 with
   | false=>simp only [hs2] at h; exact h.elim
   | true=>
    simp only [hs2,hsz,hby,cond_true] at h
    obtain ⟨r,w',hK,hr⟩:=appendC_sound (ty:=ty) (x:=.slice a' n' c') (n:=n') (new:=fun w=>rdA w a' (n' * i.size)) ht hi' hv hvc hl' hb' (.inl (isSlc_spec hs2)) (fun w=>by simp [Builtin.lenOf])
     (fun w vs hvs w' hw=>rdA_run hvs w' hw) h
    exact ⟨rfl,rfl,_,_,hK,hr⟩
theorem push_data (l:List UInt8):∀ (acc:ByteArray),(l.foldl ByteArray.push acc).data.toList = acc.data.toList ++ l:=by
 induction l with
 | nil=>intro acc; simp
 | cons b l ih=>intro acc; rw [List.foldl_cons,ih]; simp [ByteArray.push]
theorem bytes_all (s:ByteArray):s.data.toList.foldl ByteArray.push ByteArray.empty = s:=by
 have h:=push_data s.data.toList ByteArray.empty
 apply ByteArray.ext
 rw [<- Array.toList_inj,h]
 have:ByteArray.empty.data.toList = []:=rfl
 rw [this,List.nil_append]
theorem b2s_run {b:Option Addr} {n c:Nat} {s:ByteArray} (h:rdA w b n = some (bytesL s)):(Conv.bytesToString (.slice b n c)).run P w = .ok (.string s) w:=by
 rcases b with _ | ⟨b,o,_ | _⟩
 ·simp only [rdA,Option.some.injEq,bytesL] at h
  have h2:s.data.toList = []:=by
   cases hd:s.data.toList with
   | nil=>rfl
   | cons x l=>rw [hd] at h; cases h
  have:s = ByteArray.empty:=by
   apply ByteArray.ext
   rw [<- Array.toList_inj,h2]; rfl
  subst this
  simp [Conv.bytesToString]
 ·obtain ⟨h1,h2⟩:=rdL_spec _ _ _ _ _ h
  have h3:=run_loadCells_list (P:=P) w ⟨b,o,none⟩ (bytesL s) (fun j v hj=>by rw [Addr.add_lit]; exact h2 j v hj)
  rw [h1] at h3
  simp only [Conv.bytesToString,Sem.run_bind,h3,Result.andThen_ok,List.forIn_toArray,bytesL,List.forIn_map]
  have key:∀ (l:List UInt8) (acc:ByteArray),(Sem.run P (forIn l acc fun (a:UInt8) (y:ByteArray)=>(pure (ForInStep.yield (y.push (UInt8.ofNat ((a.toNat:Int)).toNat))):Sem (ForInStep ByteArray))) w) = .ok (l.foldl ByteArray.push acc) w:=by
   intro l
   induction l with
   | nil=>intro acc; simp
   | cons b l ih=>
    intro acc
    have hb:UInt8.ofNat ((b.toNat:Int)).toNat = b:=by simp
    rw [List.forIn_cons,List.foldl_cons]
    simp only [Sem.run_bind,Sem.run_pure,Result.andThen_ok,hb]
    exact ih _
  rw [key,bytes_all]
  rfl
 ·cases h
theorem convSI_sound {s d:TypeId} {x:Value} {K:Value -> WP} (h:convSI P s d x K w):isU x = false /\ ∃ v,K v w /\ (convert s d x).run P w = .ok v w:=by
 unfold convSI at h
 cases x <;> try exact h.elim
 rename_i a n c
 simp only at h
 cases hs:P.underlying s with
 | none=>simp only [hs] at h; exact h.elim
 | some sd=>
 simp only [hs] at h
 cases sd <;> try exact h.elim
 rename_i e
 simp only at h
 cases he:P.underlying e with
 | none=>simp only [he] at h; exact h.elim
 | some ed=>
 simp only [he] at h
 cases ed <;> try exact h.elim
 rename_i k
 simp only at h
 cases hc:(kEq k .u8 && isStrT P d) with
 | false=>rw [hc] at h; exact h.elim
 | true=>
  rw [hc] at h
  simp only [Bool.and_eq_true] at hc
  obtain ⟨hk,hd⟩:=hc
  have hk':k = .u8:=by cases k <;> first | rfl | cases hk
  subst hk'
  obtain ⟨r,hr,hK⟩:=h
  refine ⟨rfl,_,hK,?_⟩
  simp only [convert,Sem.run_bind,run_underlying hs,run_underlying (isStr_spec hd),run_underlying he,Result.andThen_ok]
  exact b2s_run hr
theorem evL_eq (hs:Sub ρ a):∀ (l:List Operand),(evL ρ l).any isU = false -> l.map a.eval = evL ρ l
 | [],_=>rfl
 | x::l,h=>by
  simp only [evL,List.any_cons,Bool.or_eq_false_iff] at h
  simp only [List.map_cons,evL]
  rw [evL_eq hs l h.2,ev_eq hs rfl h.1]
theorem exV_spec:∀ (ks:List CK) (F:List Value -> Prop),exV ks F -> ∃ vs,F vs
 | [],F,h=>⟨_,h⟩
 | k::ks,F,h=>by
  obtain ⟨x,h⟩:=h
  obtain ⟨vs,h⟩:=exV_spec ks _ h
  exact ⟨_,h⟩
theorem exT_spec {t:TypeId} {F:Value -> Prop} (h:exT P t F):∃ v,F v:=by
 unfold exT at h
 split at h
 case h_2=>exact h.elim
 split at h
 ·obtain ⟨vs,h⟩:=exV_spec _ _ h
  exact ⟨_,h⟩
 ·split at h
  case h_2=>exact h.elim
  split at h
  ·rcases h with h | ⟨t,v,h⟩
   ·exact ⟨_,h⟩
   ·exact ⟨_,h⟩
  ·obtain ⟨x,h⟩:=h
   exact ⟨_,h⟩
theorem exTs_spec:∀ (ts:List TypeId) (F:List Value -> Prop),exTs P ts F -> ∃ vs,F vs
 | [],F,h=>⟨_,h⟩
 | t::ts,F,h=>by
  obtain ⟨v,h⟩:=exT_spec h
  obtain ⟨vs,h⟩:=exTs_spec ts _ h
  exact ⟨_,h⟩
theorem retI_spec {ts:List TypeId} {F:Value -> Prop} (h:retI P ts F):∃ v,F v:=by
 unfold retI at h
 split at h
 ·exact ⟨_,h⟩
 ·exact exT_spec h
 ·obtain ⟨vs,h⟩:=exTs_spec _ _ h
  exact ⟨_,h⟩
theorem callI_sound {f:Value} {args:List Value} {K:Value -> WP} (h:callI P f args K w):isU f = false /\ args.any isU = false /\
  ∃ g gargs,(do let d <- Deferred.ofValue f args.toArray; invoke d.target d.args:Sem Next).run P w = .ok (.enter g gargs) w /\ Calls P g gargs w fun e w'=>∃ v,e = .returned v /\ K v w':=by
 unfold callI at h
 cases f <;> try exact h.elim
 rename_i fn first cap
 cases fn <;> try exact h.elim
 rename_i f
 simp only at h
 cases hf:P.funcs[f]? with
 | none=>simp only [hf] at h; exact h.elim
 | some fn=>
 simp only [hf] at h
 cases hc:(fn.body.isSome && notGor fn.name && !args.any isU) with
 | false=>rw [hc] at h; exact h.elim
 | true=>
  rw [hc] at h
  simp only [Bool.and_eq_true,Bool.not_eq_eq_eq_not,Bool.not_true,notGor] at hc
  obtain ⟨⟨hb,hn⟩,hu⟩:=hc
  refine ⟨rfl,hu,f,first ++ args.toArray ++ cap,?_,?_⟩
  ·have hb':fn.body.isNone = false:=by cases h0:fn.body <;> simp_all
   simp only [Deferred.ofValue,Sem.run_bind,Sem.run_pure,Result.andThen_ok,invoke,callFunc,run_program,hf,hn,hb',Bool.false_eq_true,if_false]
  ·have he:(first.toList ++ args ++ cap.toList).toArray = first ++ args.toArray ++ cap:=by
    rw [<- Array.toList_inj]; simp
   have h':Calls P f (first.toList ++ args ++ cap.toList).toArray w _:=h
   rw [he] at h'
   exact h'.mono fun e w' hr=>retI_spec hr
theorem invI_sound {ty:TypeId} {x:Value} {name:String} {args:List Value} {K:Value -> WP} (h:invI P ty x name args K w):isU x = false /\ args.any isU = false /\
  ∃ g gargs,(callMethod x name args.toArray:Sem Next).run P w = .ok (.enter g gargs) w /\ Calls P g gargs w fun e w'=>∃ v,e = .returned v /\ K v w':=by
 unfold invI at h
 cases x <;> try exact h.elim
 rename_i t v
 simp only at h
 cases hu:args.any isU with
 | true=>rw [hu] at h; exact h.elim
 | false=>
  rw [hu] at h
  obtain ⟨f,rc,fn,hm,hf,hb,hn,hC⟩:=h
  refine ⟨rfl,rfl,f,#[rc] ++ args.toArray,?_,?_⟩
  ·have hb':fn.body.isNone = false:=by cases h0:fn.body <;> simp_all
   simp only [notGor,Bool.not_eq_eq_eq_not,Bool.not_true] at hn
   simp only [callMethod,Sem.run_bind,run_program,Result.andThen_ok,hm,callFunc,hf,hn,hb',Bool.false_eq_true,if_false,Sem.run_pure]
  ·have h':Calls P f (rc::args).toArray w _:=hC
   have he:(rc::args).toArray = #[rc] ++ args.toArray:=by rw [<- Array.toList_inj]; simp
   rw [he] at h'
   exact h'.mono fun e w' hr=>retI_spec hr
theorem clrI_sound {t ty:TypeId} {x:Value} {K:WP} (h:clrI P t x K w):isU x = false /\ ∃ w',K w' /\ (Builtin.clear_ #[t] ty #[x]).run P w = .ok (.tuple #[]) w':=by
 unfold clrI at h
 cases x <;> try exact h.elim
 rename_i b n c
 simp only at h
 cases hu:P.underlying t with
 | none=>simp only [hu] at h; exact h.elim
 | some td=>
 simp only [hu] at h
 cases td <;> try exact h.elim
 rename_i e
 simp only at h
 cases hz:zeroL P e with
 | none=>simp only [hz] at h; exact h.elim
 | some z=>
 simp only [hz] at h
 unfold clrW at h
 cases hk:okC (zrow z n) with
 | false=>rw [hk] at h; exact h.elim
 | true=>
 rw [hk] at h
 obtain ⟨v,hv,hvc⟩:=zeroL_sound hz
 refine ⟨rfl,?_⟩
 cases b with
 | none=>
  cases hzr:zrow z n with
  | cons _ _=>simp only [cond_true,stA,hzr] at h; exact h.elim
  | nil=>
   simp only [cond_true,stA,hzr] at h
   refine ⟨w,h,?_⟩
   simp [Builtin.clear_,run_underlying hu]
 | some ad=>
  obtain ⟨bl,o,sp⟩:=ad
  cases sp with
  | some _=>exact h.elim
  | none=>
   simp only [cond_true,stA] at h
   obtain ⟨w',hK,hst⟩:=sts_sound _ _ _ _ _ h hk
   refine ⟨w',hK,?_⟩
   cases n with
   | zero=>
    have hs:=hst o 0 (by omega)
    simp only [zrow,storeCells,Sem.run_pure,Result.ok.injEq,true_and] at hs
    subst hs
    simp [Builtin.clear_,run_underlying hu]
   | succ n=>
    have hs:=hst o 0 (by omega)
    have hzc:(Builtin.zeroCells v.cells (n + 1)).toList = zrow z (n + 1):=by
     unfold Builtin.zeroCells
     rw [hvc]
     show (Array.map (fun i=>z.toArray[i % z.toArray.size]!) (Array.range ((n + 1) * z.length))).toList = _
     rw [zrow_map]
    simp [Builtin.clear_,run_underlying hu,hv,hzc]
    rw [hs]
    rfl
theorem run_v' {s:Sem Value} {r:Value} {w w':World} (h:s.run P w = .ok r w'):((do pure (Next.value (<- s)):Sem Next)).run P w = .ok (.value r) w':=by
 simp [h]
theorem lookI_spec {t:TypeId} {m k:Value} {K:Value -> WP} (h:lookI P t m k K w):∃ c:CK,isU m = false /\ isU k = false /\ ∃ x:c.ty,(Instr.lookup t m k false).run P w = .ok (c.val x) w /\ K (c.val x) w:=by
 unfold lookI at h
 cases hu:P.underlying t with
 | none=>simp only [hu] at h; exact h.elim
 | some td=>
 simp only [hu] at h
 cases td <;> try exact h.elim
 rename_i kt e
 simp only at h
 cases hc:cks P 9 e with
 | none=>simp only [hc] at h; exact h.elim
 | some l=>
 simp only [hc] at h
 match l,h with
 | [],h=>exact h.elim
 | _::_::_,h=>exact h.elim
 | [c],h=>
  simp only at h
  cases hb:(aggT P e || isU m || isU k) with
  | true=>rw [hb] at h; exact h.elim
  | false=>
   rw [hb] at h
   simp only [Bool.or_eq_false_iff] at hb
   obtain ⟨x,hr,hK⟩:=h
   exact ⟨c,hb.1.2,hb.2,x,hr,hK⟩
theorem opI_sound {o:Oper} {K:Value -> WP} (h:opI P ρ o.type o.op K w) (hs:Sub ρ a) {next:Act -> World -> Prop} {Q:Exit -> Act -> World -> Prop}
  (hn:∀ v v' w',Le v v' -> K v w' -> next (a.put o.dst v') w'):o.wp P a w next Q:=by
 unfold opI at h
 cases hp:pureI P ρ o.op with
 | some F=>
  simp only [hp] at h
  obtain ⟨v,v',hle,hK,hg⟩:=pureI_sound hp h hs
  unfold Oper.wp
  rw [hg w]
  exact hn _ _ _ hle hK
 | none=>
 simp only [hp] at h
 obtain ⟨dst,op,ty,pos,after,guard⟩:=o
 have fin:∀ {v w'},K v w' -> (execOp a.eval ⟨dst,op,ty,pos,after,guard⟩).run P w = .ok (.value v) w' -> Oper.wp P ⟨dst,op,ty,pos,after,guard⟩ a w next Q:=by
  intro v w' hK hr
  unfold Oper.wp
  rw [hr]
  exact hn _ _ _ (Le.refl _) hK
 cases op <;> try exact h.elim
 case alloc t=>
  simp only [allocI] at h
  cases hz:zeroL P t with
  | none=>simp only [hz] at h; exact h.elim
  | some z=>
   simp only [hz] at h
   obtain ⟨v,hv,hvc⟩:=zeroL_sound hz
   exact fin h (by simp only [execOp,Instr.alloc,Sem.run_bind,hv,Result.andThen_ok,newVar,hvc,newB_run,Sem.run_pure])
 case box t x=>
  simp only [boxI] at h
  cases hu:isU (ev ρ x) with
  | true=>rw [hu] at h; exact h.elim
  | false=>
   rw [hu] at h
   exact fin h (by simp only [execOp,ev_eq hs rfl hu,Instr.box,Sem.run_bind,newVar,cellsL_eq,newB_run,Result.andThen_ok,Sem.run_pure])
 case buildSlice t n ps=>
  obtain ⟨hu,v,w',hK,hr⟩:=buildSliceI_sound h
  have he:(ps.map fun (x:Nat × Operand)=>(x.1,a.eval x.2)) = (evParts ρ ps.toList).toArray:=by
   rw [<- evParts_eq hs _ hu,<- Array.toList_inj]; simp
  rw [<- he] at hr
  exact fin hK (run_v' hr)
 case load t x=>
  obtain ⟨v,hu,hK,hr⟩:=loadI_sound h
  exact fin hK (by simp only [execOp,ev_eq hs rfl hu]; exact run_v' hr)
 case store t x v=>
  obtain ⟨hu,hv,w',hK,hr⟩:=storeI_sound h
  unfold Oper.wp
  have:(execOp a.eval ⟨dst,.store t x v,ty,pos,after,guard⟩).run P w = .ok .skip w':=by
   simp only [execOp,ev_eq hs rfl hu,ev_eq hs rfl hv,Sem.run_bind,hr,Result.andThen_ok,Sem.run_pure]
  rw [this]
  exact hn _ _ _ (Le.refl _) hK
 case makeSlice t l c=>
  obtain ⟨hu,hv,v,w',hK,hr⟩:=makeSliceI_sound h
  exact fin hK (by simp only [execOp,ev_eq hs rfl hu,ev_eq hs rfl hv]; exact run_v' hr)
 case makeMap t r=>
  cases r with
  | some _=>exact h.elim
  | none=>exact fin h (by simp only [execOp,Instr.makeMap,Option.map_none,Sem.run_bind,run_newObj,Result.andThen_ok,Sem.run_pure,World.alloc])
 case mapUpdate t m k x=>
  simp only at h
  cases hu:(isU (ev ρ m) || isU (ev ρ k) || isU (ev ρ x)) with
  | true=>rw [hu] at h; exact h.elim
  | false=>
   rw [hu] at h
   simp only [Bool.or_eq_false_iff] at hu
   obtain ⟨w',hr,hK⟩:=h
   unfold Oper.wp
   have:(execOp a.eval ⟨dst,.mapUpdate t m k x,ty,pos,after,guard⟩).run P w = .ok .skip w':=by
    simp only [execOp,ev_eq hs rfl hu.1.1,ev_eq hs rfl hu.1.2,ev_eq hs rfl hu.2,Sem.run_bind,hr,Result.andThen_ok,Sem.run_pure]
   rw [this]
   exact hn _ _ _ (Le.refl _) hK
 case lookup t m k c=>
  cases c with
  | true=>exact h.elim
  | false=>
   obtain ⟨c',hu1,hu2,x,hr,hK⟩:=lookI_spec h
   exact fin hK (by simp only [execOp,ev_eq hs rfl hu1,ev_eq hs rfl hu2]; exact run_v' hr)
 case makeChan t n=>
  simp only at h
  cases hu:isU (ev ρ n) with
  | true=>rw [hu] at h; exact h.elim
  | false=>
   rw [hu] at h
   obtain ⟨w',hr,hK⟩:=h
   exact fin hK (by simp only [execOp,ev_eq hs rfl hu]; exact run_v' hr)
 case convert s d x=>
  obtain ⟨hu,v,hK,hr⟩:=convSI_sound h
  exact fin hK (by simp only [execOp,ev_eq hs rfl hu]; exact run_v' hr)
 case call c=>
  obtain ⟨callee,args,ats⟩:=c
  cases callee <;> try exact h.elim
  case value f=>
   simp only at h
   obtain ⟨hu,hv,g,gargs,hr,hC⟩:=callI_sound h
   unfold Oper.wp
   have he:args.map a.eval = (evL ρ args.toList).toArray:=by
    rw [<- evL_eq hs _ hv,<- Array.toList_inj]; simp
   have:(execOp a.eval ⟨dst,.call ⟨.value f,args,ats⟩,ty,pos,after,guard⟩).run P w = .ok (.enter g gargs) w:=by
    simp only [execOp,resolve,he,ev_eq hs rfl hu]
    exact hr
   rw [this,Oper.upon_enter]
   refine hC.mono ?_
   rintro e w' ⟨v,rfl,hK⟩
   exact hn _ _ _ (Le.refl _) hK
  case invoke r name=>
   simp only at h
   obtain ⟨hu,hv,g,gargs,hr,hC⟩:=invI_sound h
   unfold Oper.wp
   have he:args.map a.eval = (evL ρ args.toList).toArray:=by
    rw [<- evL_eq hs _ hv,<- Array.toList_inj]; simp
   have:(execOp a.eval ⟨dst,.call ⟨.invoke r name,args,ats⟩,ty,pos,after,guard⟩).run P w = .ok (.enter g gargs) w:=by
    simp only [execOp,resolve,he,ev_eq hs rfl hu,Sem.run_bind,Sem.run_pure,Result.andThen_ok,invoke]
    have h0:(#[ev ρ r] ++ (evL ρ args.toList).toArray)[0]? = some (ev ρ r):=by simp
    have h1:(#[ev ρ r] ++ (evL ρ args.toList).toArray).extract 1 (#[ev ρ r] ++ (evL ρ args.toList).toArray).size = (evL ρ args.toList).toArray:=by
     rw [<- Array.toList_inj]; simp
    simp only [h0,h1]
    exact hr
   rw [this,Oper.upon_enter]
   refine hC.mono ?_
   rintro e w' ⟨v,rfl,hK⟩
   exact hn _ _ _ (Le.refl _) hK
  case builtin b=>
   cases b <;> try exact h.elim
   case clear=>
    simp only at h
    cases hal:args.toList with
    | nil=>simp only [hal] at h; exact h.elim
    | cons x l1=>
    cases l1 with
    | cons _ _=>simp only [hal] at h; exact h.elim
    | nil=>
    cases htl:ats.toList with
    | nil=>simp only [hal,htl] at h; exact h.elim
    | cons t1 l1=>
    cases l1 with
    | cons _ _=>simp only [hal,htl] at h; exact h.elim
    | nil=>
    simp only [hal,htl] at h
    obtain ⟨hu,w',hK,hr⟩:=clrI_sound (ty:=ty) h
    have he:args.map a.eval = #[ev ρ x]:=by
     rw [<- Array.toList_inj]; simp [hal,ev_eq hs rfl hu]
    have hat:ats = #[t1]:=by rw [<- Array.toList_inj]; exact htl
    exact fin hK (by simp only [execOp,resolve,he,hat,Sem.run_bind,Sem.run_pure,Result.andThen_ok,invoke,builtin,hr])
   simp only at h
   cases hal:args.toList with
   | nil=>simp only [hal] at h; exact h.elim
   | cons s l1=>
   cases l1 with
   | nil=>simp only [hal] at h; exact h.elim
   | cons x l2=>
   cases l2 with
   | cons _ _=>simp only [hal] at h; exact h.elim
   | nil=>
   cases htl:ats.toList with
   | nil=>simp only [hal,htl] at h; exact h.elim
   | cons t1 l1=>
   cases l1 with
   | nil=>simp only [hal,htl] at h; exact h.elim
   | cons t2 l2=>
   cases l2 with
   | cons _ _=>simp only [hal,htl] at h; exact h.elim
   | nil=>
   simp only [hal,htl] at h
   obtain ⟨hu,hv,v,w',hK,hr⟩:=appendI_sound (ty:=ty) h
   have he:args.map a.eval = #[ev ρ s,ev ρ x]:=by
    rw [<- Array.toList_inj]; simp [hal,ev_eq hs rfl hu,ev_eq hs rfl hv]
   have hat:ats = #[t1,t2]:=by rw [<- Array.toList_inj]; exact htl
   exact fin hK (by simp only [execOp,resolve,he,hat,Sem.run_bind,Sem.run_pure,Result.andThen_ok,invoke,builtin,hr])
end
end Go.Hb
namespace Go.Hb
section
variable {P:Program} {ρ:Env} {a:Act} {w:World}
theorem Sub.know {ρ:Env} {a:Act} (h:Sub ρ a) {d:Nat} {v:Value} (hv:a.tmps.getD d undef = v):Sub (pt ρ d v) a:=by
 refine ⟨h.defers,by rw [length_pt]; exact h.size,fun t=>?_⟩
 rw [gt_pt]
 split
 ·rename_i ht; rw [ht.1,hv]; exact Le.refl _
 ·exact h.get t
theorem yielded_eq {all:List Oper} {j d:Nat} (hd:dstOf all j = some d) (hlt:d < a.tmps.size) :
  yielded all.toArray a.tmps j = match a.tmps.getD d undef with
   | .bool b=>some b
   | _=>none:=by
 unfold dstOf at hd
 unfold yielded
 simp only [List.getElem?_toArray]
 split at hd
 ·rename_i o ho
  simp [ho,hd,hlt]
  cases a.tmps[d] <;> rfl
 ·cases hd
theorem gt_lt {ρ:Env} {t:Nat} {v:Value} (h:gt ρ t = v) (hv:isU v = false):t < ρ.length:=by
 induction ρ generalizing t with
 | nil=>subst h; simp [gt,isU,unk] at hv
 | cons x ρ ih=>cases t with
  | zero=>simp
  | succ t=>have:=ih (t:=t) (by simpa [gt] using h); simp; omega
theorem guardI_sound {all:List Oper} {o:Oper} {yes no:Env -> WP} (h:guardI all ρ o yes no w) (hs:Sub ρ a) :
  (Region.wanted o (yielded all.toArray a.tmps) = true /\ ∃ ρ',Sub ρ' a /\ yes ρ' w) \/ (Region.wanted o (yielded all.toArray a.tmps) = false /\ ∃ ρ',Sub ρ' a /\ no ρ' w):=by
 unfold guardI at h
 unfold Region.wanted
 cases hg:o.guard with
 | none=>simp only [hg] at h; exact .inl ⟨rfl,ρ,hs,h⟩
 | some g=>
  obtain ⟨j,want⟩:=g
  simp only [hg] at h
  cases hd:dstOf all j with
  | none=>
   simp only [hd] at h
   refine .inr ⟨?_,ρ,hs,h⟩
   have:yielded all.toArray a.tmps j = none:=by
    unfold dstOf at hd
    unfold yielded
    simp only [List.getElem?_toArray]
    split at hd
    ·rename_i o ho; simp [ho,hd]
    ·rename_i ho; simp [ho]
   simp [this]
  | some d=>
   simp only [hd] at h
   have key:∀ v,gt ρ d = v -> isU v = false -> a.tmps.getD d undef = v /\ d < a.tmps.size:=by
    intro v hv hu
    have:=(hs.get d).eq (by rw [hv]; exact hu)
    exact ⟨this.trans hv,Nat.lt_of_lt_of_le (gt_lt hv hu) hs.size⟩
   cases hv:gt ρ d with
   | complex k x y=>simp only [hv] at h; exact h.elim
   | bool b=>
    obtain ⟨h1,h2⟩:=key _ hv rfl
    simp only [yielded_eq hd h2,h1]
    simp only [hv] at h
    cases b <;> cases want <;> simp only [ite2,cond_true,cond_false] at h
    ·exact .inl ⟨rfl,_,hs.know h1,h⟩
    ·exact .inr ⟨rfl,_,hs.know h1,h⟩
    ·exact .inr ⟨rfl,_,hs.know h1,h⟩
    ·exact .inl ⟨rfl,_,hs.know h1,h⟩
   | _=>
    obtain ⟨h1,h2⟩:=key _ hv rfl
    simp only [yielded_eq hd h2,h1]
    simp only [hv] at h
    exact .inr ⟨rfl,_,hs,h⟩
theorem opsI_sound {all:List Oper} {Q:Exit -> Act -> World -> Prop} {K:Env -> WP} (hn:∀ ρ a w,K ρ w -> Sub ρ a -> Q .normal a w) :
  ∀ (l:List Oper) (ρ:Env) (a:Act) (w:World),opsI P all l ρ K w -> Sub ρ a -> wpList P all.toArray Q l a w
 | [],ρ,a,w,h,hs=>hn _ _ _ h hs
 | o::l,ρ,a,w,h,hs=>by
  simp only [opsI] at h
  simp only [wpList]
  rcases guardI_sound h hs with ⟨hw,ρ',hs',h⟩ | ⟨hw,ρ',hs',h⟩
  ·rw [if_pos hw]
   exact .inl (opI_sound h hs' fun v v' w' hle hK=>opsI_sound hn l _ _ _ hK (hs'.put o.dst hle))
  ·rw [if_neg (by simp [hw])]
   exact opsI_sound hn l _ _ _ h (hs'.put o.dst (Le.refl _))
theorem memb_iff {i:Nat}:∀ {l:List Nat},memb i l = true ↔ i ∈ l
 | []=>by simp [memb]
 | j::l=>by
  simp only [memb,Bool.or_eq_true,List.mem_cons,memb_iff (l:=l)]
  constructor
  ·rintro (h | h)
   ·exact .inl (Nat.eq_of_beq_eq_true h)
   ·exact .inr h
  ·rintro (h | h)
   ·subst h; exact .inl (Nat.beq_refl _)
   ·exact .inr h
theorem mem_edgesL {k:Nat}:∀ {l:List Edge},k ∈ edgesL l ↔ ∃ e ∈ l,Region.binds .any e = true /\ e.on = k
 | []=>by simp [edgesL]
 | e::l=>by
  have ih:=mem_edgesL (k:=k) (l:=l)
  simp only [edgesL]
  split <;> rename_i hg
  ·simp only [ih,List.mem_cons,exists_eq_or_imp,Region.binds,hg]; simp
  ·simp only [ih,List.mem_cons,exists_eq_or_imp,Region.binds,hg]; simp
  ·have hb:Region.binds .any e = true:=by
    unfold Region.binds
    split <;> first | rfl | (rename_i h; simp_all)
   simp only [List.mem_cons,ih,exists_eq_or_imp,hb,true_and]
   constructor
   ·rintro (h | h)
    ·exact .inl h.symm
    ·exact .inr h
   ·rintro (h | h)
    ·exact .inl h.symm
    ·exact .inr h
variable {all:List Oper}
theorem mem_waitsL {i k:Nat} {o:Oper} (ho:all[i]? = some o):k ∈ waitsL all i ↔ ∃ e ∈ o.after,Region.binds .any e = true /\ e.on = k:=by
 simp only [waitsL,ho,mem_edgesL,Array.mem_toList_iff]
structure RelD (all:List Oper) (done:List Nat) (listed:Array Bool):Prop where
 size:listed.size = all.length
 mem:∀ j,j < all.length -> listed.getD j false = memb j done
theorem RelD.getT {done:List Nat} {listed:Array Bool} (h:RelD all done listed) {j:Nat} (hj:j < all.length):listed.getD j true = memb j done:=by
 rw [<- h.mem j hj]
 have:j < listed.size:=by rw [h.size]; exact hj
 simp [this]
theorem rdy_iff {done:List Nat} {listed:Array Bool} (h:RelD all done listed) (hd:∀ i ∈ done,i < all.length) {i:Nat} (hi:i < all.length) :
  rdy all done i = true ↔ i ∈ Region.ready .any all.toArray listed:=by
 rw [mem_ready]
 obtain ⟨o,ho⟩:∃ o,all[i]? = some o:=⟨all[i],by simp [hi]⟩
 have ho':all.toArray[i]? = some o:=by simpa using ho
 simp only [rdy,Bool.and_eq_true,Bool.not_eq_true',List.all_eq_true]
 rw [h.getT hi]
 refine and_congr Iff.rfl ?_
 constructor
 ·intro hw
  refine ⟨o,ho',fun e he hb=>?_⟩
  have h1:=hw e.on ((mem_waitsL ho).2 ⟨e,he,hb,rfl⟩)
  have h2:=hd _ (memb_iff.1 h1)
  rw [h.mem _ h2]; exact h1
 ·rintro ⟨o',ho'',hall⟩ k hk
  have:o' = o:=Option.some.inj (ho''.symm.trans ho')
  subst this
  obtain ⟨e,he,hb,rfl⟩:=(mem_waitsL ho).1 hk
  have h1:=hall e he hb
  by_cases h2:e.on < all.length
  ·rw [<- h.mem _ h2]; exact h1
  ·have:¬ e.on < listed.size:=by rw [h.size]; exact h2
   simp [this] at h1
def Closed (all:List Oper) (L:Nat -> Bool):Prop:=∀ j,L j = true -> ∀ k ∈ waitsL all j,L k = true
theorem maskOf_spec {acc:List Nat} {k:Nat}:∀ {es:List Nat},(maskOf acc es).testBit k = true -> ∃ e ∈ es,k = e \/ (acc.getD e 0).testBit k = true
 | [],h=>by simp [maskOf] at h
 | e::es,h=>by
  simp only [maskOf,Nat.testBit_or,Bool.or_eq_true,Nat.testBit_two_pow,decide_eq_true_eq] at h
  rcases h with (h | h) | h
  ·exact ⟨e,.head _,.inl h.symm⟩
  ·exact ⟨e,.head _,.inr h⟩
  ·obtain ⟨e',he',h'⟩:=maskOf_spec h
   exact ⟨e',.tail _ he',h'⟩
theorem mkTab_spec:∀ (l:List Oper) (acc:List Nat),all.drop acc.length = l ->
  (∀ j k,(acc.getD j 0).testBit k = true -> ∀ L,Closed all L -> (∀ e ∈ waitsL all j,L e = true) -> L k = true) ->
  ∀ j k,((mkTab l acc).getD j 0).testBit k = true -> ∀ L,Closed all L -> (∀ e ∈ waitsL all j,L e = true) -> L k = true
 | [],acc,_,hacc=>hacc
 | o::l,acc,hl,hacc=>by
  simp only [mkTab]
  have ho:all[acc.length]? = some o:=by
   have:(all.drop acc.length)[0]? = some o:=by rw [hl]; rfl
   simpa using this
  refine mkTab_spec l _ ?_ ?_
  ·have:all.drop (acc.length + 1) = (all.drop acc.length).drop 1:=by rw [List.drop_drop]
   simp [this,hl]
  ·intro j k hb L hL hj
   by_cases hjl:j < acc.length
   ·have:(acc ++ [maskOf acc (edgesL o.after.toList)]).getD j 0 = acc.getD j 0:=by simp [List.getElem?_append_left hjl]
    rw [this] at hb
    exact hacc j k hb L hL hj
   ·by_cases hje:j = acc.length
    ·subst hje
     have:(acc ++ [maskOf acc (edgesL o.after.toList)]).getD acc.length 0 = maskOf acc (edgesL o.after.toList):=by simp
     rw [this] at hb
     obtain ⟨e,he,h⟩:=maskOf_spec hb
     have hw:e ∈ waitsL all acc.length:=by simp only [waitsL,ho]; exact he
     rcases h with rfl | h
     ·exact hj _ hw
     ·exact hacc e k h L hL (hL e (hj e hw))
    ·have:(acc ++ [maskOf acc (edgesL o.after.toList)]).getD j 0 = 0:=by
      have:acc.length + 1 <= j:=by omega
      simp [List.getElem?_eq_none,this]
     rw [this] at hb
     simp at hb
def wpAnyM (P:Program) (ops:Array Oper) (Q:Exit -> Act -> World -> Prop) (S:World -> Prop) (need:Nat -> Bool):Nat -> Array Bool -> Act -> World -> Prop
 | 0,listed,a,w=>Region.ready .any ops listed = [] /\ Q .normal a w
 | fuel + 1,listed,a,w=>
  (Region.ready .any ops listed = [] -> Q .normal a w) /\
  ∀ i ∈ Region.ready .any ops listed,wpOp P ops Q i (fun a' w'=>(need i = true -> S w -> S w') /\ wpAnyM P ops Q S need fuel (listed.setIfInBounds i true) a' w') a w
theorem wpAny_of_M {ops:Array Oper} {Q:Exit -> Act -> World -> Prop} {S:World -> Prop} {need:Nat -> Bool}:∀ (fuel:Nat) (listed:Array Bool) (a:Act) (w:World),wpAnyM P ops Q S need fuel listed a w -> wpAny P .any ops Q fuel listed a w
 | 0,_,_,_,h=>h
 | fuel + 1,_,_,_,h=>⟨h.1,fun i hi=>wpOp_mono (fun a' w' h'=>wpAny_of_M fuel _ a' w' h'.2) (h.2 i hi)⟩
theorem wpAnyM_first {ops:Array Oper} {Q:Exit -> Act -> World -> Prop} {S:World -> Prop} {need:Nat -> Bool} {c:Bool} {i:Nat} {oi:Oper} {v:Value} (hi:ops[i]? = some oi)
  (hsel:∀ (j:Nat) (o:Oper) cs b,ops[j]? = some o -> o.op ≠ .select cs b) (hQ:∀ c a w,¬ Q (.panic c) a w) (G:Array Bool -> Prop)
  (hG:∀ listed j,G listed -> j ∈ Region.ready .any ops listed -> G (listed.setIfInBounds j true))
  (hneed:∀ listed j,G listed -> j ∈ Region.ready .any ops listed -> listed.getD i true = false -> j ≠ i -> c = true -> need j = true) :
  ∀ (fuel:Nat) (listed:Array Bool) (a:Act) (w:World),G listed ->
   (∀ j oj,ops[j]? = some oj -> j ≠ i -> listed.getD j true = false -> (∀ e ∈ oj.after,Region.binds .any e = true -> e.on ≠ i) -> oi.apart ops oj = true) ->
   i ∈ Region.ready .any ops listed -> YieldsIf P ops (fun w=>c = true -> S w) oi v a -> (c = true -> S w) ->
   wpAnyM P ops Q S need fuel (listed.setIfInBounds i true) (a.put oi.dst v) w -> wpAnyM P ops Q S need (fuel + 1) listed a w:=by
 intro fuel
 induction fuel with
 | zero=>
  intro listed a w hg _ hr hy hS H
  refine ⟨fun h=>(by rw [h] at hr; cases hr),fun j hj=>?_⟩
  by_cases hji:j = i
  ·subst hji; exact hy.wpOp hi hS ⟨fun _ h=>h,H⟩
  ·have:=ready_mono hj hji
   rw [H.1] at this
   cases this
 | succ fuel ih=>
  intro listed a w hg hfree hr hy hS H
  refine ⟨fun h=>(by rw [h] at hr; cases hr),fun j hj=>?_⟩
  by_cases hji:j = i
  ·subst hji; exact hy.wpOp hi hS ⟨fun _ h=>h,H⟩
  ·have h1:=H.2 j (ready_mono hj hji)
   have hnd:=hneed listed j hg hj (mem_ready.1 hr).1 hji
   obtain ⟨hjun,oj,hoj,hall⟩:=mem_ready.1 hj
   have hnot:∀ e ∈ oj.after,Region.binds .any e = true -> e.on ≠ i:=fun e he hb heq=>by
    have h1:=hall e he hb
    have h0:=(mem_ready.1 hr).1
    rw [heq] at h1
    rcases Nat.lt_or_ge i listed.size with h' | h'
    ·simp [h'] at h0 h1; rw [h0] at h1; cases h1
    ·simp [Array.getElem?_eq_none h'] at h1
   have h2:=wpOp_putIf hoj (hfree j oj hoj hji hjun hnot) (fun cs b=>hsel i oi cs b hi) (fun cs b=>hsel j oj cs b hoj) (fun c a w hq=>(hQ c _ w hq).elim) hy h1
   have hfree':∀ k ok,ops[k]? = some ok -> k ≠ i -> (listed.setIfInBounds j true).getD k true = false ->
     (∀ e ∈ ok.after,Region.binds .any e = true -> e.on ≠ i) -> oi.apart ops ok = true:=fun k ok hk hki hun hno=>by
    refine hfree k ok hk hki ?_ hno
    by_cases hjk:j = k
    ·subst hjk; exact hjun
    ·rw [getD_set_ne true hjk] at hun; exact hun
   refine wpOp_mono (fun a' w' h3=>⟨h3.2.1,ih (listed.setIfInBounds j true) a' w' (hG _ _ hg hj) hfree' (ready_mono hr (Ne.symm hji)) h3.1 (fun hc=>h3.2.1 (hnd hc) (hS hc)) ?_⟩) h2
   rw [Array.setIfInBounds_comm _ _ hji]
   exact h3.2.2
theorem RelD.set {done:List Nat} {listed:Array Bool} (h:RelD all done listed) {i:Nat} (hi:i < all.length):RelD all (i::done) (listed.setIfInBounds i true):=by
 refine ⟨by simp [h.size],fun j hj=>?_⟩
 by_cases hij:i = j
 ·subst hij
  have:i < listed.size:=by rw [h.size]; exact hi
  simp [this,memb,Nat.beq_refl]
 ·rw [getD_set_ne false hij,h.mem j hj]
  have:Nat.beq j i = false:=by
   cases hb:Nat.beq j i with
   | false=>rfl
   | true=>exact absurd (Nat.eq_of_beq_eq_true hb).symm hij
  simp [memb,this]
theorem ldsS_sound {S:World -> Prop}:∀ (ks:List CK) (b o:Nat) (K:List Value -> WP),ldsS S ks b o K w -> ∃ vs,vs.length = ks.length /\ K vs w /\ ∀ w',S w' -> ∀ (j:Nat) v,vs[j]? = some v -> w'.cell? ⟨b,o + j,none⟩ = some v
 | [],_,_,_,h=>⟨[],rfl,h,by simp⟩
 | k::ks,b,o,K,h=>by
  simp only [ldsS] at h
  obtain ⟨x,hx,h⟩:=h
  obtain ⟨vs,hl,hK,hc⟩:=ldsS_sound ks b (o + 1) _ h
  refine ⟨_,by simp [hl],hK,fun w' hS j v hj=>?_⟩
  cases j with
  | zero=>simp at hj; subst hj; exact hx w' hS
  | succ j=>
   have:=hc w' hS j v (by simpa using hj)
   rwa [show o + 1 + j = o + (j + 1) by omega] at this
theorem loadSI_sound {S:World -> Prop} {t:TypeId} {x:Value} {K:Value -> WP} (h:loadSI P S t x K w):∃ v,isU x = false /\ K v w /\ ∀ w',S w' -> (Instr.loadAt t x).run P w' = .ok v w':=by
 unfold loadSI at h
 cases x <;> try exact h.elim
 rename_i p
 rcases p with _ | ⟨b,o,_ | _⟩ <;> try exact h.elim
 cases hk:cks P 9 t with
 | none=>simp only [hk] at h; exact h.elim
 | some ks=>
 simp only [hk] at h
 cases hc:((P.underlying t).isSome && (P.info? t).isSome && Nat.beq (szT P t) ks.length) with
 | false=>rw [hc] at h; exact h.elim
 | true=>
  rw [hc] at h
  simp only [Bool.and_eq_true] at hc
  obtain ⟨⟨hd,hi⟩,hl⟩:=hc
  obtain ⟨d,hd⟩:=Option.isSome_iff_exists.1 hd
  have hl':szT P t = ks.length:=Nat.eq_of_beq_eq_true hl
  simp only [cond_true] at h
  cases ha:aggT P t with
  | true=>
   simp only [ha] at h
   obtain ⟨vs,hvl,hK,hcs⟩:=ldsS_sound _ _ _ _ h
   exact ⟨_,rfl,hK,fun w' hS=>by
    simp only [Instr.loadAt,Instr.sureAddr,Sem.run_bind,Sem.run_pure,Result.andThen_ok]
    exact loadVar_agg hd hi ha (by rw [hl',hvl]) (hcs w' hS)⟩
  | false=>
   simp only [ha] at h
   rcases ks with _ | ⟨k,_ | _⟩ <;> try exact h.elim
   cases hif:isIfcT P t with
   | false=>
    simp only [hif] at h
    cases hfu:isFunT P t with
    | false=>
     simp only [hfu] at h
     obtain ⟨x,hx,hK⟩:=h
     exact ⟨_,rfl,hK,fun w' hS=>by
      simp only [Instr.loadAt,Instr.sureAddr,Sem.run_bind,Sem.run_pure,Result.andThen_ok]
      exact loadVar_one hd ha (hx w' hS)⟩
    | true=>
     simp only [hfu] at h
     rcases h with ⟨hx,hK⟩ | ⟨p,hp,hx,hK⟩
     ·exact ⟨_,rfl,hK,fun w' hS=>by
       simp only [Instr.loadAt,Instr.sureAddr,Sem.run_bind,Sem.run_pure,Result.andThen_ok]
       exact loadVar_one hd ha (hx w' hS)⟩
     ·rw [mem_mapF hp] at hK
      exact ⟨_,rfl,hK,fun w' hS=>by
       simp only [Instr.loadAt,Instr.sureAddr,Sem.run_bind,Sem.run_pure,Result.andThen_ok]
       exact loadVar_one hd ha (hx w' hS)⟩
   | true=>
    simp only [hif] at h
    rcases h with ⟨hx,hK⟩ | ⟨t',v',hx,hK⟩
    all_goals
     exact ⟨_,rfl,hK,fun w' hS=>by
      simp only [Instr.loadAt,Instr.sureAddr,Sem.run_bind,Sem.run_pure,Result.andThen_ok]
      exact loadVar_one hd ha (hx w' hS)⟩
theorem stI_sound {S:World -> Prop} {o:Oper} {K:Value -> WP} (h:stI P S ρ o.op K w) (hs:Sub ρ a) :
  ∃ v v',Le v v' /\ K v w /\ ∀ w',((match o.op with | .load _ _=>true | _=>false) = true -> S w') -> (execOp a.eval o).run P w' = .ok (.value v') w':=by
 unfold stI at h
 cases hp:pureI P ρ o.op with
 | some F=>
  simp only [hp] at h
  obtain ⟨v,v',hle,hK,hg⟩:=pureI_sound hp h hs
  exact ⟨v,v',hle,hK,fun w' _=>hg w'⟩
 | none=>
  simp only [hp] at h
  obtain ⟨dst,op,ty,pos,after,guard⟩:=o
  cases op <;> try exact h.elim
  case load t x=>
   obtain ⟨v,hu,hK,hr⟩:=loadSI_sound h
   exact ⟨v,v,Le.refl _,hK,fun w' hS=>by simp only [execOp,ev_eq hs rfl hu]; exact run_v' (hr w' (hS rfl))⟩
theorem freeL_spec {done:List Nat} {listed:Array Bool} (h:RelD all done listed) {i:Nat} {oi:Oper} (hf:freeL all done i oi = true) (j:Nat) (oj:Oper)
  (hj:all.toArray[j]? = some oj) (hne:j ≠ i) (hun:listed.getD j true = false) (hno:∀ e ∈ oj.after,Region.binds .any e = true -> e.on ≠ i):oi.apart all.toArray oj = true:=by
 have hj':all[j]? = some oj:=by simpa using hj
 have hlt:j < all.length:=(List.getElem?_eq_some_iff.1 hj').1
 have h1:=List.all_eq_true.1 hf j (List.mem_range.2 hlt)
 simp only [hj',Bool.or_eq_true] at h1
 rcases h1 with ((h1 | h1) | h1) | h1
 ·exact absurd (Nat.eq_of_beq_eq_true h1) hne
 ·rw [h.getT hlt,h1] at hun; cases hun
 ·obtain ⟨e,he,hb,heq⟩:=(mem_waitsL hj').1 (memb_iff.1 h1)
  exact absurd heq (hno e he hb)
 ·exact h1
structure GoodL (all:List Oper) (listed:Array Bool):Prop where
 size:listed.size = all.length
 closed:Closed all fun j=>listed.getD j false
theorem GoodL.set {listed:Array Bool} (h:GoodL all listed) {j:Nat} (hj:j ∈ Region.ready .any all.toArray listed):GoodL all (listed.setIfInBounds j true):=by
 obtain ⟨hjun,oj,hoj,hall⟩:=mem_ready.1 hj
 have hoj':all[j]? = some oj:=by simpa using hoj
 have hlt:j < all.length:=(List.getElem?_eq_some_iff.1 hoj').1
 refine ⟨by simp [h.size],fun i hi k hk=>?_⟩
 by_cases hij:j = i
 ·subst hij
  obtain ⟨e,he,hb,rfl⟩:=(mem_waitsL hoj').1 hk
  exact getD_set_true (hall e he hb)
 ·simp only [getD_set_ne false hij] at hi
  exact getD_set_true (h.closed i hi k hk)
theorem nextA_spec {done:List Nat} {i:Nat}:∀ {A:List Nat},nextA all done A = some i -> i ∈ A /\ rdy all done i = true
 | [],h=>by cases h
 | j::A,h=>by
  simp only [nextA] at h
  split at h
  ·rename_i hj; cases h; exact ⟨.head _,hj⟩
  ·have:=nextA_spec h; exact ⟨.tail _ this.1,this.2⟩
theorem allW_spec:∀ {l:List WP} {w:World},allW l w -> ∀ p ∈ l,p w
 | [],_,h,_,_=>h.elim
 | [q],_,h,p,hp=>by
  cases hp with
  | head=>exact h
  | tail _ h'=>cases h'
 | q::q'::l,_,h,p,hp=>by
  cases hp with
  | head=>exact h.1
  | tail _ h'=>exact allW_spec (l:=q'::l) h.2 p h'
theorem drawI_sound {Q:Exit -> Act -> World -> Prop} {K:Env -> WP} {S:World -> Prop} {A:List Nat} (hn:∀ ρ a w,K ρ w -> Sub ρ a -> Q .normal a w) (hQ:∀ c a w,¬ Q (.panic c) a w)
  (hsel:∀ (j:Nat) (o:Oper) cs b,all.toArray[j]? = some o -> o.op ≠ .select cs b) :
  ∀ (n:Nat) (done:List Nat) (listed:Array Bool) (ρ:Env) (a:Act) (w:World),RelD all done listed -> GoodL all listed -> (∀ i ∈ done,i < all.length) ->
   (∀ i ∈ loadsOf all A,i < all.length -> memb i done = false -> S w) -> Sub ρ a -> drawI P all S A (loadsOf all A) (mkTab all []) n done ρ K w ->
   wpAnyM P all.toArray Q S (needS (loadsOf all A) (mkTab all [])) n listed a w
 | 0,done,listed,ρ,a,w,hR,hG,hd,hS,hs,h=>by
  simp only [drawI] at h
  cases hall:(List.range all.length).all (memb · done) with
  | false=>rw [hall] at h; exact h.elim
  | true=>
   rw [hall] at h
   refine ⟨?_,hn _ _ _ h hs⟩
   cases hr:Region.ready .any all.toArray listed with
   | nil=>rfl
   | cons i l=>
    exfalso
    have hi:i ∈ Region.ready .any all.toArray listed:=by rw [hr]; exact .head _
    obtain ⟨h0,o,ho,_⟩:=mem_ready.1 hi
    have hlt:i < all.length:=by have:=(Array.getElem?_eq_some_iff.1 ho).1; simpa using this
    have:=List.all_eq_true.1 hall i (List.mem_range.2 hlt)
    rw [hR.getT hlt,this] at h0
    cases h0
 | n + 1,done,listed,ρ,a,w,hR,hG,hd,hS,hs,h=>by
  simp only [drawI] at h
  have hneed:∀ (L:Array Bool) (j k:Nat),GoodL all L -> j ∈ Region.ready .any all.toArray L -> k ∈ loadsOf all A -> L.getD k false = false -> needS (loadsOf all A) (mkTab all []) j = true:=by
   intro L j k hL hj hk hkL
   simp only [needS,List.any_eq_true]
   refine ⟨k,hk,?_⟩
   cases hb:((mkTab all []).getD j 0).testBit k with
   | false=>rfl
   | true=>
    exfalso
    obtain ⟨_,oj,hoj,hall⟩:=mem_ready.1 hj
    have hoj':all[j]? = some oj:=by simpa using hoj
    have:=mkTab_spec (all:=all) all [] (by simp) (by simp) j k hb (fun j=>L.getD j false) hL.closed (fun e he=>by
     obtain ⟨e',he',hb',rfl⟩:=(mem_waitsL hoj').1 he
     exact hall e' he' hb')
    rw [hkL] at this
    cases this
  cases hnx:nextA all done A with
  | none=>
   simp only [hnx] at h
   have hall:=allW_spec h
   have hready:∀ i ∈ Region.ready .any all.toArray listed,i < all.length /\ rdy all done i = true:=by
    intro i hi
    have hlt:i < all.length:=by
     obtain ⟨_,oj,hoj,_⟩:=mem_ready.1 hi
     have:=(Array.getElem?_eq_some_iff.1 hoj).1
     simpa using this
    exact ⟨hlt,(rdy_iff hR hd hlt).2 hi⟩
   have hne:Region.ready .any all.toArray listed ≠ []:=by
    intro h0
    cases hrl:readyL all done with
    | nil=>rw [hrl] at h; exact h.elim
    | cons i l=>
     have hi:i ∈ readyL all done:=by rw [hrl]; exact .head _
     simp only [readyL,List.mem_filter,List.mem_range] at hi
     have:=(rdy_iff hR hd hi.1).1 hi.2
     rw [h0] at this; cases this
   refine ⟨fun h0=>absurd h0 hne,fun i hir=>?_⟩
   obtain ⟨hlt,hrd⟩:=hready i hir
   have hp:=hall _ (List.mem_map.2 ⟨i,List.mem_filter.2 ⟨List.mem_range.2 hlt,hrd⟩,rfl⟩)
   obtain ⟨o,ho⟩:∃ o,all[i]? = some o:=⟨all[i],by simp [hlt]⟩
   have hoA:all.toArray[i]? = some o:=by simpa using ho
   simp only [ho] at hp
   have hd':∀ k ∈ i::done,k < all.length:=by
    intro k hk
    cases hk with
    | head=>exact hlt
    | tail _ h'=>exact hd k h'
   have cont:∀ ρ' a' w',Sub ρ' a' -> keepS (needS (loadsOf all A) (mkTab all []) i) S (drawI P all S A (loadsOf all A) (mkTab all []) n (i::done) ρ' K) w' ->
     (needS (loadsOf all A) (mkTab all []) i = true -> S w -> S w') /\ wpAnyM P all.toArray Q S (needS (loadsOf all A) (mkTab all [])) n (listed.setIfInBounds i true) a' w':=by
    intro ρ' a' w' hs' hk
    have hSw:needS (loadsOf all A) (mkTab all []) i = true -> S w':=fun hnd=>by rw [hnd] at hk; exact hk.1
    refine ⟨fun h1 _=>hSw h1,drawI_sound hn hQ hsel n (i::done) _ ρ' a' w' (hR.set hlt) (hG.set hir) hd' (fun k hkA hkl hkd=>?_) hs' ?_⟩
    ·apply hSw
     have hkd':memb k done = false:=by
      simp only [memb,Bool.or_eq_false_iff] at hkd; exact hkd.2
     exact hneed listed i k hG hir hkA (by rw [hR.mem k hkl]; exact hkd')
    ·cases hnd:needS (loadsOf all A) (mkTab all []) i with
     | true=>rw [hnd] at hk; exact hk.2
     | false=>rw [hnd] at hk; exact hk
   unfold wpOp
   simp only [hoA]
   rcases guardI_sound hp hs with ⟨hw,ρ',hs',h⟩ | ⟨hw,ρ',hs',h⟩
   ·rw [if_pos hw]
    exact .inl (opI_sound h hs' fun v v' w' hle hK=>cont _ _ _ (hs'.put o.dst hle) hK)
   ·rw [if_neg (by simp [hw])]
    exact cont _ _ _ (hs'.put o.dst (Le.refl _)) h
  | some i=>
   simp only [hnx] at h
   obtain ⟨hiA,hrd⟩:=nextA_spec hnx
   cases ho:all[i]? with
   | none=>simp only [ho] at h; exact h.elim
   | some o=>
   simp only [ho] at h
   have hlt:i < all.length:=(List.getElem?_eq_some_iff.1 ho).1
   have hoA:all.toArray[i]? = some o:=by simpa using ho
   have hd':∀ k ∈ i::done,k < all.length:=by
    intro k hk
    cases hk with
    | head=>exact hlt
    | tail _ h'=>exact hd k h'
   cases hfr:freeL all done i o with
   | false=>rw [hfr] at h; exact h.elim
   | true=>
    rw [hfr] at h
    simp only [cond_true] at h
    have hir:=(rdy_iff hR hd hlt).1 hrd
    have hin:memb i done = false:=by
     simp only [rdy,Bool.and_eq_true,Bool.not_eq_true'] at hrd; exact hrd.1
    have hSw:isLd all i = true -> S w:=fun hld=>hS i (List.mem_filter.2 ⟨hiA,hld⟩) hlt hin
    have fin:∀ v' ρ',YieldsIf P all.toArray (fun w=>isLd all i = true -> S w) o v' a -> Sub ρ' (a.put o.dst v') -> drawI P all S A (loadsOf all A) (mkTab all []) n (i::done) ρ' K w ->
      wpAnyM P all.toArray Q S (needS (loadsOf all A) (mkTab all [])) (n + 1) listed a w:=by
     intro v' ρ' hy hs' hk
     refine wpAnyM_first (c:=isLd all i) hoA hsel hQ (GoodL all) (fun L j hL hj=>hL.set hj) (fun L j hL hj hun hji hld=>?_) n listed a w hG (freeL_spec hR hfr) hir hy hSw ?_
     ·refine hneed L j i hL hj (List.mem_filter.2 ⟨hiA,hld⟩) ?_
      have:i < L.size:=by rw [hL.size]; exact hlt
      simp [this] at hun ⊢
      exact hun
     ·refine drawI_sound hn hQ hsel n (i::done) _ ρ' _ w (hR.set hlt) (hG.set hir) hd' (fun k hkA hkl hkd=>hS k hkA hkl ?_) hs' hk
      simp only [memb,Bool.or_eq_false_iff] at hkd; exact hkd.2
    rcases guardI_sound h hs with ⟨hw,ρ',hs',h⟩ | ⟨hw,ρ',hs',h⟩
    ·obtain ⟨v,v',hle,hK,hr⟩:=stI_sound h hs'
     have hld:isLd all i = (match o.op with | .load _ _=>true | _=>false):=by simp only [isLd,ho]; cases o.op <;> rfl
     exact fin v' _ (.inl ⟨hw,fun w' hSc=>by rw [hld] at hSc; exact hr w' hSc⟩) (hs'.put o.dst hle) hK
    ·exact fin undef _ (.inr ⟨hw,rfl⟩) (hs'.put o.dst (Le.refl _)) h
end
end Go.Hb
namespace Go.Hb
theorem Sub.clean {ρ:Env} {a:Act} (h:Sub ρ a) (kp:KP) (n:Nat):Sub (cleanAt kp n ρ) a:=by
 unfold cleanAt
 split
 case h_2=>exact h
 rename_i ks _
 have key:∀ (ρ:Env) (ks:List Nat) (i t:Nat),gt (Hb.clean ks i ρ) t = unk \/ gt (Hb.clean ks i ρ) t = gt ρ t:=by
  intro ρ
  induction ρ with
  | nil=>intro ks i t; simp [Hb.clean]
  | cons v ρ ih=>
   intro ks i t
   cases ks with
   | nil=>cases t with
    | zero=>exact .inl rfl
    | succ t=>simpa [Hb.clean,gt] using ih [] (i + 1) t
   | cons k ks=>
    simp only [Hb.clean]
    split <;> cases t <;> first | exact .inr rfl | exact .inl rfl | (simpa [gt] using ih _ (i + 1) _)
 have hlen:∀ (ρ:Env) (ks:List Nat) (i:Nat),(Hb.clean ks i ρ).length = ρ.length:=by
  intro ρ
  induction ρ with
  | nil=>intro ks i; simp [Hb.clean]
  | cons v ρ ih=>
   intro ks i
   cases ks with
   | nil=>simp [Hb.clean,ih]
   | cons k ks=>simp only [Hb.clean]; split <;> simp [ih]
 refine ⟨h.defers,by rw [hlen]; exact h.size,fun t=>?_⟩
 rcases key ρ ks 0 t with h1 | h1
 ·exact .inl h1
 ·rw [h1]; exact h.get t
section
variable {P:Program}
theorem codeI_sound (hm:P.follows .mixedOrders = true) {kp:KP}:∀ (c:Code) (n:Env -> WP) (x:Nat -> Env -> WP) (r:Env -> WP) (ρ:Env) (a:Act) (w:World) (Q:Exit -> Act -> World -> Prop),
  codeI P kp idJ c n x r ρ w -> Sub ρ a -> (∀ ρ a w,n ρ w -> Sub ρ a -> Q .normal a w) -> (∀ i ρ a w,x i ρ w -> Sub ρ a -> Q (.exit i) a w) -> (∀ ρ a w,r ρ w -> Sub ρ a -> Q .ret a w) ->
  (∀ c a w,¬ Q (.panic c) a w) -> c.wp P Q a w:=by
 intro c
 induction c with
 | skip=>intro n x r ρ a w Q h hs hn hx hr hP; exact wp_skip (hn _ _ _ h hs)
 | region id ops d=>
  intro n x r ρ a w Q h hs hn hx hr hP
  cases d with
  | false=>
   simp only [codeI] at h
   exact wp_region_list (by have:=opsI_sound hn _ _ _ _ h hs; simpa using this)
  | true=>
   simp only [codeI] at h
   cases hsel:ops.toList.all noSel with
   | false=>rw [hsel] at h; exact h.elim
   | true=>
    rw [hsel] at h
    obtain ⟨S,hS,h⟩:=h
    have hops:ops.toList.toArray = ops:=by simp
    have hsel':∀ (j:Nat) (o:Oper) cs b,ops.toList.toArray[j]? = some o -> o.op ≠ .select cs b:=by
     intro j o cs b ho heq
     rw [hops] at ho
     have:=List.all_eq_true.1 hsel o (Array.mem_toList_iff.2 (Array.mem_of_getElem? ho))
     simp [noSel,heq] at this
    refine wp_region_any hm ?_
    have:=drawI_sound (Q:=Q) hn hP hsel' ops.toList.length [] (Array.replicate ops.size false) ρ a _ ⟨by simp,fun j hj=>by
      have hjl:j < ops.size:=by simpa using hj
      simp [memb,hjl]⟩ ⟨by simp,fun j hj=>by
     by_cases hjl:j < ops.size <;> simp [hjl] at hj⟩ (by simp) (fun _ _ _ _=>hS) hs h
    rw [hops,Array.length_toList] at this
    exact wpAny_of_M _ _ _ _ this
 | seq c d ihc ihd=>
  intro n x r ρ a w Q h hs hn hx hr hP
  simp only [codeI] at h
  refine wp_seq (ihc _ _ _ _ _ _ _ h hs (fun ρ' a' w' h' hs'=>?_) (fun i ρ a w h hs=>hx i ρ a w h hs) (fun ρ a w h hs=>hr ρ a w h hs) hP)
  cases hl:lookN kp.live (keyS d) with
  | none=>simp only [hl] at h'; exact ihd _ _ _ _ _ _ _ h' hs' hn hx hr hP
  | some ks=>
   simp only [hl,idJ] at h'
   have hc:=hs'.clean kp (keyS d)
   simp only [cleanAt,hl] at hc
   exact ihd _ _ _ _ _ _ _ h' hc hn hx hr hP
 | cond c x y ihx ihy=>
  intro n e r ρ a w Q h hs hn hx hr hP
  simp only [codeI] at h
  cases hv:ev ρ c with
  | bool t=>
   simp only [hv] at h
   have hc:=ev_eq hs hv rfl
   cases t with
   | true=>exact wp_cond_true hc (ihx _ _ _ _ _ _ _ h hs hn hx hr hP)
   | false=>exact wp_cond_false hc (ihy _ _ _ _ _ _ _ h hs hn hx hr hP)
  | _=>simp only [hv] at h; exact h.elim
 | block id c ih=>
  intro n x r ρ a w Q h hs hn hx hr hP
  simp only [codeI] at h
  refine wp_block (ih _ _ _ _ _ _ _ h hs hn (fun i ρ a w h hs=>?_) (fun ρ a w h hs=>hr ρ a w h hs) hP)
  show if i = id then Q .normal a w else Q (.exit i) a w
  cases hb:Nat.beq i id with
  | true=>
   rw [hb] at h
   rw [if_pos (Nat.eq_of_beq_eq_true hb)]
   exact hn _ _ _ h hs
  | false=>
   rw [hb] at h
   have:i ≠ id:=fun he=>by rw [he,Nat.beq_refl] at hb; cases hb
   rw [if_neg this]
   exact hx _ _ _ _ h hs
 | loop c ih=>
  intro n x r ρ a w Q h hs hn hx hr hP
  simp only [codeI] at h
  obtain ⟨m,h⟩:=h
  refine wp_loop_ghost (fun m a w=>∃ ρ,Sub ρ a /\ loopI (fun k ρ=>codeI P kp idJ c k x r ρ) (cleanAt kp (keyL c)) m ρ w) m ⟨_,hs.clean kp _,h⟩ ?_
  rintro m a w ⟨ρ,hs,h⟩
  cases m with
  | zero=>exact h.elim
  | succ m=>
   simp only [loopI] at h
   refine ih _ _ _ _ _ _ _ h hs (fun ρ' a' w' h' hs'=>?_) (fun i ρ a w h hs=>hx i ρ a w h hs) (fun ρ a w h hs=>hr ρ a w h hs) hP
   exact ⟨m,Nat.lt_succ_self m,_,hs'.clean kp _,h'⟩
 | rangeFunc=>intro n x r ρ a w Q h; exact h.elim
 | exit id=>intro n x r ρ a w Q h hs hn hx hr hP; exact wp_exit (hx _ _ _ _ h hs)
 | scope c ih=>intro n x r ρ a w Q h; exact h.elim
 | label=>intro n x r ρ a w Q h; exact h.elim
 | goto=>intro n x r ρ a w Q h; exact h.elim
 | ret=>intro n x r ρ a w Q h hs hn hx hr hP; exact wp_ret (hr _ _ _ h hs)
 | refuse=>intro n x r ρ a w Q h; exact h.elim
def resF (tmps:Array Value):ResultVar -> Sem Value
 | .tmp t=>pure (tmps.getD t undef)
 | .cell c t=>do loadVar t (<- asAddr (tmps.getD c undef))
theorem results_eq (fn:Func) (tmps:Array Value):results fn tmps = (do let vs <- fn.results.mapM (resF tmps); pure (if h:vs.size = 1 then vs[0] else .tuple vs)):=rfl
theorem resL_sound {a:Act}:∀ (rs:List ResultVar) (ρ:Env) (K:List Value -> WP) (w:World),resL P rs ρ K w -> Sub ρ a ->
  ∃ vs,K vs w /\ (rs.mapM (resF a.tmps)).run P w = .ok vs w
 | [],ρ,K,w,h,hs=>⟨[],h,rfl⟩
 | .tmp t::rs,ρ,K,w,h,hs=>by
  simp only [resL] at h
  cases hu:isU (gt ρ t) with
  | true=>rw [hu] at h; exact h.elim
  | false=>
   rw [hu] at h
   obtain ⟨vs,hK,hr⟩:=resL_sound rs ρ _ w h hs
   refine ⟨_,hK,?_⟩
   have:=(hs.get t).eq hu
   simp only [List.mapM_cons,Sem.run_bind,resF,Sem.run_pure,Result.andThen_ok,hr,this]
 | .cell c t::rs,ρ,K,w,h,hs=>by
  simp only [resL] at h
  obtain ⟨v,hu,h,hr1⟩:=loadI_sound h
  obtain ⟨vs,hK,hr⟩:=resL_sound rs ρ _ w h hs
  refine ⟨_,hK,?_⟩
  have hg:=(hs.get c).eq hu
  have h2:(resF a.tmps (.cell c t)).run P w = .ok v w:=by
   simp only [resF]
   rw [hg]
   unfold Instr.loadAt at hr1
   cases hx:gt ρ c <;> rw [hx] at hr1 <;> try (simp [Instr.sureAddr] at hr1; done)
   rename_i p
   cases p with
   | none=>simp [Instr.sureAddr] at hr1
   | some p=>simpa [Instr.sureAddr,asAddr] using hr1
  simp only [List.mapM_cons,Sem.run_bind,Result.andThen_ok,hr,h2,Sem.run_pure]
theorem resI_sound {a:Act} {fn:Func} {ρ:Env} {Q:Value -> WP} {w:World} (h:resI P fn.results.toList ρ Q w) (hs:Sub ρ a) :
  ∃ v,Q v w /\ (results fn a.tmps).run P w = .ok v w:=by
 obtain ⟨vs,hK,hr⟩:=resL_sound _ _ _ _ h hs
 have hr':(fn.results.mapM (resF a.tmps)).run P w = .ok vs.toArray w:=by
  rw [Array.mapM_eq_mapM_toList,Sem.run_map,hr]
  rfl
 rw [results_eq]
 rcases vs with _ | ⟨v,_ | ⟨u,vs⟩⟩
 ·refine ⟨_,hK,?_⟩
  simp only [Sem.run_bind,hr',Result.andThen_ok,Sem.run_pure]
  rfl
 ·refine ⟨_,hK,?_⟩
  simp only [Sem.run_bind,hr',Result.andThen_ok,Sem.run_pure]
  rfl
 ·refine ⟨_,hK,?_⟩
  simp only [Sem.run_bind,hr',Result.andThen_ok,Sem.run_pure]
  simp
theorem length_undefs:∀ n,(undefs n).length = n
 | 0=>rfl
 | n + 1=>by simp [undefs,length_undefs n]
theorem undefs_eq:∀ n,undefs n = List.replicate n undef
 | 0=>rfl
 | n + 1=>by simp [undefs,undefs_eq n,List.replicate_succ]
theorem gt_eq (ρ:Env) (t:Nat):gt ρ t = (ρ[t]?).getD unk:=by
 induction ρ generalizing t with
 | nil=>simp [gt]
 | cons v ρ ih=>cases t <;> simp [gt,ih]
theorem funJ_calls (hm:P.follows .mixedOrders = true) {kp:KP} {f:FuncId} {fn:Func} {args:List Value} {Q:Value -> WP} {w:World} (hf:P.funcs[f]? = some fn) (hb:fn.body.isSome = true)
  (h:funJ idJ P kp fn args Q w):Calls P f args.toArray w fun e w'=>∃ v,e = .returned v /\ Q v w':=by
 obtain ⟨c,hc⟩:=Option.isSome_iff_exists.1 hb
 unfold funJ bodyOf at h
 simp only [hc] at h
 refine calls_of_wp hf hc ?_
 have hs:Sub (args ++ undefs (fn.ntmps - args.length)) { tmps:=args.toArray ++ Array.replicate (fn.ntmps - args.toArray.size) undef,defers:=[] }:=by
  refine ⟨rfl,by simp [length_undefs],fun t=>?_⟩
  rw [gt_eq,undefs_eq]
  have:(args.toArray ++ Array.replicate (fn.ntmps - args.toArray.size) undef) = (args ++ List.replicate (fn.ntmps - args.length) undef).toArray:=by
   rw [<- Array.toList_inj]; simp
  rw [this]
  simp only [Array.getD_eq_getD_getElem?,List.getElem?_toArray]
  cases h0:(args ++ List.replicate (fn.ntmps - args.length) undef)[t]? with
  | none=>exact .inl rfl
  | some v=>exact Le.refl _
 refine codeI_sound hm c _ _ _ _ _ _ (fun e a w=>match e with
  | .panic _=>False
  | e=>bodyPost P fn (fun e w'=>∃ v,e = .returned v /\ Q v w') e a w) h hs ?_ ?_ ?_ ?_ |> fun h=>Code.wp_mono (fun e a w q=>by
   cases e <;> first | exact q | exact q.elim) h
 ·intro ρ a w h hs
  obtain ⟨v,hv,hr⟩:=resI_sound h hs
  exact ⟨hs.defers,v,hr,v,rfl,hv⟩
 ·intro i ρ a w h; exact h.elim
 ·intro ρ a w h hs
  obtain ⟨v,hv,hr⟩:=resI_sound h hs
  exact ⟨hs.defers,v,hr,v,rfl,hv⟩
 ·intro c a w h; exact h
end
structure FnOk (P:Program) (f:FuncId) (fn:Func):Prop where
 mixed:P.follows .mixedOrders = true
 func:P.funcs[f]? = some fn
 body:fn.body.isSome = true
theorem cw {P:Program} {f:FuncId} {fn:Func} {kp:KP} {args:List Value} {Q:Value -> WP} {t:WP} {w:World} (ho:FnOk P f fn) (hr:funJ idJ P kp fn args Q = t) (h:t w) :
  Calls P f args.toArray w fun e w'=>∃ v,e = .returned v /\ Q v w':=funJ_calls ho.mixed ho.func ho.body (hr ▸ h)
theorem jw {k:Nat} {c:Env -> WP} {e:Env} {t:WP} {w:World} (hr:c e = t) (h:t w):idJ k c e w:=by
 show c e w
 rw [hr]; exact h
end Go.Hb
