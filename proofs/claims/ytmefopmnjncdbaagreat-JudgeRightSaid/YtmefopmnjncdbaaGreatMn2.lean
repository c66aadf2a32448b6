import Derived.Test.YtmefopmnjncdbaaGreatMn1
set_option linter.unusedVariables false
set_option linter.unusedSimpArgs false
set_option linter.unnecessarySimpa false
set_option linter.unusedSectionVars false
set_option maxRecDepth 100000
namespace Go.Hb
section
variable {P:Program} {ρ:Env} {a:Act}
theorem run_sizeOf {t:TypeId} {n:Nat} (h:szT P t = n + 1) (w:World):(sizeOf t).run P w = .ok (n + 1) w:=by
 unfold szT at h
 split at h
 ·rename_i i hi
  simp [sizeOf,typeInfo,hi,h]
 ·cases h
theorem run_sizeOf' {t:TypeId} {i:TypeInfo} (h:P.info? t = some i) (w:World):(sizeOf t).run P w = .ok (szT P t) w:=by
 simp [sizeOf,typeInfo,szT,h]
theorem info_of_underlying {t:TypeId} {d:TypeDesc} (h:P.underlying t = some d):∃ i,P.info? t = some i:=by
 unfold Program.underlying at h
 cases hi:P.info? t with
 | some i=>exact ⟨i,rfl⟩
 | none=>rw [hi] at h; cases h
theorem run_isAgg {t:TypeId} {d:TypeDesc} (h:P.underlying t = some d) (w:World):(isAgg t).run P w = .ok (aggT P t) w:=by
 unfold isAgg aggT
 simp only [Sem.run_bind,run_underlying h,Result.andThen_ok,h]
 cases d <;> rfl
theorem unI_sound {op:UnOp} {v:Value} {K:Value -> Prop} (h:unI op v K):∃ r,K r /\ isU v = false /\ ∀ w,(Op.unary op v).run P w = .ok r w:=by
 cases op <;> simp only [unI] at h <;> try exact h.elim
 case not=>cases v <;> simp only at h <;> first | exact h.elim | exact ⟨_,h,rfl,fun w=>by simp [Op.unary]⟩
 case neg=>cases v <;> simp only at h <;> first | exact h.elim | exact ⟨_,h,rfl,fun w=>by simp [Op.unary,Op.intArith]⟩
theorem fieldOf_spec {t:TypeId} {f off ft:Nat} (h:fieldOf P t f = some (off,ft)):∃ fs:Array Field,P.underlying t = some (.struct fs) /\ ∃ g,fs[f]? = some g /\ g.offset = off /\ g.type = ft:=by
 unfold fieldOf at h
 split at h
 ·rename_i fs hfs
  split at h
  ·rename_i g hg
   simp only [Option.some.injEq,Prod.mk.injEq] at h
   exact ⟨fs,hfs,g,by rw [<- Array.getElem?_toList]; exact hg,h.1,h.2⟩
  ·cases h
 ·cases h
theorem fieldAI_sound {t:TypeId} {v:Value} {f:Nat} {K:Value -> Prop} (h:fieldAI P t v f K):∃ r,K r /\ isU v = false /\ ∀ w,(Instr.fieldAt t v f).run P w = .ok r w:=by
 unfold fieldAI at h
 split at h
 case h_2=>exact h.elim
 rename_i b o
 split at h
 case h_2=>exact h.elim
 rename_i off ft hf
 split at h
 case h_1=>exact h.elim
 rename_i n hn
 obtain ⟨fs,hu,g,hg,rfl,rfl⟩:=fieldOf_spec hf
 refine ⟨_,h,rfl,fun w=>?_⟩
 simp [Instr.fieldAt,run_underlying hu,hg,Instr.sureAddr,fieldPlace,run_sizeOf hn,Addr.add_lit]
theorem partI_sound {t:TypeId} {cs:Array Value} {off:Nat} {K:Value -> Prop} {d:TypeDesc} (hd:P.underlying t = some d) (h:partI P t cs off K):∃ r,K r /\ ∀ w,(part t cs off).run P w = .ok r w:=by
 unfold partI at h
 obtain ⟨i,hi⟩:=info_of_underlying hd
 split at h
 ·rename_i ha
  refine ⟨_,h,fun w=>?_⟩
  unfold part
  simp only [Sem.run_bind,run_isAgg hd,ha,Result.andThen_ok,if_true,run_sizeOf' hi,Sem.run_pure]
  congr 2
  rw [<- Array.toList_inj]
  simp
 ·rename_i ha
  split at h
  case h_2=>exact h.elim
  rename_i v hv
  cases hu:isU v with
  | true=>rw [hu] at h; exact h.elim
  | false=>
   rw [hu] at h
   refine ⟨_,h,fun w=>?_⟩
   have hv':cs[off]? = some v:=by rw [<- Array.getElem?_toList]; exact hv
   unfold part
   simp [run_isAgg hd,ha,hv']
theorem isSome_info {t:TypeId} (h:(P.info? t).isSome = true) (w:World):(sizeOf t).run P w = .ok (szT P t) w:=by
 obtain ⟨i,hi⟩:=Option.isSome_iff_exists.1 h
 exact run_sizeOf' hi w
theorem indexAI_sound {t:TypeId} {x i:Value} {K:Value -> Prop} (h:indexAI P t x i K):∃ r,K r /\ isU x = false /\ isU i = false /\ ∀ w,(Instr.indexAt t x i).run P w = .ok r w:=by
 unfold indexAI at h
 split at h
 case h_2=>exact h.elim
 rename_i k n
 split at h
 case h_3=>exact h.elim
 ·rename_i e he
  split at h
  case h_2=>exact h.elim
  rename_i base len cap
  cases hi:(P.info? e).isSome with
  | false=>rw [hi] at h; exact h.elim
  | true=>
   rw [hi] at h
   obtain ⟨b,o,rfl,hb,hK⟩:=h
   refine ⟨_,hK,rfl,rfl,fun w=>?_⟩
   simp only [Instr.indexAt,asIntOf,Sem.run_bind,Sem.run_pure,Result.andThen_ok,run_underlying he,hb,if_true,and_self,isSome_info hi,Addr.add_lit,Sem.run_ite]
 ·rename_i len e he
  split at h
  case h_2=>exact h.elim
  rename_i b o
  cases hi:(P.info? e).isSome with
  | false=>rw [hi] at h; exact h.elim
  | true=>
   rw [hi] at h
   obtain ⟨hb,hK⟩:=h
   refine ⟨_,hK,rfl,rfl,fun w=>?_⟩
   simp only [Instr.indexAt,asIntOf,Sem.run_bind,Sem.run_pure,Result.andThen_ok,run_underlying he,hb,if_true,and_self,isSome_info hi,Addr.add_lit,Sem.run_ite,Instr.sureAddr]
theorem indexI_sound {t:TypeId} {x i:Value} {K:Value -> Prop} (h:indexI P t x i K):∃ r,K r /\ isU x = false /\ isU i = false /\ ∀ w,(Instr.index t x i).run P w = .ok r w:=by
 unfold indexI at h
 split at h
 case h_2=>exact h.elim
 rename_i k n
 split at h
 case h_3=>exact h.elim
 ·rename_i s
  simp only [isStrT] at h
  split at h
  case h_2=>exact h.elim
  rename_i hu
  simp only [cond_true] at h
  obtain ⟨hb,hK⟩:=h
  refine ⟨_,hK,rfl,rfl,fun w=>?_⟩
  have hlt:n.toNat < s.size:=by omega
  have h1:s[n.toNat]? = some s[n.toNat]:=by
   simp [hlt]
  simp only [Instr.index,asIntOf,Sem.run_bind,Sem.run_pure,Result.andThen_ok,run_underlying hu,hb.1,if_true,h1]
  have h2:s.data.toList[n.toNat]? = some s[n.toNat]:=by
   have:n.toNat < s.data.toList.length:=by simpa using hlt
   rw [List.getElem?_eq_getElem this]; rfl
  simp only [byteAt,h2,Option.getD_some]
 ·rename_i cs
  split at h
  case h_2=>exact h.elim
  rename_i len e hu
  split at h
  case h_2=>exact h.elim
  rename_i k' hk
  cases hc:(aggT P e || !Nat.beq (szT P e) 1 || !(P.info? e).isSome) with
  | true=>rw [hc] at h; exact h.elim
  | false=>
   rw [hc] at h
   simp only [Bool.or_eq_false_iff,Bool.not_eq_eq_eq_not,Bool.not_false] at hc
   obtain ⟨⟨hag,hsz⟩,hi⟩:=hc
   have hsz':szT P e = 1:=Nat.eq_of_beq_eq_true hsz
   obtain ⟨hb,v,hv,hU,hK⟩:=h
   refine ⟨_,hK,rfl,rfl,fun w=>?_⟩
   have hd:∃ d,P.underlying e = some d:=by
    cases hd:P.underlying e with
    | some d=>exact ⟨d,rfl⟩
    | none=>simp [cks,hd] at hk
   obtain ⟨d,hd⟩:=hd
   have hv':cs[n.toNat]? = some (k'.val v):=by rw [<- Array.getElem?_toList]; exact hv
   simp [Instr.index,asIntOf,run_underlying hu,hb,isSome_info hi,hsz',part,run_isAgg hd,hag,hv']
theorem extractI_sound {x:Value} {i:Nat} {K:Value -> Prop} (h:extractI x i K):∃ r,K r /\ isU x = false /\ ∀ w,(Instr.extract x i).run P w = .ok r w:=by
 unfold extractI at h
 split at h
 case h_2=>exact h.elim
 rename_i vs
 split at h
 case h_2=>exact h.elim
 rename_i v hv
 have hv':vs[i]? = some v:=by rw [<- Array.getElem?_toList]; exact hv
 exact ⟨_,h,rfl,fun w=>by simp [Instr.extract,hv']⟩
theorem convI_sound {s d:TypeId} {x:Value} {K:Value -> Prop} (hs:(P.underlying s).isSome = true) (h:convI P d x K):∃ r,K r /\ isU x = false /\ ∀ w,(convert s d x).run P w = .ok r w:=by
 obtain ⟨sd,hs⟩:=Option.isSome_iff_exists.1 hs
 unfold convI at h
 split at h
 case h_3=>exact h.elim
 ·split at h
  case h_2=>exact h.elim
  rename_i k hd
  exact ⟨_,h,rfl,fun w=>by simp [convert,run_underlying hs,run_underlying hd,Conv.intToInt]⟩
 ·simp only [isStrT] at h
  split at h
  case h_2=>exact h.elim
  rename_i hd
  exact ⟨_,h,rfl,fun w=>by simp [convert,run_underlying hs,run_underlying hd]⟩
theorem lenI_sound {t ty:TypeId} {x:Value} {K:Value -> Prop} (h:lenI P t x K):∃ r,K r /\ isU x = false /\ ∀ w,(Builtin.len_ #[t] ty #[x]).run P w = .ok r w:=by
 unfold lenI at h
 split at h
 case h_4=>exact h.elim
 ·simp only [isStrT] at h
  split at h
  case h_2=>exact h.elim
  rename_i hd
  exact ⟨_,h,rfl,fun w=>by simp [Builtin.len_,run_underlying hd,goInt]⟩
 ·simp only [isSlcT] at h
  split at h
  case h_2=>exact h.elim
  rename_i hd
  exact ⟨_,h,rfl,fun w=>by simp [Builtin.len_,run_underlying hd,goInt]⟩
 ·split at h
  case h_2=>exact h.elim
  rename_i hd
  exact ⟨_,h,rfl,fun w=>by simp [Builtin.len_,run_underlying hd,goInt]⟩
theorem maxI_sound {ts:Array TypeId} {ty:TypeId} {x y:Value} {K:Value -> Prop} (h:maxI x y K):∃ r,K r /\ isU x = false /\ isU y = false /\ ∀ w,(Builtin.max_ ts ty #[x,y]).run P w = .ok r w:=by
 unfold maxI at h
 split at h
 case h_2=>exact h.elim
 split at h
 case h_2=>exact h.elim
 exact ⟨_,h,rfl,rfl,fun w=>by simp [Builtin.max_,Builtin.max2]⟩
theorem minI_sound {ts:Array TypeId} {ty:TypeId} {x y:Value} {K:Value -> Prop} (h:minI x y K):∃ r,K r /\ isU x = false /\ isU y = false /\ ∀ w,(Builtin.min_ ts ty #[x,y]).run P w = .ok r w:=by
 unfold minI at h
 split at h
 case h_2=>exact h.elim
 split at h
 case h_2=>exact h.elim
 exact ⟨_,h,rfl,rfl,fun w=>by simp [Builtin.min_,Builtin.min2]⟩
theorem min4I_sound {ts:Array TypeId} {ty:TypeId} {x y z u:Value} {K:Value -> Prop} (h:min4I x y z u K):∃ r,K r /\ isU x = false /\ isU y = false /\ isU z = false /\ isU u = false /\ ∀ w,(Builtin.min_ ts ty #[x,y,z,u]).run P w = .ok r w:=by
 unfold min4I at h
 split at h
 case h_2=>exact h.elim
 split at h
 case h_2=>exact h.elim
 split at h
 case h_2=>exact h.elim
 split at h
 case h_2=>exact h.elim
 exact ⟨_,h,rfl,rfl,rfl,rfl,fun w=>by simp [Builtin.min_,Builtin.min2,mn] <;> rfl⟩
theorem nilckI_sound {v:Value} {K:Value -> Prop} (h:nilckI v K):∃ b o,v = .pointer (some ⟨b,o,none⟩) /\ K v:=by
 unfold nilckI at h
 split at h
 case h_2=>exact h.elim
 obtain ⟨b,o,rfl,hK⟩:=h
 exact ⟨b,o,rfl,hK⟩
theorem loB_sound {v:Option Value} {h:Nat} {K:Nat -> Prop} {m:Bool} (hh:loB v h K):∃ l,K l /\ l <= h /\ (∀ x,v = some x -> isU x = false) /\ ∀ w,(match v with
  | some v=>Instr.sliceBound v h (if m then .slice3C else .sliceB)
  | none=>(pure 0:Sem Nat)).run P w = .ok l w:=by
 unfold loB at hh
 split at hh
 case h_3=>exact hh.elim
 ·exact ⟨_,hh,Nat.zero_le _,by simp,fun w=>rfl⟩
 ·obtain ⟨hb,hK⟩:=hh
  exact ⟨_,hK,by omega,by rintro x ⟨⟩; rfl,fun w=>by simp [Instr.sliceBound,asIntOf,hb]⟩
theorem sliceI_sound {t:TypeId} {x:Value} {lo hi mx:Option Value} {K:Value -> Prop} (h:sliceI P t x lo hi mx K) :
  ∃ r,K r /\ isU x = false /\ (∀ y,lo = some y -> isU y = false) /\ (∀ y,hi = some y -> isU y = false) /\ (∀ y,mx = some y -> isU y = false) /\ ∀ w,(Instr.sliceAt t x lo hi mx).run P w = .ok r w:=by
 unfold sliceI at h
 split at h
 case h_3=>exact h.elim
 ·rename_i s
  simp only [isStrT] at h
  split at h
  case h_2=>exact h.elim
  rename_i hd
  simp only [cond_true] at h
  cases mx with
  | some m=>exact h.elim
  | none=>
   have key:∃ u,(∃ l,K (.string (s.extract l u)) /\ (∀ y,lo = some y -> isU y = false) /\ ∀ w,(match lo with
     | some v=>Instr.sliceBound v u (if (none:Option Value).isSome then .slice3C else .sliceB)
     | none=>(pure 0:Sem Nat)).run P w = .ok l w) /\ (∀ y,hi = some y -> isU y = false) /\ ∀ w,(match hi with
     | some v=>Instr.sliceBound v s.size .sliceAlen
     | none=>(pure s.size:Sem Nat)).run P w = .ok u w:=by
    simp only [hiB] at h
    split at h
    case h_3=>exact h.elim
    ·obtain ⟨l,hK,_,hU,hl⟩:=loB_sound (P:=P) (m:=(none:Option Value).isSome) h
     exact ⟨s.size,⟨l,hK,hU,hl⟩,by simp,fun w=>rfl⟩
    ·obtain ⟨hb,h⟩:=h
     obtain ⟨l,hK,_,hU,hl⟩:=loB_sound (P:=P) (m:=(none:Option Value).isSome) h
     exact ⟨_,⟨l,hK,hU,hl⟩,by rintro x ⟨⟩; rfl,fun w=>by simp [Instr.sliceBound,asIntOf,hb]⟩
   obtain ⟨u,⟨l,hK,hU,hl⟩,hU',hu⟩:=key
   refine ⟨_,hK,rfl,hU,hU',by simp,fun w=>?_⟩
   cases hi <;> cases lo <;> simp only [Option.isSome_none,Bool.false_eq_true,if_false] at hu hl <;>
    simp only [Instr.sliceAt,Instr.slice,Sem.run_bind,run_underlying hd,Result.andThen_ok,Instr.sliceBounds,hu,hl,Sem.run_pure,Option.isSome_none,Bool.false_eq_true,if_false]
 ·rename_i base n c
  split at h
  case h_2=>exact h.elim
  rename_i e hd
  cases hi':(P.info? e).isSome with
  | false=>rw [hi'] at h; exact h.elim
  | true=>
   rw [hi'] at h
   simp only [cond_true] at h
   have key:∃ m u,(∃ l,K (.slice (subA base l m (szT P e)) (u - l) (m - l)) /\ (∀ y,lo = some y -> isU y = false) /\ ∀ w,(match lo with
     | some v=>Instr.sliceBound v u (if mx.isSome then .slice3C else .sliceB)
     | none=>(pure 0:Sem Nat)).run P w = .ok l w) /\ (∀ y,hi = some y -> isU y = false) /\ (∀ y,mx = some y -> isU y = false) /\ (∀ w,(match mx with
     | some v=>Instr.sliceBound v c .slice3Acap
     | none=>(pure c:Sem Nat)).run P w = .ok m w) /\ (∀ w,(match hi,mx with
     | some v,some _=>Instr.sliceBound v m .slice3B
     | some v,none=>Instr.sliceBound v m .sliceAcap
     | none,none=>(pure n:Sem Nat)
     | none, some _ => stuck "Slice: max without high").run P w = .ok u w) := by
    split at h
    ·split at h
     case h_2=>exact h.elim
     obtain ⟨l,hK,_,hU,hl⟩:=loB_sound (P:=P) (m:=(none:Option Value).isSome) h
     exact ⟨c,n,⟨l,hK,hU,hl⟩,by simp,by simp,fun w=>rfl,fun w=>rfl⟩
    ·simp only [mxB] at h
     split at h
     case h_3=>exact h.elim
     ·simp only [hiB] at h
      split at h
      case h_1=>rename_i hx; cases hx
      case h_3=>exact h.elim
      cases ‹some _ = some (Value.int _ _)›
      obtain ⟨hb,h⟩:=h
      obtain ⟨l,hK,_,hU,hl⟩:=loB_sound (P:=P) (m:=(none:Option Value).isSome) h
      exact ⟨c,_,⟨l,hK,hU,hl⟩,by rintro x ⟨⟩; rfl,by simp,fun w=>rfl,fun w=>by simp [Instr.sliceBound,asIntOf,hb]⟩
     ·rename_i k i
      obtain ⟨hb0,h⟩:=h
      simp only [hiB] at h
      split at h
      case h_1=>rename_i hx; cases hx
      case h_3=>exact h.elim
      cases ‹some _ = some (Value.int _ _)›
      obtain ⟨hb,h⟩:=h
      obtain ⟨l,hK,_,hU,hl⟩:=loB_sound (P:=P) (m:=(some (Value.int k i):Option Value).isSome) h
      exact ⟨_,_,⟨l,hK,hU,hl⟩,by rintro x ⟨⟩; rfl,by rintro x ⟨⟩; rfl,fun w=>by simp [Instr.sliceBound,asIntOf,hb0],fun w=>by simp [Instr.sliceBound,asIntOf] ; omega⟩
   obtain ⟨m,u,⟨l,hK,hU,hl⟩,hU',hU'',hm,hu⟩:=key
   refine ⟨_,hK,rfl,hU,hU',hU'',fun w=>?_⟩
   cases hi <;> cases lo <;> cases mx <;> simp only [Option.isSome_none,Option.isSome_some,Bool.false_eq_true,if_false,if_true] at hm hu hl <;>
    simp only [Instr.sliceAt,Instr.slice,Sem.run_bind,run_underlying hd,Result.andThen_ok,Instr.sliceBounds,if_true,hm,hu,hl,Sem.run_pure,isSome_info hi',subA,Option.isSome_none,Option.isSome_some,Bool.false_eq_true,if_false]
end
end Go.Hb
namespace Go.Hb
theorem pt_eq (l:Env) (t:Nat) (v:Value):pt l t v = l.set t v:=by
 induction l generalizing t with
 | nil=>cases t <;> rfl
 | cons x l ih=>cases t with
  | zero=>rfl
  | succ t=>simp [pt,ih]
theorem lays_foldl (off:Nat):∀ (vs:List Value) (k:Nat) (A:Array Value),
  (vs.zipIdx k).foldl (fun cs p=>cs.setIfInBounds (off + p.2) p.1) A = (laysL A.toList (off + k) vs).toArray
 | [],_,A=>by simp [laysL]
 | v::vs,k,A=>by
  simp only [List.zipIdx_cons,List.foldl_cons,laysL]
  rw [lays_foldl off vs (k + 1)]
  simp [pt_eq,Nat.add_assoc]
theorem cellsL_eq (v:Value):v.cells = (cellsL v).toArray:=by
 cases v <;> simp [Value.cells,cellsL]
theorem fillL_sound {place:Nat -> Option (Nat × Nat)}:∀ (parts:List (Nat × Value)) (cells r:List Value),fillL place cells parts = some r ->
  Instr.fill place cells.toArray parts = some r.toArray /\ ∀ p ∈ parts,isU p.2 = false
 | [],cells,r,h=>by simp [fillL] at h; simp [Instr.fill,h]
 | (i,v)::rest,cells,r,h=>by
  simp only [fillL] at h
  split at h
  ·cases h
  rename_i off size hp
  cases hc:(isU v || !(Nat.beq (cellsL v).length size) || !(Nat.ble (off + size) cells.length)) with
  | true=>rw [hc] at h; cases h
  | false=>
   rw [hc] at h
   simp only [cond_false] at h
   simp only [Bool.or_eq_false_iff,Bool.not_eq_eq_eq_not,Bool.not_false] at hc
   obtain ⟨⟨hu,hs⟩,hl⟩:=hc
   have hs':(cellsL v).length = size:=Nat.eq_of_beq_eq_true hs
   have hl':off + size <= cells.length:=Nat.le_of_ble_eq_true hl
   have ih:=fillL_sound rest _ r h
   refine ⟨?_,?_⟩
   ·simp only [Instr.fill,hp]
    have h1:v.cells.size = size:=by rw [cellsL_eq]; simpa using hs'
    rw [if_neg (by simp [h1]; omega)]
    have h2:v.cells.zipIdx.foldl (fun cs (x:Value × Nat)=>cs.setIfInBounds (off + x.2) x.1) cells.toArray = (laysL cells off (cellsL v)).toArray:=by
     rw [<- Array.foldl_toList,cellsL_eq,Array.toList_zipIdx]
     simpa using lays_foldl off (cellsL v) 0 cells.toArray
    exact (congrArg (fun z=>Instr.fill place z rest) h2).trans ih.1
   ·intro p hp'
    cases hp' with
    | head=>exact hu
    | tail _ h'=>exact ih.2 p h'
section
variable {P:Program} {ρ:Env} {a:Act}
theorem run_places (w:World):∀ (l:List Field),(l.all fun f=>(P.info? f.type).isSome) = true ->
  (l.mapM (fun f=>do pure (f.offset,<- sizeOf f.type):Field -> Sem (Nat × Nat))).run P w = .ok (l.map fun f=>(f.offset,szT P f.type)) w
 | [],_=>by simp
 | f::l,h=>by
  simp only [List.all_cons,Bool.and_eq_true] at h
  have ih:=run_places w l h.2
  simp only [List.mapM_cons,Sem.run_bind,isSome_info h.1,ih,Result.andThen_ok,Sem.run_pure,List.map_cons]
theorem run_placesA (w:World) (fs:Array Field) (h:(fs.toList.all fun f=>(P.info? f.type).isSome) = true) :
  (fs.mapM (fun f=>do pure (f.offset,<- sizeOf f.type):Field -> Sem (Nat × Nat))).run P w = .ok (fs.toList.map fun f=>(f.offset,szT P f.type)).toArray w:=by
 rw [Array.mapM_eq_mapM_toList,Sem.run_map,run_places w _ h]
 rfl
theorem zeroL_sound {t:TypeId} {z:List Value} (h:zeroL P t = some z):∃ v,(∀ w,(zeroValue t).run P w = .ok v w) /\ v.cells = z.toArray:=by
 unfold zeroL at h
 split at h
 case h_2=>cases h
 rename_i i hi
 split at h
 case h_2=>cases h
 rename_i v hv
 refine ⟨v,fun w=>by simp [zeroValue,typeInfo,hi,hv],?_⟩
 rw [cellsL_eq,Option.some.inj h]
theorem buildL_sound {t:TypeId} {parts:List (Nat × Value)} {r:List Value} (h:buildL P t parts = some r) :
  (∀ p ∈ parts,isU p.2 = false) /\ ∀ w,(Instr.build t parts.toArray).run P w = .ok (.agg r.toArray) w:=by
 unfold buildL at h
 split at h
 ·cases h
 rename_i z hz
 obtain ⟨v,hv,hvc⟩:=zeroL_sound hz
 split at h
 case h_3=>cases h
 ·rename_i fs hu
  cases hall:(fs.toList.all fun f=>(P.info? f.type).isSome) with
  | false=>rw [hall] at h; cases h
  | true=>
   rw [hall] at h
   obtain ⟨h1,h2⟩:=fillL_sound _ _ _ h
   refine ⟨h2,fun w=>?_⟩
   have h3:(fun i=>((fs.toList.map fun f=>(f.offset,szT P f.type)).toArray)[i]?) = placesF P fs.toList:=by
    funext i
    simp only [List.getElem?_toArray,List.getElem?_map,placesF]
    cases fs.toList[i]? <;> rfl
   simp only [Instr.build,Sem.run_bind,hv,Result.andThen_ok,run_underlying hu,run_placesA _ _ hall,hvc,h3,h1,Sem.run_pure]
 ·rename_i n e hu
  cases hi:(P.info? e).isSome with
  | false=>rw [hi] at h; cases h
  | true=>
   rw [hi] at h
   obtain ⟨h1,h2⟩:=fillL_sound _ _ _ h
   refine ⟨h2,fun w=>?_⟩
   simp only [Instr.build,Sem.run_bind,hv,Result.andThen_ok,run_underlying hu,hvc,isSome_info hi,h1,Sem.run_pure]
theorem evParts_eq (hs:Sub ρ a):∀ (l:List (Nat × Operand)),(∀ p ∈ evParts ρ l,isU p.2 = false) -> l.map (fun p=>(p.1,a.eval p.2)) = evParts ρ l
 | [],_=>rfl
 | (i,x)::l,h=>by
  simp only [List.map_cons,evParts]
  rw [evParts_eq hs l (fun p hp=>h p (.tail _ hp)),ev_eq hs rfl (h (i,ev ρ x) (.head _))]
theorem evO_eq (hs:Sub ρ a) {o:Option Operand} (h:∀ y,evO ρ o = some y -> isU y = false):o.map a.eval = evO ρ o:=by
 cases o with
 | none=>rfl
 | some x=>simp only [Option.map_some,evO]; rw [ev_eq hs rfl (h _ rfl)]
theorem run_v {s:Sem Value} {r:Value} {w:World} (h:s.run P w = .ok r w):((do pure (Next.value (<- s)):Sem Next)).run P w = .ok (.value r) w:=by
 simp [h]
theorem pureI_sound {o:Oper} {F:(Value -> Prop) -> Prop} {K:Value -> Prop} (hF:pureI P ρ o.op = some F) (h:F K) (hs:Sub ρ a) :
  ∃ v v',Le v v' /\ K v /\ Gives P o a v':=by
 obtain ⟨dst,op,ty,pos,after,guard⟩:=o
 unfold Gives
 cases op <;> simp only [pureI] at hF <;> try (cases hF; done)
 case move x=>cases hF; exact ⟨_,_,ev_le hs x,h,fun w=>by simp [execOp]⟩
 case assign x=>cases hF; exact ⟨_,_,ev_le hs x,h,fun w=>by simp [execOp]⟩
 case pick c x y=>
  cases hF
  unfold pickI at h
  split at h
  case h_2=>exact h.elim
  rename_i t hc
  have hc':=ev_eq hs hc rfl
  cases t with
  | true=>exact ⟨_,_,ev_le hs x,h,fun w=>by simp [execOp,hc',asBool]⟩
  | false=>exact ⟨_,_,ev_le hs y,h,fun w=>by simp [execOp,hc',asBool]⟩
 case nilCheck x=>
  cases hF
  obtain ⟨b,o,hv,hK⟩:=nilckI_sound h
  have hx:=ev_eq hs hv rfl
  exact ⟨_,_,Le.refl _,hK,fun w=>by simp [execOp,hx,hv]⟩
 case binOp op t x y t2=>
  have gen:binI P op t (ev ρ x) (ev ρ y) K -> ∃ v v',Le v v' /\ K v /\ ∀ w,(execOp a.eval ⟨dst,.binOp op t x y t2,ty,pos,after,guard⟩).run P w = .ok (.value v') w:=fun h=>by
   obtain ⟨r,hK,hu,hv,hw⟩:=binI_sound (x:=x) (y:=y) h
   exact ⟨_,_,Le.refl _,hK,fun w=>by simp only [execOp]; rw [ev_eq hs rfl hu,ev_eq hs rfl hv]; exact run_v (hw w)⟩
  have spec:∀ r,K r -> isU (ev ρ x) = false -> (∀ w,((do eqGuard op t x y (ev ρ x) (a.eval y); binOp op t (ev ρ x) (a.eval y):Sem Value)).run P w = .ok r w) -> ∃ v v',Le v v' /\ K v /\ ∀ w,(execOp a.eval ⟨dst,.binOp op t x y t2,ty,pos,after,guard⟩).run P w = .ok (.value v') w:=fun r hK hu hw=>
   ⟨_,_,Le.refl _,hK,fun w=>by simp only [execOp]; rw [ev_eq hs rfl hu]; exact run_v (hw w)⟩
  cases y with
  | const c=>
   by_cases h1:c = .nilIface
   ·subst h1
    cases hF
    obtain ⟨r,hK,hu,hw⟩:=nilI_sound (x:=x) h
    exact spec r hK hu hw
   by_cases h2:c = .nilFunc
   ·subst h2
    cases hF
    obtain ⟨r,hK,hu,hw⟩:=nilFI_sound (x:=x) h
    exact spec r hK hu hw
   have hF':some (binI P op t (ev ρ x) c) = some F:=by
    rw [<- hF]
    cases c <;> first | rfl | exact absurd rfl h1 | exact absurd rfl h2
   cases hF'
   exact gen h
  | tmp t=>cases hF; exact gen h
  | global g=>cases hF; exact gen h
  | func f=>cases hF; exact gen h
 case makeInterface t x=>
  cases hF
  cases hc:((P.underlying t).isSome && !isIfcT P t && !isU (ev ρ x)) with
  | false=>rw [hc] at h; exact h.elim
  | true=>
   rw [hc] at h
   simp only [Bool.and_eq_true,Bool.not_eq_eq_eq_not,Bool.not_true] at hc
   obtain ⟨d,hd⟩:=Option.isSome_iff_exists.1 hc.1.1
   have hni:=hc.1.2
   have hr:∀ w,(Instr.makeInterface t (ev ρ x)).run P w = .ok (.iface t (ev ρ x)) w:=by
    intro w
    unfold isIfcT at hni
    rw [hd] at hni
    unfold Instr.makeInterface
    simp only [Sem.run_bind,run_underlying hd,Result.andThen_ok]
    cases d <;> first | rfl | cases hni
   exact ⟨_,_,Le.refl _,h,fun w=>by simp only [execOp]; rw [ev_eq hs rfl hc.2]; exact run_v (hr w)⟩
 case unOp op t x=>
  cases hF
  obtain ⟨r,hK,hu,hw⟩:=unI_sound h
  exact ⟨_,_,Le.refl _,hK,fun w=>by simp only [execOp]; rw [ev_eq hs rfl hu]; exact run_v (hw w)⟩
 case convert s d x=>
  split at hF
  case h_3=>cases hF
  ·rename_i k n hx
   cases hsrc:(P.underlying s).isSome with
   | false=>rw [hsrc] at hF; cases hF
   | true=>
    rw [hsrc] at hF
    cases hF
    have h':convI P d (.int k n) K:=h
    obtain ⟨r,hK,hu,hw⟩:=convI_sound hsrc h'
    exact ⟨_,_,Le.refl _,hK,fun w=>by simp only [execOp]; rw [ev_eq hs hx rfl]; exact run_v (hw w)⟩
  ·rename_i b hx
   cases hst:isStrT P s with
   | false=>rw [hst] at hF; cases hF
   | true=>
    rw [hst] at hF
    cases hsd:isStrT P d with
    | false=>rw [hsd] at hF; cases hF
    | true=>
     rw [hsd] at hF
     cases hF
     have hsrc:(P.underlying s).isSome = true:=by
      unfold isStrT at hst
      split at hst
      ·rename_i he; simp [he]
      ·cases hst
     obtain ⟨r,hK,hu,hw⟩:=convI_sound hsrc h
     exact ⟨_,_,Le.refl _,hK,fun w=>by simp only [execOp]; rw [ev_eq hs hx rfl]; exact run_v (hw w)⟩
 case slice t x lo hi mx=>
  cases hF
  obtain ⟨r,hK,hu,h1,h2,h3,hw⟩:=sliceI_sound h
  exact ⟨_,_,Le.refl _,hK,fun w=>by simp only [execOp]; rw [ev_eq hs rfl hu,evO_eq hs h1,evO_eq hs h2,evO_eq hs h3]; exact run_v (hw w)⟩
 case fieldAddr t x f=>
  cases hF
  obtain ⟨r,hK,hu,hw⟩:=fieldAI_sound h
  exact ⟨_,_,Le.refl _,hK,fun w=>by simp only [execOp]; rw [ev_eq hs rfl hu]; exact run_v (hw w)⟩
 case field t x f=>
  cases hF
  have key:∃ r,K r /\ isU (ev ρ x) = false /\ ∀ w,(Instr.field t (ev ρ x) f).run P w = .ok r w:=by
   unfold fieldI at h
   split at h
   case h_2=>exact h.elim
   rename_i cs hx
   split at h
   case h_2=>exact h.elim
   rename_i off ft hf
   obtain ⟨fs,hu,g,hg,rfl,rfl⟩:=fieldOf_spec hf
   cases hd:P.underlying g.type with
   | none=>rw [hd] at h; exact h.elim
   | some d=>
    rw [hd] at h
    obtain ⟨r,hK,hw⟩:=partI_sound hd h
    exact ⟨r,hK,by rw [hx]; rfl,fun w=>by simp [Instr.field,run_underlying hu,hg,asAgg,hx,hw]⟩
  obtain ⟨r,hK,hu,hw⟩:=key
  exact ⟨_,_,Le.refl _,hK,fun w=>by simp only [execOp]; rw [ev_eq hs rfl hu]; exact run_v (hw w)⟩
 case indexAddr t x i=>
  cases hF
  obtain ⟨r,hK,hu,hv,hw⟩:=indexAI_sound h
  exact ⟨_,_,Le.refl _,hK,fun w=>by simp only [execOp]; rw [ev_eq hs rfl hu,ev_eq hs rfl hv]; exact run_v (hw w)⟩
 case index t x i=>
  cases hF
  obtain ⟨r,hK,hu,hv,hw⟩:=indexI_sound h
  exact ⟨_,_,Le.refl _,hK,fun w=>by simp only [execOp]; rw [ev_eq hs rfl hu,ev_eq hs rfl hv]; exact run_v (hw w)⟩
 case extract x i=>
  cases hF
  obtain ⟨r,hK,hu,hw⟩:=extractI_sound h
  exact ⟨_,_,Le.refl _,hK,fun w=>by simp only [execOp]; rw [ev_eq hs rfl hu]; exact run_v (hw w)⟩
 case build t ps=>
  cases hF
  unfold buildI at h
  split at h
  case h_2=>exact h.elim
  rename_i cs hb
  obtain ⟨h1,h2⟩:=buildL_sound hb
  refine ⟨_,_,Le.refl _,h,fun w=>?_⟩
  have he:(ps.map fun (x:Nat × Operand)=>(x.1,a.eval x.2)) = (evParts ρ ps.toList).toArray:=by
   rw [<- evParts_eq hs _ h1,<- Array.toList_inj]; simp
  have:=h2 w
  rw [<- he] at this
  exact run_v this
 case call c=>
  obtain ⟨callee,args,ats⟩:=c
  simp only at hF
  split at hF
  case h_2=>cases hF
  rename_i b
  have hmap1:∀ x,args.toList = [x] -> isU (ev ρ x) = false -> args.map a.eval = #[ev ρ x]:=by
   intro x hx hu
   rw [<- Array.toList_inj]; simp [hx,ev_eq hs rfl hu]
  have hmap2:∀ x y,args.toList = [x,y] -> isU (ev ρ x) = false -> isU (ev ρ y) = false -> args.map a.eval = #[ev ρ x,ev ρ y]:=by
   intro x y hx hu hv
   rw [<- Array.toList_inj]; simp [hx,ev_eq hs rfl hu,ev_eq hs rfl hv]
  split at hF
  case h_4=>cases hF
  ·split at hF
   case h_2=>cases hF
   rename_i x hx
   split at hF
   case h_2=>cases hF
   rename_i t ht
   cases hF
   obtain ⟨r,hK,hu,hw⟩:=lenI_sound (ty:=ty) h
   have hats:ats = #[t]:=by rw [<- Array.toList_inj]; exact ht
   refine ⟨_,_,Le.refl _,hK,fun w=>?_⟩
   simp only [execOp,resolve,hmap1 x hx hu,Sem.run_bind,Sem.run_pure,Result.andThen_ok,invoke,builtin,hats,hw]
  ·split at hF
   case h_2=>cases hF
   rename_i x y hx
   cases hF
   obtain ⟨r,hK,hu,hv,hw⟩:=maxI_sound (P:=P) (ts:=ats) (ty:=ty) h
   refine ⟨_,_,Le.refl _,hK,fun w=>?_⟩
   simp only [execOp,resolve,hmap2 x y hx hu hv,Sem.run_bind,Sem.run_pure,Result.andThen_ok,invoke,builtin,hw]
  ·split at hF
   case h_3=>cases hF
   ·rename_i x y hx
    cases hF
    obtain ⟨r,hK,hu,hv,hw⟩:=minI_sound (P:=P) (ts:=ats) (ty:=ty) h
    refine ⟨_,_,Le.refl _,hK,fun w=>?_⟩
    simp only [execOp,resolve,hmap2 x y hx hu hv,Sem.run_bind,Sem.run_pure,Result.andThen_ok,invoke,builtin,hw]
   ·rename_i x y z u hx
    cases hF
    obtain ⟨r,hK,h1,h2,h3,h4,hw⟩:=min4I_sound (P:=P) (ts:=ats) (ty:=ty) h
    refine ⟨_,_,Le.refl _,hK,fun w=>?_⟩
    have hm:args.map a.eval = #[ev ρ x,ev ρ y,ev ρ z,ev ρ u]:=by
     rw [<- Array.toList_inj]; simp [hx,ev_eq hs rfl h1,ev_eq hs rfl h2,ev_eq hs rfl h3,ev_eq hs rfl h4]
    simp only [execOp,resolve,hm,Sem.run_bind,Sem.run_pure,Result.andThen_ok,invoke,builtin,hw]
end
end Go.Hb
namespace Go.Hb
section
variable {P:Program} {ρ:Env} {a:Act} {w:World}
theorem un_val {k:CK} {v:Value} {x:k.ty} (h:k.un v = some x):v = k.val x:=by
 cases k with
 | int k=>
  cases v <;> simp [CK.un] at h
  rename_i k' n
  cases hk:kEq k k' with
  | false=>rw [hk] at h; cases h
  | true=>
   rw [hk] at h
   obtain rfl:=kEq_eq hk
   cases h
   rfl
 | bool=>cases v <;> simp [CK.un] at h; subst h; rfl
 | str=>cases v <;> simp [CK.un] at h; subst h; rfl
 | ptr=>cases v <;> simp [CK.un] at h; subst h; rfl
 | slc=>cases v <;> simp [CK.un] at h; subst h; rfl
 | any=>
  simp only [CK.un] at h
  cases hu:isU v with
  | true=>rw [hu] at h; cases h
  | false=>rw [hu] at h; cases h; rfl
theorem ld_sound {k:CK} {b o:Nat} {K:k.ty -> WP} (h:ld k b o K w):∃ x,w.cell? ⟨b,o,none⟩ = some (k.val x) /\ K x w:=by
 unfold ld at h
 split at h
 case h_2=>exact h.elim
 rename_i x hx
 cases hc:w.cell? ⟨b,o,none⟩ with
 | none=>rw [hc] at hx; cases hx
 | some v=>
  rw [hc] at hx
  exact ⟨x,by rw [un_val hx],h⟩
theorem ldF_sound {b o:Nat} {N:WP} {K:TypeId -> Value -> WP} (h:ldF b o N K w):∃ x,w.cell? ⟨b,o,none⟩ = some x /\ ((x = .nilIface /\ N w) \/ ∃ t v,x = .iface t v /\ K t v w):=by
 unfold ldF at h
 split at h
 ·rename_i hc; exact ⟨_,hc,.inl ⟨rfl,h⟩⟩
 ·rename_i t v hc; exact ⟨_,hc,.inr ⟨t,v,rfl,h⟩⟩
 ·exact h.elim
theorem mem_mapF {K:FuncId -> WP} {p:FuncId × WP}:∀ {l:List FuncId},p ∈ mapF K l -> p.2 = K p.1
 | [],h=>by cases h
 | f::l,h=>by
  simp only [mapF] at h
  cases h with
  | head=>rfl
  | tail _ h=>exact mem_mapF h
theorem ldV_sound {b o:Nat} {K:Value -> WP} {l:List FuncId} (h:ldV b o (K .nilFunc) (mapF (fun f=>K (.func (.func f) #[] #[])) l) w):∃ x,w.cell? ⟨b,o,none⟩ = some x /\ K x w:=by
 unfold ldV at h
 split at h
 ·rename_i hc; exact ⟨_,hc,h⟩
 ·rename_i f first cap hc
  obtain ⟨rfl,rfl,p,hp,rfl,hK⟩:=h
  rw [mem_mapF hp] at hK
  exact ⟨_,hc,hK⟩
 ·exact h.elim
theorem lds_sound:∀ (ks:List CK) (b o:Nat) (K:List Value -> WP),lds ks b o K w -> ∃ vs,vs.length = ks.length /\ K vs w /\ ∀ (j:Nat) v,vs[j]? = some v -> w.cell? ⟨b,o + j,none⟩ = some v
 | [],_,_,_,h=>⟨[],rfl,h,by simp⟩
 | k::ks,b,o,K,h=>by
  simp only [lds] at h
  obtain ⟨x,hx,h⟩:=ld_sound h
  obtain ⟨vs,hl,hK,hc⟩:=lds_sound ks b (o + 1) _ h
  refine ⟨_,by simp [hl],hK,fun j v hj=>?_⟩
  cases j with
  | zero=>simp at hj; subst hj; exact hx
  | succ j=>
   have:=hc j v (by simpa using hj)
   rwa [show o + 1 + j = o + (j + 1) by omega] at this
theorem loadVar_one {t:TypeId} {b o:Nat} {v:Value} {d:TypeDesc} (hd:P.underlying t = some d) (ha:aggT P t = false) (hc:w.cell? ⟨b,o,none⟩ = some v) :
  (loadVar t ⟨b,o,none⟩).run P w = .ok v w:=by
 simp [loadVar,run_isAgg hd,ha,hc]
theorem loadVar_agg {t:TypeId} {b o:Nat} {vs:List Value} {d:TypeDesc} (hd:P.underlying t = some d) (hi:(P.info? t).isSome = true) (ha:aggT P t = true) (hl:szT P t = vs.length)
  (hc:∀ (j:Nat) v,vs[j]? = some v -> w.cell? ⟨b,o + j,none⟩ = some v) :
  (loadVar t ⟨b,o,none⟩).run P w = .ok (.agg vs.toArray) w:=by
 have h1:=run_loadCells_list (P:=P) w ⟨b,o,none⟩ vs (fun j v hj=>by rw [Addr.add_lit]; exact hc j v hj)
 simp only [loadVar,Sem.run_bind,run_isAgg hd,ha,Result.andThen_ok,if_true,isSome_info hi,hl,h1,Sem.run_pure]
theorem loadI_sound {t:TypeId} {x:Value} {K:Value -> WP} (h:loadI P t x K w):∃ v,isU x = false /\ K v w /\ (Instr.loadAt t x).run P w = .ok v w:=by
 unfold loadI at h
 cases x <;> try exact h.elim
 rename_i p
 rcases p with _ | ⟨b,o,_ | _⟩ <;> try exact h.elim
 cases hk:cks P 9 t with
 | none=>simp only [hk] at h; exact h.elim
 | some ks=>
 simp only [hk] at h
 cases hc:((P.underlying t).isSome && (P.info? t).isSome && Nat.beq (szT P t) ks.length) with
 | false=>rw [hc] at h; exact h.elim
 | true=>
  rw [hc] at h
  simp only [Bool.and_eq_true] at hc
  obtain ⟨⟨hd,hi⟩,hl⟩:=hc
  obtain ⟨d,hd⟩:=Option.isSome_iff_exists.1 hd
  have hl':szT P t = ks.length:=Nat.eq_of_beq_eq_true hl
  simp only [cond_true] at h
  cases ha:aggT P t with
  | true=>
   simp only [ha] at h
   obtain ⟨vs,hvl,hK,hcs⟩:=lds_sound _ _ _ _ h
   exact ⟨_,rfl,hK,by
    simp only [Instr.loadAt,Instr.sureAddr,Sem.run_bind,Sem.run_pure,Result.andThen_ok]
    exact loadVar_agg hd hi ha (by rw [hl',hvl]) hcs⟩
  | false=>
   simp only [ha] at h
   rcases ks with _ | ⟨k,_ | _⟩ <;> try exact h.elim
   cases hif:isIfcT P t with
   | false=>
    simp only [hif] at h
    cases hfu:isFunT P t with
    | false=>
     simp only [hfu] at h
     obtain ⟨x,hx,hK⟩:=ld_sound h
     exact ⟨_,rfl,hK,by
      simp only [Instr.loadAt,Instr.sureAddr,Sem.run_bind,Sem.run_pure,Result.andThen_ok]
      exact loadVar_one hd ha hx⟩
    | true=>
     simp only [hfu] at h
     obtain ⟨x,hx,hK⟩:=ldV_sound h
     exact ⟨_,rfl,hK,by
      simp only [Instr.loadAt,Instr.sureAddr,Sem.run_bind,Sem.run_pure,Result.andThen_ok]
      exact loadVar_one hd ha hx⟩
   | true=>
    simp only [hif] at h
    obtain ⟨x,hx,hK⟩:=ldF_sound h
    refine ⟨_,rfl,?_,by
     simp only [Instr.loadAt,Instr.sureAddr,Sem.run_bind,Sem.run_pure,Result.andThen_ok]
     exact loadVar_one hd ha hx⟩
    rcases hK with ⟨rfl,hK⟩ | ⟨t',v',rfl,hK⟩ <;> exact hK
theorem okC_one {v:Value} {l:List Value} (h:okC (v::l) = true):v.oneCell' = true /\ okC l = true:=by
 cases v <;> simp_all [okC,Value.oneCell']
theorem sts_sound:∀ (vs:List Value) (b o:Nat) (K:WP) (w:World),sts vs b o K w -> okC vs = true -> ∃ w',K w' /\ ∀ base i,base + i = o -> (storeCells ⟨b,base,none⟩ vs i).run P w = .ok () w'
 | [],_,_,_,w,h,_=>⟨w,h,fun _ _ _=>by simp [storeCells]⟩
 | v::vs,b,o,K,w,h,hk=>by
  obtain ⟨h1,h2⟩:=okC_one hk
  obtain ⟨hc,hf,h⟩:=h
  obtain ⟨w',hK,hr⟩:=sts_sound vs b (o + 1) K _ h h2
  refine ⟨w',hK,fun base i hb=>?_⟩
  subst hb
  have h3:=hr base (i + 1) rfl
  obtain ⟨u,hu⟩:=Option.isSome_iff_exists.1 hc
  simp only [storeCells,Sem.run_bind,Addr.add_lit,run_store P w _ v .plain h1,hu,hf,Bool.false_eq_true,if_false,Result.andThen_ok]
  exact h3
theorem storeI_sound {t:TypeId} {x v:Value} {K:WP} (h:storeI P t x v K w):isU x = false /\ isU v = false /\ ∃ w',K w' /\ (Instr.storeAt t x v).run P w = .ok () w':=by
 unfold storeI at h
 cases x <;> try exact h.elim
 rename_i p
 rcases p with _ | ⟨b,o,_ | _⟩ <;> try exact h.elim
 cases hc:((P.info? t).isSome && Nat.beq (szT P t) (cellsL v).length && okC (cellsL v) && !(cellsL v).any isU) with
 | false=>rw [hc] at h; exact h.elim
 | true=>
  rw [hc] at h
  simp only [Bool.and_eq_true,Bool.not_eq_eq_eq_not,Bool.not_true] at hc
  obtain ⟨⟨⟨hi,hl⟩,hk⟩,hu⟩:=hc
  have hl':szT P t = (cellsL v).length:=Nat.eq_of_beq_eq_true hl
  obtain ⟨w',hK,hr⟩:=sts_sound (P:=P) _ _ _ _ _ h hk
  refine ⟨rfl,?_,w',hK,?_⟩
  ·cases v <;> simp_all [isU,cellsL]
  ·have h1:=hr o 0 rfl
   simp only [Instr.storeAt,Instr.sureAddr,Sem.run_bind,Sem.run_pure,Result.andThen_ok,storeVar,isSome_info hi,hl',cellsL_eq,List.size_toArray,ne_eq,not_true_eq_false,if_false,h1,Sem.run_ite]
theorem newB_run (e:TypeId) (cells:List Value) (w:World):(newRow e cells.toArray).run P w = .ok ⟨w.heap.size,0,none⟩ (w.alloc (.cells cells.toArray e)):=by
 simp only [newRow,Sem.run_bind,run_newObj,Result.andThen_ok,Sem.run_pure,World.alloc]
theorem length_zrow (z:List Value):∀ n,(zrow z n).length = n * z.length
 | 0=>by simp [zrow]
 | n + 1=>by simp [zrow,length_zrow z n,Nat.succ_mul,Nat.add_comm]
theorem zrow_get (z:List Value) (hz:0 < z.length):∀ (n i:Nat),i < n * z.length -> (zrow z n)[i]? = some (z[i % z.length]!)
 | 0,i,h=>by simp at h
 | n + 1,i,h=>by
  simp only [zrow]
  by_cases hi:i < z.length
  ·rw [List.getElem?_append_left hi,Nat.mod_eq_of_lt hi]
   simp [hi]
  ·have h1:z.length <= i:=by omega
   rw [List.getElem?_append_right h1,zrow_get z hz n _ (by rw [Nat.succ_mul] at h; omega)]
   rw [Nat.mod_eq_sub_mod h1]
theorem zrow_map (z:List Value) (n:Nat):(Array.range (n * z.length)).map (fun i=>z.toArray[i % z.toArray.size]!) = (zrow z n).toArray:=by
 rw [<- Array.toList_inj]
 apply List.ext_getElem?
 intro i
 rw [Array.toList_map,List.getElem?_map,Array.toList_range]
 show _ = (zrow z n)[i]?
 by_cases hi:i < n * z.length
 ·have hz:0 < z.length:=by
   rcases Nat.eq_zero_or_pos z.length with h | h
   ·rw [h] at hi; simp at hi
   ·exact h
  rw [zrow_get z hz n i hi]
  simp [hi]
 ·have h1:(zrow z n)[i]? = none:=by rw [List.getElem?_eq_none]; rw [length_zrow]; omega
  rw [h1]
  simp; omega
theorem zeroL_sound' {t:TypeId} {z:List Value} (h:zeroL P t = some z):∃ i v,P.info? t = some i /\ i.zero = some v /\ v.cells = z.toArray:=by
 unfold zeroL at h
 split at h
 case h_2=>cases h
 rename_i i hi
 split at h
 case h_2=>cases h
 rename_i v hv
 exact ⟨i,v,hi,hv,by rw [cellsL_eq,Option.some.inj h]⟩
theorem buildSliceI_sound {t:TypeId} {n:Nat} {parts:List (Nat × Value)} {K:Value -> WP} (h:buildSliceI P t n parts K w) :
  (∀ p ∈ parts,isU p.2 = false) /\ ∃ v w',K v w' /\ (Instr.buildSlice t n parts.toArray).run P w = .ok v w':=by
 unfold buildSliceI at h
 cases ht:P.underlying t with
 | none=>simp only [ht] at h; exact h.elim
 | some d=>
 simp only [ht] at h
 cases d <;> try exact h.elim
 rename_i e
 simp only at h
 cases hz:zeroL P e with
 | none=>simp only [hz] at h; exact h.elim
 | some z=>
 simp only [hz] at h
 cases hc:((P.info? e).isSome && Nat.beq z.length (szT P e) && Nat.ble (n * szT P e) 65536) with
 | false=>rw [hc] at h; exact h.elim
 | true=>
  rw [hc] at h
  simp only [Bool.and_eq_true] at hc
  obtain ⟨⟨hi,hl⟩,hb⟩:=hc
  have hl':z.length = szT P e:=Nat.eq_of_beq_eq_true hl
  have hb':n * szT P e <= 65536:=Nat.le_of_ble_eq_true hb
  simp only [cond_true] at h
  cases hf:fillL (fun i=>some (i * szT P e,szT P e)) (zrow z n) parts with
  | none=>simp only [hf] at h; exact h.elim
  | some cs=>
  simp only [hf] at h
  obtain ⟨hf1,hf2⟩:=fillL_sound _ _ _ hf
  refine ⟨hf2,_,_,h,?_⟩
  obtain ⟨v,hv,hvc⟩:=zeroL_sound hz
  have h2:¬ n * szT P e > 2 ^ 24:=by omega
  have h3:=zrow_map z n
  rw [hl'] at h3
  by_cases h0:n * szT P e = 0
  ·have h4:(zrow z n) = []:=by
    have:=length_zrow z n
    rw [hl',h0] at this
    exact List.length_eq_zero_iff.1 this
   rw [h4] at hf1
   have h5:¬ (0:Nat) > 2 ^ 24:=by decide
   simp only [Instr.buildSlice,Sem.run_bind,run_underlying ht,Result.andThen_ok,isSome_info hi,h0,if_true,h5,if_false,Sem.run_pure,Array.range_zero',List.map_toArray,List.map_nil,hf1,newB_run]
  ·simp only [Instr.buildSlice,Sem.run_bind,run_underlying ht,Result.andThen_ok,isSome_info hi,h2,if_false,h0,hv,Sem.run_pure,hvc,h3,hf1,newB_run,Sem.run_ite]
theorem makeSliceI_sound {t:TypeId} {l c:Value} {K:Value -> WP} (h:makeSliceI P t l c K w):isU l = false /\ isU c = false /\ ∃ v w',K v w' /\ (Instr.makeSlice t l c).run P w = .ok v w':=by
 unfold makeSliceI at h
 cases ht:P.underlying t with
 | none=>simp only [ht] at h; exact h.elim
 | some d=>
 simp only [ht] at h
 cases d <;> try exact h.elim
 rename_i e
 simp only at h
 cases hz:zeroL P e with
 | none=>simp only [hz] at h; exact h.elim
 | some z=>
 simp only [hz] at h
 cases l <;> try exact h.elim
 rename_i kl l
 cases c <;> try exact h.elim
 rename_i kc c
 cases hc:((P.info? e).isSome && Nat.beq z.length (szT P e)) with
 | false=>rw [hc] at h; exact h.elim
 | true=>
  rw [hc] at h
  simp only [Bool.and_eq_true] at hc
  obtain ⟨hi,hl⟩:=hc
  have hl':z.length = szT P e:=Nat.eq_of_beq_eq_true hl
  obtain ⟨⟨h0,h1,h2,h3⟩,h4⟩:=h
  obtain ⟨i,v,hi',hv,hvc⟩:=zeroL_sound' hz
  refine ⟨rfl,rfl,_,_,h4,?_⟩
  have hby:byT P e = i.bytes:=by simp [byT,hi']
  have hsz:szT P e = i.size:=by simp [szT,hi']
  rw [hby] at h3
  rw [run_make w t e i v ht hi' hv kl kc l c h0 h1 h3 (by omega)]
  have h5:=zrow_map z c.toNat
  simp only [madeCells,hvc]
  rw [<- hsz,<- hl',h5]
end
end Go.Hb
