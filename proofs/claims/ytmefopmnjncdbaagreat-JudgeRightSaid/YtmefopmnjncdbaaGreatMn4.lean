import Derived.ProofKit
import Derived.OpenShut
import Derived.JoinedOf
import Derived.ChangeSame
import Derived.Test.YtmefopmnjncdbaaGreatMn3
set_option linter.unusedVariables false
set_option linter.unusedSimpArgs false
set_option linter.unnecessarySimpa false
set_option linter.unusedSectionVars false
set_option maxRecDepth 100000
namespace Go.Hb
abbrev Heap:=Nat -> Option Obj
abbrev HP:=Heap -> Prop
def subH (h g:Heap):Prop:=∀ b o,h b = some o -> g b = some o
def disH (h g:Heap):Prop:=∀ b,h b = none \/ g b = none
def stars:List HP -> HP
 | [],_=>True
 | p::l,h=>∃ h1 h2,subH h1 h /\ subH h2 h /\ disH h1 h2 /\ p h1 /\ stars l h2
def heapOf (w:World):Heap:=fun b=>w.heap[b]?
structure Sat (W0 w:World) (L:List HP):Prop where
 os:w.os = W0.os
 out:w.output = W0.output
 st:stars L (heapOf w)
theorem subH.refl (h:Heap):subH h h:=fun _ _ h=>h
theorem subH.trans {f g h:Heap} (a:subH f g) (b:subH g h):subH f h:=fun x o hx=>b x o (a x o hx)
theorem disH.sub {f g f' g':Heap} (h:disH f g) (hf:subH f' f) (hg:subH g' g):disH f' g':=fun b=>by
 rcases h b with h | h
 ·left
  cases hx:f' b with
  | none=>rfl
  | some o=>rw [hf b o hx] at h; cases h
 ·right
  cases hx:g' b with
  | none=>rfl
  | some o=>rw [hg b o hx] at h; cases h
theorem stars_mono {L:List HP} {h g:Heap} (hs:stars L h) (hg:subH h g):stars L g:=by
 cases L with
 | nil=>trivial
 | cons p L=>
  obtain ⟨h1,h2,a,b,c,d,e⟩:=hs
  exact ⟨h1,h2,a.trans hg,b.trans hg,c,d,e⟩
def uniH (f g:Heap):Heap:=fun b=>match f b with
 | some o=>some o
 | none=>g b
theorem stars_swap {p q:HP} {L:List HP} {h:Heap} (hs:stars (p::q::L) h):stars (q::p::L) h:=by
 obtain ⟨h1,h2,a,b,c,hp,h3,h4,d,e,f,hq,hL⟩:=hs
 refine ⟨h3,uniH h1 h4,d.trans b,fun x o hx=>?_,fun x=>?_,hq,h1,h4,fun x o hx=>?_,fun x o hx=>?_,c.sub (subH.refl _) e,hp,hL⟩
 ·unfold uniH at hx
  split at hx
  ·rename_i o' ho'; cases hx; exact a _ _ ho'
  ·exact b _ _ (e _ _ hx)
 ·unfold uniH
  rcases (c.sub (subH.refl _) d) x with h' | h'
  ·rw [h']
   rcases f x with h'' | h''
   ·exact .inl h''
   ·exact .inr h''
  ·exact .inl h'
 ·unfold uniH; rw [hx]
 ·unfold uniH
  split
  ·rename_i o' ho'
   rcases (c.sub (subH.refl _) e) x with h' | h'
   ·rw [ho'] at h'; cases h'
   ·rw [hx] at h'; cases h'
  ·exact hx
theorem stars_perm {L M:List HP} (hp:L.Perm M):∀ {h:Heap},stars L h -> stars M h:=by
 induction hp with
 | nil=>exact fun h=>h
 | cons x _ ih=>exact fun ⟨h1,h2,a,b,c,d,e⟩=>⟨h1,h2,a,b,c,d,ih e⟩
 | swap x y l=>exact fun h=>stars_swap h
 | trans _ _ ih1 ih2=>exact fun h=>ih2 (ih1 h)
theorem erase_perm {α:Type _}:∀ {l:List α} {i:Nat} (h:i < l.length),(l[i]::l.eraseIdx i).Perm l
 | [],i,h=>by simp at h
 | x::l,0,h=>by simp
 | x::l,i + 1,h=>by
  simp only [List.getElem_cons_succ,List.eraseIdx_cons_succ]
  exact (List.Perm.swap x _ _).trans (List.Perm.cons x (erase_perm (by simpa using h)))
section
variable {W0 w:World} {L:List HP}
theorem Sat.perm {M:List HP} (h:Sat W0 w L) (hp:L.Perm M):Sat W0 w M:=⟨h.os,h.out,stars_perm hp h.st⟩
theorem Sat.drop {p:HP} (h:Sat W0 w (p::L)):Sat W0 w L:=by
 obtain ⟨h1,h2,a,b,c,d,e⟩:=h.st
 exact ⟨h.os,h.out,stars_mono e b⟩
theorem Sat.focus {q:Nat} {p:HP} (h:Sat W0 w L) (hq:L[q]? = some p):Sat W0 w (p::L.eraseIdx q):=by
 obtain ⟨hlt,rfl⟩:=List.getElem?_eq_some_iff.1 hq
 exact h.perm (erase_perm hlt).symm
theorem Sat.back {q:Nat} {p p':HP} (hq:L[q]? = some p') (h:Sat W0 w (p::L.eraseIdx q)):Sat W0 w (L.set q p):=by
 have hlt:=(List.getElem?_eq_some_iff.1 hq).1
 have hlt':q < (L.set q p).length:=by simpa using hlt
 have h1:=erase_perm hlt'
 rw [List.getElem_set_self,List.eraseIdx_set_eq] at h1
 exact h.perm h1
theorem Sat.turn {q:Nat} {p p':HP} (h:Sat W0 w L) (hq:L[q]? = some p) (hp:∀ g,p g -> p' g):Sat W0 w (L.set q p'):=by
 obtain ⟨h1,h2,a,b,c,d,e⟩:=(h.focus hq).st
 exact Sat.back hq ⟨h.os,h.out,h1,h2,a,b,c,hp _ d,e⟩
theorem Sat.get {q:Nat} {p:HP} (h:Sat W0 w L) (hq:L[q]? = some p):∃ g,subH g (heapOf w) /\ p g:=by
 obtain ⟨h1,h2,a,b,c,d,e⟩:=(h.focus hq).st
 exact ⟨h1,a,d⟩
theorem Sat.drew (h:Sat W0 w L):Sat W0 w.drew L:=⟨h.os,h.out,h.st⟩
theorem Sat.pure {q:Nat} {p:HP} {c:Prop} (h:Sat W0 w L) (hq:L[q]? = some p) (hc:∀ g,p g -> c):c:=by
 obtain ⟨g,_,hg⟩:=h.get hq
 exact hc g hg
theorem Sat.ex {q:Nat} {α:Type} {p:α -> HP} (h:Sat W0 w L) (hq:L[q]? = some (fun g=>∃ x,p x g)):∃ x,Sat W0 w (L.set q (p x)):=by
 obtain ⟨h1,h2,a,b,c,⟨x,d⟩,e⟩:=(h.focus hq).st
 exact ⟨x,Sat.back hq ⟨h.os,h.out,h1,h2,a,b,c,d,e⟩⟩
def star (p q:HP):HP:=fun h=>∃ h1 h2,subH h1 h /\ subH h2 h /\ disH h1 h2 /\ p h1 /\ q h2
theorem Sat.split {p q:HP} (h:Sat W0 w (star p q::L)):Sat W0 w (p::q::L):=by
 obtain ⟨h1,h2,a,b,c,⟨h3,h4,d,e,f,hp,hq⟩,g⟩:=h.st
 refine ⟨h.os,h.out,h3,uniH h4 h2,d.trans a,fun x o hx=>?_,fun x=>?_,hp,h4,h2,fun x o hx=>?_,fun x o hx=>?_,c.sub e (subH.refl _),hq,g⟩
 ·unfold uniH at hx
  split at hx
  ·rename_i o' ho'; cases hx; exact a _ _ (e _ _ ho')
  ·exact b _ _ hx
 ·unfold uniH
  rcases f x with h' | h'
  ·exact .inl h'
  ·rw [h']
   exact c.sub d (subH.refl _) x
 ·unfold uniH; rw [hx]
 ·unfold uniH
  split
  ·rename_i o' ho'
   rcases (c.sub e (subH.refl _)) x with h' | h'
   ·rw [ho'] at h'; cases h'
   ·rw [hx] at h'; cases h'
  ·exact hx
theorem Sat.join {p q:HP} (h:Sat W0 w (p::q::L)):Sat W0 w (star p q::L):=by
 obtain ⟨h1,h2,a,b,c,hp,h3,h4,d,e,f,hq,hL⟩:=h.st
 refine ⟨h.os,h.out,uniH h1 h3,h4,fun x o hx=>?_,e.trans b,fun x=>?_,⟨h1,h3,fun x o hx=>?_,fun x o hx=>?_,c.sub (subH.refl _) d,hp,hq⟩,hL⟩
 ·unfold uniH at hx
  split at hx
  ·rename_i o' ho'; cases hx; exact a _ _ ho'
  ·exact b _ _ (d _ _ hx)
 ·unfold uniH
  rcases (c.sub (subH.refl _) e) x with h' | h'
  ·rw [h']; exact f x
  ·exact .inr h'
 ·unfold uniH; rw [hx]
 ·unfold uniH
  split
  ·rename_i o' ho'
   rcases (c.sub (subH.refl _) d) x with h' | h'
   ·rw [ho'] at h'; cases h'
   ·rw [hx] at h'; cases h'
  ·exact hx
def blk (b:Nat) (cs:List Value):HP:=fun h=>∃ T lo hi,h b = some (.cells cs.toArray T (lo,hi)) /\ ∀ i,i < cs.length -> ¬ (lo <= i /\ i < hi)
def old (W:World):HP:=fun h=>subH (heapOf W) h
theorem cell_of {w:World} {b o:Nat} {cs:List Value} {T lo hi:Nat} (h:w.heap[b]? = some (.cells cs.toArray T (lo,hi))):w.cell? ⟨b,o,none⟩ = cs[o]?:=by
 unfold World.cell?
 rw [h]
 simp
theorem Sat.cell {q b o:Nat} {cs:List Value} (h:Sat W0 w L) (hq:L[q]? = some (blk b cs)):w.cell? ⟨b,o,none⟩ = cs[o]?:=by
 obtain ⟨g,hg,T,lo,hi,hb,_⟩:=h.get hq
 exact cell_of (hg _ _ hb)
theorem Sat.frozen {q b o:Nat} {cs:List Value} (h:Sat W0 w L) (hq:L[q]? = some (blk b cs)) (ho:o < cs.length):w.frozen? ⟨b,o,none⟩ = false:=by
 obtain ⟨g,hg,T,lo,hi,hb,hf⟩:=h.get hq
 unfold World.frozen?
 have h1:w.heap[b]? = some (.cells cs.toArray T (lo,hi)):=hg _ _ hb
 simp only [h1]
 have:=hf o ho
 cases hd:(decide (lo <= o) && decide (o < hi)) with
 | false=>rfl
 | true=>simp only [Bool.and_eq_true,decide_eq_true_eq] at hd; exact absurd hd this
theorem Sat.cell_old {q:Nat} {W:World} {a:Addr} {v:Value} (h:Sat W0 w L) (hq:L[q]? = some (old W)) (hv:W.cell? a = some v):w.cell? a = some v:=by
 obtain ⟨g,hg,ho⟩:=h.get hq
 unfold World.cell? at hv ⊢
 cases hb:W.heap[a.block]? with
 | none=>rw [hb] at hv; cases hv
 | some o=>
  have:w.heap[a.block]? = some o:=hg _ _ (ho _ _ hb)
  rw [this]; rw [hb] at hv; exact hv
theorem Sat.set {q b o:Nat} {cs:List Value} {v:Value} (h:Sat W0 w L) (hq:L[q]? = some (blk b cs)):Sat W0 (w.setCell ⟨b,o,none⟩ v) (L.set q (blk b (cs.set o v))):=by
 obtain ⟨h1,h2,ha,hb,hc,⟨T,lo,hi,hd,hf⟩,he⟩:=(h.focus hq).st
 apply Sat.back hq
 have hwb:w.heap[b]? = some (.cells cs.toArray T (lo,hi)):=ha _ _ hd
 have hnew:heapOf (w.setCell ⟨b,o,none⟩ v) b = some (.cells (cs.set o v).toArray T (lo,hi)):=by
  simp [heapOf,World.setCell,Array.getElem?_modify,hwb]
 refine ⟨h.os,h.out,fun x=>if x = b then some (.cells (cs.set o v).toArray T (lo,hi)) else none,h2,fun x y hx=>?_,fun x y hx=>?_,fun x=>?_,⟨T,lo,hi,by simp,fun i hi'=>hf i (by simpa using hi')⟩,he⟩
 ·simp only at hx
  split at hx
  ·rename_i hxb; subst hxb; cases hx; exact hnew
  ·cases hx
 ·have hxb:x ≠ b:=by
   intro hxb; subst hxb
   rcases hc x with h' | h'
   ·rw [hd] at h'; cases h'
   ·rw [hx] at h'; cases h'
  have:=hb _ _ hx
  simp only [heapOf,World.setCell,Array.getElem?_modify] at this ⊢
  rw [if_neg (Ne.symm hxb)]
  exact this
 ·simp only
  by_cases hxb:x = b
  ·subst hxb
   rcases hc x with h' | h'
   ·rw [hd] at h'; cases h'
   ·exact .inr h'
  ·left; rw [if_neg hxb]
theorem Sat.alloc {cs:List Value} {T:TypeId} (h:Sat W0 w L):Sat W0 (w.alloc (.cells cs.toArray T)) (blk w.heap.size cs::L):=by
 have hold:subH (heapOf w) (heapOf (w.alloc (.cells cs.toArray T))):=by
  intro x y hx
  simp only [heapOf,World.alloc,Array.getElem?_push] at hx ⊢
  have hlt:x < w.heap.size:=(Array.getElem?_eq_some_iff.1 hx).1
  rw [if_neg (by omega)]
  exact hx
 refine ⟨h.os,h.out,fun x=>if x = w.heap.size then some (.cells cs.toArray T (0,0)) else none,heapOf w,fun x y hx=>?_,hold,fun x=>?_,⟨T,0,0,by simp,fun i _=>by omega⟩,h.st⟩
 ·simp only at hx
  split at hx
  ·rename_i hxb; subst hxb; cases hx; show (w.heap.push _)[w.heap.size]? = _; simp
  ·cases hx
 ·simp only
  by_cases hxb:x = w.heap.size
  ·right; subst hxb; simp [heapOf]
  ·left; rw [if_neg hxb]
theorem un_of {k:CK} {x:k.ty} (hu:k = .any -> isU (k.val x) = false):k.un (k.val x) = some x:=by
 cases k with
 | int k=>cases k <;> rfl
 | any=>have h:=hu rfl; simp only [CK.un,CK.val] at h ⊢; rw [h]; rfl
 | _=>rfl
theorem ld_cell {k:CK} {b o:Nat} {x:k.ty} {K:k.ty -> WP} (hc:w.cell? ⟨b,o,none⟩ = some (k.val x)) (hu:k ≠ .any) (hK:K x w):ld k b o K w:=by
 unfold ld
 rw [hc]
 simp only [Option.bind_some,un_of (fun h=>absurd h hu)]
 exact hK
theorem ld_at (q:Nat) {k:CK} {b o:Nat} {cs:List Value} {x:k.ty} {K:k.ty -> WP} (h:Sat W0 w L) (hq:L[q]? = some (blk b cs)) (hc:cs[o]? = some (k.val x)) (hK:K x w)
  (hu:k ≠ .any:=by simp):ld k b o K w:=ld_cell (by rw [h.cell hq]; exact hc) hu hK
theorem st_at (q:Nat) {b o:Nat} {cs:List Value} {v:Value} {K:WP} (h:Sat W0 w L) (hq:L[q]? = some (blk b cs)) (ho:o < cs.length) (hK:∀ w',Sat W0 w' (L.set q (blk b (cs.set o v))) -> K w'):st b o v K w:=by
 refine ⟨?_,h.frozen hq ho,hK _ (h.set hq)⟩
 rw [h.cell hq,List.getElem?_eq_getElem ho]; rfl
theorem newB_at {cs:List Value} {T:TypeId} {K:Nat -> WP} (h:Sat W0 w L) (hK:∀ b w',Sat W0 w' (blk b cs::L) -> K b w'):newB cs T K w:=hK _ _ h.alloc
theorem nilck_some {b o:Nat} {K:Nat -> Nat -> WP} (hK:K b o w):nilck (some ⟨b,o,none⟩) K w:=⟨_,_,rfl,hK⟩
theorem when_of {c:Prop} {K:WP} (hc:c) (hK:K w):when c K w:=⟨hc,hK⟩
theorem drawW_by {K:(World -> Prop) -> WP} (S:World -> Prop) (hS:S w.drew) (hK:K S w.drew):drawW K w:=⟨S,hS,hK⟩
theorem keep_of {S:World -> Prop} {K:WP} (hS:S w) (hK:K w):keepS true S K w:=⟨hS,hK⟩
theorem ldS_by {k:CK} {b o:Nat} {S:World -> Prop} (x:k.ty) {K:k.ty -> WP} (hc:∀ w',S w' -> w'.cell? ⟨b,o,none⟩ = some (k.val x)) (hK:K x w):ldS S k b o K w:=⟨x,hc,hK⟩
theorem ite_true {b:Bool} {K M:WP} (hb:b = true) (hK:K w):ite2 b K M w:=by subst hb; exact hK
theorem ite_false {b:Bool} {K M:WP} (hb:b = false) (hK:M w):ite2 b K M w:=by subst hb; exact hK
theorem ite_cases {b:Bool} {K M:WP} (h1:b = true -> K w) (h2:b = false -> M w):ite2 b K M w:=by
 cases b
 ·exact h2 rfl
 ·exact h1 rfl
end
end Go.Hb
namespace Go.Hb
def slcv (sz:Nat) (s:Sl) (cs:List Value):HP:=fun h=>
 (cs.length = s.n * sz /\ s.n <= s.c) /\ ((s.a = none /\ s.n = 0 /\ s.c = 0) \/ ∃ b o pre tl,s.a = some ⟨b,o,none⟩ /\ pre.length = o /\ blk b (pre ++ cs ++ tl) h /\ (s.c - s.n) * sz <= tl.length)
theorem set_get {L:List HP} {q:Nat} {p:HP} (h:q < L.length):(L.set q p)[q]? = some p:=by simp [h]
section
variable {W0 w:World} {L:List HP}
theorem slcv_facts {sz:Nat} {s:Sl} {cs:List Value} {q:Nat} (h:Sat W0 w L) (hq:L[q]? = some (slcv sz s cs)):cs.length = s.n * sz /\ s.n <= s.c:=
 h.pure hq fun _ hg=>hg.1
theorem Sat.openS {sz:Nat} {s:Sl} {cs:List Value} {q:Nat} {b o:Nat} (h:Sat W0 w L) (hq:L[q]? = some (slcv sz s cs)) (ha:s.a = some ⟨b,o,none⟩) :
  ∃ pre tl,pre.length = o /\ cs.length = s.n * sz /\ s.n <= s.c /\ (s.c - s.n) * sz <= tl.length /\ Sat W0 w (L.set q (blk b (pre ++ cs ++ tl))):=by
 obtain ⟨h1,h2,a,b',c,⟨⟨hl,hn⟩,hd⟩,e⟩:=(h.focus hq).st
 rcases hd with ⟨hd,_⟩ | ⟨b1,o1,pre,tl,hsa,hp,hb,ht⟩
 ·rw [hd] at ha; cases ha
 ·rw [hsa] at ha
  cases ha
  exact ⟨pre,tl,hp,hl,hn,ht,Sat.back hq ⟨h.os,h.out,h1,h2,a,b',c,hb,e⟩⟩
theorem Sat.shutS {sz:Nat} {s:Sl} {cs pre tl:List Value} {q:Nat} {b o:Nat} (h:Sat W0 w L) (hq:L[q]? = some (blk b (pre ++ cs ++ tl))) (ha:s.a = some ⟨b,o,none⟩) (hp:pre.length = o)
  (hl:cs.length = s.n * sz) (hn:s.n <= s.c) (ht:(s.c - s.n) * sz <= tl.length):Sat W0 w (L.set q (slcv sz s cs)):=
 h.turn hq fun _ hg=>⟨⟨hl,hn⟩,.inr ⟨b,o,pre,tl,ha,hp,hg,ht⟩⟩
theorem idx_at (q:Nat) {sz:Nat} {s:Sl} {cs:List Value} {i:Int} {K:Nat -> Nat -> WP} (h:Sat W0 w L) (hq:L[q]? = some (slcv sz s cs)) (h0:0 <= i) (h1:i < (s.n:Int))
  (hK:∀ b o,s.a = some ⟨b,o,none⟩ -> K b o w):idx s.a s.n i K w:=by
 obtain ⟨g,_,⟨hl,hn⟩,hd⟩:=h.get hq
 rcases hd with ⟨_,hd,_⟩ | ⟨b,o,pre,tl,hsa,_⟩
 ·omega
 ·exact ⟨b,o,hsa,⟨h0,h1⟩,hK b o hsa⟩
theorem slc_cell {q sz:Nat} {s:Sl} {cs:List Value} {b o j:Nat} (h:Sat W0 w L) (hq:L[q]? = some (slcv sz s cs)) (ha:s.a = some ⟨b,o,none⟩) (hj:j < cs.length):w.cell? ⟨b,o + j,none⟩ = cs[j]?:=by
 obtain ⟨pre,tl,hp,_,_,_,h'⟩:=h.openS hq ha
 have hlt:=(List.getElem?_eq_some_iff.1 hq).1
 rw [h'.cell (q:=q) (set_get hlt)]
 subst hp
 rw [List.append_assoc,List.getElem?_append_right (by omega),List.getElem?_append_left (by simp; omega)]
 simp
theorem st_slc (q:Nat) {sz:Nat} {s:Sl} {cs:List Value} {b o p j:Nat} {v:Value} {K:WP} (h:Sat W0 w L) (hq:L[q]? = some (slcv sz s cs)) (ha:s.a = some ⟨b,o,none⟩)
  (hp:p = o + j) (hj:j < cs.length) (hK:∀ w',Sat W0 w' (L.set q (slcv sz s (cs.set j v))) -> K w'):st b p v K w:=by
 subst hp
 obtain ⟨pre,tl,hp,hl,hn,ht,h'⟩:=h.openS hq ha
 have hlt:=(List.getElem?_eq_some_iff.1 hq).1
 have hq':(L.set q (blk b (pre ++ cs ++ tl)))[q]? = some (blk b (pre ++ cs ++ tl)):=by simp [hlt]
 refine st_at q h' hq' (by simp; omega) fun w' h2=>hK w' ?_
 subst hp
 have hset:(pre ++ cs ++ tl).set (pre.length + j) v = pre ++ cs.set j v ++ tl:=by
  rw [List.append_assoc,List.set_append_right _ _ (by omega),List.set_append_left _ _ (by simp; omega)]
  simp
 rw [hset] at h2
 have h3:=h2.shutS (q:=q) (s:=s) (sz:=sz) (set_get (by simpa using hlt)) ha rfl (by simpa using hl) hn ht
 simpa using h3
def Reads (W:World) (sz:Nat) (s:Sl) (cs:List Value):Prop:=
 cs.length = s.n * sz /\ ((s.a = none /\ s.n = 0) \/ ∃ b o,s.a = some ⟨b,o,none⟩ /\ ∀ j,j < cs.length -> W.cell? ⟨b,o + j,none⟩ = cs[j]?)
theorem rdL_of {w:World} {b:Nat}:∀ (cs:List Value) (o:Nat),(∀ j,j < cs.length -> w.cell? ⟨b,o + j,none⟩ = cs[j]?) -> rdL w b o cs.length = some cs
 | [],_,_=>rfl
 | c::cs,o,h=>by
  have h0:=h 0 (by simp)
  have ih:=rdL_of cs (o + 1) fun j hj=>by
   have:=h (j + 1) (by simpa using hj)
   rw [show o + 1 + j = o + (j + 1) by omega,this]; simp
  simp only [List.length_cons,rdL]
  rw [show w.cell? ⟨b,o,none⟩ = some c by simpa using h0]
  simp only [ih]
theorem rd_slc (q:Nat) {sz:Nat} {s:Sl} {cs:List Value} (h:Sat W0 w L) (hq:L[q]? = some (slcv sz s cs)):rdA w s.a (s.n * sz) = some cs:=by
 have hl:=(slcv_facts h hq).1
 obtain ⟨g,_,_,hd⟩:=h.get hq
 rcases hd with ⟨ha,hn,_⟩ | ⟨b,o,pre,tl,ha,_⟩
 ·rw [ha]
  have:cs = []:=List.length_eq_zero_iff.1 (by rw [hl,hn]; simp)
  simp [rdA,this]
 ·rw [ha,<- hl]
  exact rdL_of cs o fun j hj=>slc_cell h hq ha hj
theorem rd_blk (q:Nat) {b:Nat} {cs:List Value} {n:Nat} (h:Sat W0 w L) (hq:L[q]? = some (blk b cs)) (hn:n = cs.length):rdA w (some ⟨b,0,none⟩) n = some cs:=by
 subst hn
 exact rdL_of cs 0 fun j _=>by rw [h.cell hq]; simp
theorem sts_slc (q:Nat) {b:Nat}:∀ (vs:List Value) (w:World) (L:List HP) (pre mid tl:List Value) (K:WP),Sat W0 w L -> L[q]? = some (blk b (pre ++ mid ++ tl)) -> mid.length = vs.length ->
  (∀ w',Sat W0 w' (L.set q (blk b (pre ++ vs ++ tl))) -> K w') -> sts vs b pre.length K w
 | [],w,L,pre,mid,tl,K,h,hq,hm,hK=>by
  have:mid = []:=List.length_eq_zero_iff.1 (by simpa using hm)
  subst this
  refine hK w ?_
  have:=h.turn hq fun _ hg=>hg
  exact this
 | v::vs,w,L,pre,m::mid,tl,K,h,hq,hm,hK=>by
  have hlt:=(List.getElem?_eq_some_iff.1 hq).1
  refine st_at q h hq (by simp) fun w' h'=>?_
  have hset:(pre ++ (m::mid) ++ tl).set pre.length v = (pre ++ [v]) ++ mid ++ tl:=by
   rw [List.append_assoc,List.set_append_right _ _ (by omega)]; simp
  rw [hset] at h'
  have:=sts_slc q vs w' _ (pre ++ [v]) mid tl K h' (set_get hlt) (by simpa using hm) (fun w2 h2=>hK w2 (by simpa using h2))
  simpa using this
theorem app_at (q:Nat) {e sz by_:Nat} {z:List Value} {s:Sl} {cs:List Value} {n:Nat} {new:World -> Option (List Value)} {vs:List Value} {K:Sl -> WP} (h:Sat W0 w L) (hq:L[q]? = some (slcv sz s cs))
  (hnew:new w = some vs) (hok:okC vs = true) (hvl:vs.length = n * sz) (hz:z.length = sz) (hby:(s.n + n) * by_ <= 140737488355328)
  (hK:∀ s' w',s'.n = s.n + n -> s'.n <= s'.c -> (s'.c = s.c /\ s'.a = s.a \/ s.n + n > s.c) -> Sat W0 w' (L.set q (slcv sz s' (cs ++ vs))) -> K s' w'):appendC e sz by_ z s n new K w:=by
 have hlt:=(List.getElem?_eq_some_iff.1 hq).1
 obtain ⟨hl,hn⟩:=slcv_facts h hq
 refine ⟨vs,hnew,hok,?_⟩
 by_cases hle:s.n + n <= s.c
 ·rw [if_pos hle]
  cases ha:s.a with
  | none=>
   obtain ⟨g,_,_,hd⟩:=h.get hq
   rcases hd with ⟨_,hn0,hc0⟩ | ⟨b,o,pre,tl,hsa,_⟩
   ·have hn1:n = 0:=by omega
    subst hn1
    have hv:vs = []:=List.length_eq_zero_iff.1 (by simpa using hvl)
    subst hv
    show K ⟨none,s.n + 0,s.c⟩ w
    refine hK _ w rfl (by simp; omega) (.inl ⟨rfl,ha.symm⟩) ?_
    refine h.turn hq fun g hg=>?_
    obtain ⟨⟨h1,h2⟩,h3⟩:=hg
    refine ⟨⟨by simpa using h1,by simpa using h2⟩,.inl ⟨rfl,by simpa using hn0,hc0⟩⟩
   ·rw [hsa] at ha; cases ha
  | some a=>
   obtain ⟨b,o,hao⟩:∃ b o,a = ⟨b,o,none⟩:=by
    obtain ⟨g,_,_,hd⟩:=h.get hq
    rcases hd with ⟨hd,_⟩ | ⟨b,o,pre,tl,hsa,_⟩
    ·rw [hd] at ha; cases ha
    ·rw [hsa] at ha; cases ha; exact ⟨b,o,rfl⟩
   subst hao
   obtain ⟨pre,tl,hp,_,_,ht,h'⟩:=h.openS hq ha
   subst hp
   have htl:n * sz <= tl.length:=Nat.le_trans (Nat.mul_le_mul_right _ (by omega)) ht
   have hsplit:pre ++ cs ++ tl = (pre ++ cs) ++ tl.take (n * sz) ++ tl.drop (n * sz):=by simp
   rw [hsplit] at h'
   show sts vs b (pre.length + s.n * sz) _ w
   have:=sts_slc (W0:=W0) q vs w _ (pre ++ cs) (tl.take (n * sz)) (tl.drop (n * sz)) (K ⟨s.a,s.n + n,s.c⟩) h' (set_get hlt) (by simp [hvl]; omega) (fun w' h2=>by
    refine hK _ w' rfl (by simpa using hle) (.inl ⟨rfl,rfl⟩) ?_
    have h3:=h2.shutS (q:=q) (s:=⟨s.a,s.n + n,s.c⟩) (sz:=sz) (pre:=pre) (cs:=cs ++ vs) (tl:=tl.drop (n * sz)) (b:=b) (o:=pre.length) (by have:=set_get (L:=L.set q (blk b (pre ++ cs ++ List.take (n * sz) tl ++ List.drop (n * sz) tl))) (q:=q) (p:=blk b (pre ++ cs ++ vs ++ tl.drop (n * sz))) (by simpa using hlt); simpa using this) ha rfl
     (by simp [hl,hvl,Nat.add_mul]) (by simpa using hle) (by
      simp only [List.length_drop]
      have h5:(s.c - (s.n + n)) * sz + n * sz = (s.c - s.n) * sz:=by rw [<- Nat.add_mul]; congr 1; omega
      omega)
    simpa using h3)
   rw [ha] at this
   simpa [hl] using this
 ·rw [if_neg hle]
  refine ⟨growslice_fits (by omega) hby,cs,rd_slc q h hq,fun N hN=>?_⟩
  refine hK _ _ rfl (by simpa using hN) (.inr (by omega)) ?_
  have h1:=(h.drew).focus hq
  have h2:=(h1.drop).alloc (cs:=cs ++ vs ++ zrow z (N - (s.n + n))) (T:=e)
  have h3:=Sat.back (q:=q) hq h2
  have h4:=h3.turn (q:=q) (p':=slcv sz ⟨some ⟨w.heap.size,0,none⟩,s.n + n,N⟩ (cs ++ vs)) (set_get hlt) fun g hg=>
   ⟨⟨by simp [hl,hvl,Nat.add_mul],hN⟩,.inr ⟨_,0,[],zrow z (N - (s.n + n)),rfl,rfl,by simpa using hg,by rw [length_zrow,hz]; exact Nat.le_refl _⟩⟩
  simpa using h4
theorem nilS {sz:Nat} (h:Sat W0 w L):Sat W0 w (slcv sz ⟨none,0,0⟩ []::L):=
 ⟨h.os,h.out,fun _=>none,heapOf w,(fun _ _ hx=>by cases hx),subH.refl _,fun _=>.inl rfl,⟨⟨by simp,by simp⟩,.inl ⟨rfl,rfl,rfl⟩⟩,h.st⟩
theorem make_at {e by_ sz:Nat} {z:List Value} {l c:Int} {K:Sl -> WP} (h:Sat W0 w L) (hz:z.length = sz) (h0:0 <= l) (h1:l <= c) (h2:c <= 4611686018427387904) (h3:(by_:Int) * c <= 281474976710656)
  (hK:∀ s w',s.n = l.toNat -> s.c = c.toNat -> s.a ≠ none -> Sat W0 w' (slcv sz s (zrow z l.toNat)::L) -> K s w'):makeC e by_ z l c K w:=by
 refine ⟨⟨h0,h1,h2,h3⟩,?_⟩
 refine newB_at h fun b w' h'=>hK _ w' rfl rfl (by simp) ?_
 have hsplit:zrow z c.toNat = zrow z l.toNat ++ zrow z (c.toNat - l.toNat):=by
  have:∀ a b,zrow z (a + b) = zrow z a ++ zrow z b:=by
   intro a b
   induction a with
   | zero=>simp [zrow]
   | succ a ih=>rw [Nat.succ_add]; simp [zrow,ih]
  rw [<- this]; congr 1; omega
 rw [hsplit] at h'
 exact h'.turn (q:=0) rfl fun g hg=>⟨⟨by rw [length_zrow,hz],by simp; omega⟩,.inr ⟨b,0,[],zrow z (c.toNat - l.toNat),rfl,rfl,by simpa using hg,by rw [length_zrow,hz]; exact Nat.le_refl _⟩⟩
variable {P:Program} {f:FuncId} {args:List Value}
theorem call0_of {K:WP} {R:Ending -> World -> Prop} (hC:Calls P f args.toArray w R) (hR:∀ e w',R e w' -> e = .returned (.tuple #[]) /\ K w'):call0 P f args K w:=hC.mono hR
theorem call1_of {k:CK} {K:k.ty -> WP} {R:Ending -> World -> Prop} (hC:Calls P f args.toArray w R) (hR:∀ e w',R e w' -> ∃ x,e = .returned (k.val x) /\ K x w'):call1 k P f args K w:=hC.mono hR
theorem call2_of {k l:CK} {K:k.ty -> l.ty -> WP} {R:Ending -> World -> Prop} (hC:Calls P f args.toArray w R) (hR:∀ e w',R e w' -> ∃ x y,e = .returned (.tuple #[k.val x,l.val y]) /\ K x y w') :
  call2 k l P f args K w:=hC.mono hR
end
end Go.Hb

namespace Go.Hb
theorem flat_len {k:Nat}:∀ {rows:List (List Value)},(∀ r ∈ rows,r.length = k) -> rows.flatten.length = rows.length * k
 | [],_=>by simp
 | r::rows,h=>by
  simp only [List.flatten_cons,List.length_append,List.length_cons]
  rw [h r (.head _),flat_len fun x hx=>h x (.tail _ hx),Nat.add_mul,Nat.one_mul,Nat.add_comm]
theorem flat_get {k:Nat}:∀ {rows:List (List Value)} {i j:Nat},(∀ r ∈ rows,r.length = k) -> j < k -> rows.flatten[i * k + j]? = (rows[i]?).bind (·[j]?)
 | [],i,j,_,_=>by simp
 | r::rows,0,j,h,hj=>by
  have:=h r (.head _)
  simp only [List.flatten_cons,Nat.zero_mul,Nat.zero_add,List.getElem?_cons_zero,Option.bind_some]
  rw [List.getElem?_append_left (by omega)]
 | r::rows,i + 1,j,h,hj=>by
  have:=h r (.head _)
  simp only [List.flatten_cons,List.getElem?_cons_succ]
  rw [List.getElem?_append_right (by rw [Nat.add_mul]; omega),<- flat_get (fun x hx=>h x (.tail _ hx)) hj]
  congr 1
  rw [Nat.add_mul]; omega
theorem flat_set {k:Nat}:∀ {rows:List (List Value)} {i j:Nat} {v:Value} {r:List Value},(∀ r ∈ rows,r.length = k) -> j < k -> rows[i]? = some r -> rows.flatten.set (i * k + j) v = (rows.set i (r.set j v)).flatten
 | [],i,j,_,_,_,_,hr=>by simp at hr
 | r0::rows,0,j,v,r,h,hj,hr=>by
  have:=h r0 (.head _)
  simp only [List.getElem?_cons_zero,Option.some.injEq] at hr
  subst hr
  simp only [List.flatten_cons,Nat.zero_mul,Nat.zero_add,List.set_cons_zero]
  rw [List.set_append_left _ _ (by omega)]
 | r0::rows,i + 1,j,v,r,h,hj,hr=>by
  have:=h r0 (.head _)
  simp only [List.getElem?_cons_succ] at hr
  simp only [List.flatten_cons,List.set_cons_succ]
  rw [List.set_append_right _ _ (by rw [Nat.add_mul]; omega),<- flat_set (fun x hx=>h x (.tail _ hx)) hj hr]
  congr 2
  rw [Nat.add_mul]; omega
end Go.Hb
namespace Go.Hb
structure Rec (α:Type) where
 sz:Nat
 cells:α -> List Value
 len:∀ a,(cells a).length = sz
def Rec.int (k:IntKind):Rec Int:=⟨1,fun n=>[.int k n],fun _=>rfl⟩
def Rec.str:Rec ByteArray:=⟨1,fun s=>[.string s],fun _=>rfl⟩
def Rec.ptr:Rec Nat:=⟨1,fun b=>[.pointer (some ⟨b,0,none⟩)],fun _=>rfl⟩
def Rec.flat {α:Type} (E:Rec α) (rows:List α):List Value:=(rows.map E.cells).flatten
section
variable {α:Type} {E:Rec α}
theorem Rec.rows (E:Rec α) {rows:List α}:∀ r ∈ rows.map E.cells,r.length = E.sz:=by
 intro r hr
 simp only [List.mem_map] at hr
 obtain ⟨l,_,rfl⟩:=hr
 exact E.len l
theorem Rec.flat_length (E:Rec α) (rows:List α):(E.flat rows).length = rows.length * E.sz:=by
 unfold Rec.flat; rw [flat_len E.rows]; simp
theorem Rec.flat_get {rows:List α} {i j:Nat} {a:α} (h:rows[i]? = some a) (hj:j < E.sz):(E.flat rows)[i * E.sz + j]? = (E.cells a)[j]?:=by
 unfold Rec.flat
 rw [Hb.flat_get E.rows hj,List.getElem?_map,h]; rfl
theorem Rec.flat_set {rows:List α} {i j:Nat} {a a':α} {v:Value} (h:rows[i]? = some a) (hj:j < E.sz) (hl:(E.cells a).set j v = E.cells a'):(E.flat rows).set (i * E.sz + j) v = E.flat (rows.set i a'):=by
 unfold Rec.flat
 rw [Hb.flat_set (r:=E.cells a) E.rows hj (by rw [List.getElem?_map,h]; rfl),hl,List.map_set]
theorem Rec.flat_append (E:Rec α) (r1 r2:List α):E.flat (r1 ++ r2) = E.flat r1 ++ E.flat r2:=by simp [Rec.flat]
theorem Rec.flat_one (E:Rec α) (a:α):E.flat [a] = E.cells a:=by simp [Rec.flat]
theorem Rec.flat_nil (E:Rec α):E.flat [] = []:=rfl
end
def recs {α:Type} (E:Rec α) (s:Sl) (rows:List α):HP:=slcv E.sz s (E.flat rows)
def reca {α:Type} (E:Rec α) (b o:Nat) (s:Sl) (rows:List α):HP:=fun h=>s.a = some ⟨b,o,none⟩ /\ recs E s rows h
class At (L:List HP) (b:Nat) (p:outParam HP) (F:outParam (HP -> List HP)):Prop where
 pos:∃ M,L.Perm (p::M) /\ ∀ x,(F x).Perm (x::M)
class AtS (L:List HP) (s:Sl) (p:outParam HP) (F:outParam (HP -> List HP)):Prop where
 pos:∃ M,L.Perm (p::M) /\ ∀ x,(F x).Perm (x::M)
class AtO (L:List HP) (W:outParam World):Prop where
 pos:∃ M,L.Perm (old W::M)
section
variable {L:List HP} {F:HP -> List HP} {p c:HP} {b:Nat} {s:Sl} {W W0 w:World}
instance (priority:=low) At.there [h:At L b p F]:At (c::L) b p (fun x=>c::F x):=⟨by
 obtain ⟨M,h1,h2⟩:=h.pos
 exact ⟨c::M,(List.Perm.cons c h1).trans (List.Perm.swap _ _ _),fun x=>(List.Perm.cons c (h2 x)).trans (List.Perm.swap _ _ _)⟩⟩
instance (priority:=low) AtS.there [h:AtS L s p F]:AtS (c::L) s p (fun x=>c::F x):=⟨by
 obtain ⟨M,h1,h2⟩:=h.pos
 exact ⟨c::M,(List.Perm.cons c h1).trans (List.Perm.swap _ _ _),fun x=>(List.Perm.cons c (h2 x)).trans (List.Perm.swap _ _ _)⟩⟩
instance (priority:=low) AtO.there [h:AtO L W]:AtO (c::L) W:=⟨by
 obtain ⟨M,h1⟩:=h.pos
 exact ⟨c::M,(List.Perm.cons c h1).trans (List.Perm.swap _ _ _)⟩⟩
instance AtO.here:AtO (old W::L) W:=⟨L,List.Perm.refl _⟩
theorem here_pos:∃ M,(p::L).Perm (p::M) /\ ∀ x,((fun x=>x::L) x).Perm (x::M):=⟨L,List.Perm.refl _,fun _=>List.Perm.refl _⟩
instance At.blk {cs:List Value}:At (blk b cs::L) b (blk b cs) (fun x=>x::L):=⟨here_pos⟩
instance At.reca {α:Type} {E:Rec α} {o:Nat} {rows:List α}:At (reca E b o s rows::L) b (reca E b o s rows) (fun x=>x::L):=⟨here_pos⟩
instance AtS.recs {α:Type} {E:Rec α} {rows:List α}:AtS (recs E s rows::L) s (recs E s rows) (fun x=>x::L):=⟨here_pos⟩
instance AtS.reca {α:Type} {E:Rec α} {b o:Nat} {rows:List α}:AtS (Hb.reca E b o s rows::L) s (Hb.reca E b o s rows) (fun x=>x::L):=⟨here_pos⟩
theorem At.turn {p':HP} [hA:At L b p F] (h:Sat W0 w L) (hp:∀ g,p g -> p' g):Sat W0 w (F p'):=by
 obtain ⟨M,h1,h2⟩:=hA.pos
 have h3:=h.perm h1
 exact (h3.turn (q:=0) rfl hp).perm (h2 p').symm
theorem At.call1 {P:Program} {f:FuncId} {args:Array Value} {e0:Ending} {p':HP} [hA:At L b p F] (h:Sat W0 w L)
  (hC:∀ M,Sat W0 w (p::M) -> Calls P f args w fun e w'=>e = e0 /\ Sat W0 w' (p'::M)):Calls P f args w fun e w'=>e = e0 /\ Sat W0 w' (F p'):=by
 obtain ⟨M,h1,h2⟩:=hA.pos
 exact (hC M (h.perm h1)).mono fun e w' ⟨hr,hs⟩=>⟨hr,hs.perm (h2 p').symm⟩
theorem At.one [hA:At L b p F] (h:Sat W0 w L) {C:Prop} (hC:∀ M,Sat W0 w (p::M) -> (∀ w' p',Sat W0 w' (p'::M) -> Sat W0 w' (F p')) -> C):C:=by
 obtain ⟨M,h1,h2⟩:=hA.pos
 exact hC M (h.perm h1) fun w' p' h=>h.perm (h2 p').symm
theorem At.oneX [hA:At L b p F] (h:Sat W0 w L) {C:Prop} (hC:∀ M,Sat W0 w (p::M) -> (∀ w' p' (X:List HP),Sat W0 w' (p'::(X ++ M)) -> Sat W0 w' (X ++ F p')) -> C):C:=by
 obtain ⟨M,h1,h2⟩:=hA.pos
 exact hC M (h.perm h1) fun w' p' X h=>h.perm ((List.perm_middle.symm).trans (List.Perm.append_left X (h2 p').symm))
theorem AtS.one [hA:AtS L s p F] (h:Sat W0 w L) {C:Prop} (hC:∀ M,Sat W0 w (p::M) -> (∀ w' p',Sat W0 w' (p'::M) -> Sat W0 w' (F p')) -> C):C:=by
 obtain ⟨M,h1,h2⟩:=hA.pos
 exact hC M (h.perm h1) fun w' p' h=>h.perm (h2 p').symm
class SetL (cs:List Value) (o:Nat) (v:Value) (cs':outParam (List Value)):Prop where
 eq:cs.set o v = cs'
 lt:o < cs.length
instance SetL.zero {x v:Value} {l:List Value}:SetL (x::l) 0 v (v::l):=⟨rfl,by simp⟩
instance SetL.succ {x v:Value} {l l':List Value} {n:Nat} [h:SetL l n v l']:SetL (x::l) (n + 1) v (x::l'):=⟨by rw [<- h.eq]; rfl,by have:=h.lt; simp; omega⟩
theorem ld_b {k:CK} {o:Nat} {cs:List Value} {x:k.ty} {K:k.ty -> WP} (h:Sat W0 w L) [hA:At L b (Hb.blk b cs) F] (hK:K x w) (hc:cs[o]? = some (k.val x):=by exact rfl) (hu:k ≠ .any:=by simp):ld k b o K w:=
 At.one (hA:=hA) h fun _ h _=>ld_at 0 h rfl hc hK hu
theorem st_b {o:Nat} {cs cs':List Value} {v:Value} {K:WP} (h:Sat W0 w L) [hA:At L b (Hb.blk b cs) F] [hS:SetL cs o v cs'] (hK:∀ w',Sat W0 w' (F (Hb.blk b cs')) -> K w'):st b o v K w:=
 At.one (hA:=hA) h fun _ h hb=>st_at 0 h rfl hS.lt fun w' h'=>hK w' (hb _ _ (by rw [<- hS.eq]; exact h'))
theorem ldS_b {k:CK} {o:Nat} {cs:List Value} {x:k.ty} {K:k.ty -> WP} [hA:At L b (Hb.blk b cs) F] (hK:K x w) (hc:cs[o]? = some (k.val x):=by exact rfl):ldS (fun w'=>Sat W0 w' L) k b o K w:=
 ldS_by x (fun w' h=>At.one (hA:=hA) h fun _ h _=>(h.cell (q:=0) rfl).trans hc) hK
theorem drawW_sat {K:(World -> Prop) -> WP} (h:Sat W0 w L) (hK:∀ w1,Sat W0 w1 L -> K (fun w'=>Sat W0 w' L) w1):drawW K w:=drawW_by (fun w'=>Sat W0 w' L) h.drew (hK _ h.drew)
section
variable {α:Type} [Inhabited α] {E:Rec α} {rows:List α}
theorem recs_len (h:Sat W0 w L) [hA:AtS L s (Hb.recs E s rows) F] (hpos:0 < E.sz:=by decide):s.n = rows.length /\ s.n <= s.c:=
 AtS.one (hA:=hA) h fun _ h _=>by
  have:=slcv_facts (q:=0) h rfl
  rw [Rec.flat_length] at this
  exact ⟨(Nat.eq_of_mul_eq_mul_right hpos this.1).symm,this.2⟩
theorem idx_s {i:Int} {K:Nat -> Nat -> WP} (h:Sat W0 w L) [hA:AtS L s (Hb.recs E s rows) F]
  (hK:∀ b o,Sat W0 w (F (Hb.reca E b o s rows)) -> K b o w) (h0:0 <= i:=by first | omega | (simp only [List.length_set,List.length_append,List.length_cons,List.length_nil,List.length_take,List.length_drop,List.length_map,Int.toNat_natCast] <;> omega) | fail) (h1:i < (s.n:Int):=by first | omega | (simp only [List.length_set,List.length_append,List.length_cons,List.length_nil,List.length_take,List.length_drop,List.length_map,Int.toNat_natCast] <;> omega) | fail):idx s.a s.n i K w:=
 AtS.one (hA:=hA) h fun _ h hb=>idx_at 0 h rfl h0 h1 fun b o ha=>hK b o (hb _ _ (h.turn (q:=0) rfl fun _ hg=>⟨ha,hg⟩))
theorem idx_a {b o:Nat} {i:Int} {K:Nat -> Nat -> WP} (h:Sat W0 w L) [hA:AtS L s (Hb.reca E b o s rows) F] (hK:K b o w) (h0:0 <= i:=by first | omega | (simp only [List.length_set,List.length_append,List.length_cons,List.length_nil,List.length_take,List.length_drop,List.length_map,Int.toNat_natCast] <;> omega) | fail) (h1:i < (s.n:Int):=by first | omega | (simp only [List.length_set,List.length_append,List.length_cons,List.length_nil,List.length_take,List.length_drop,List.length_map,Int.toNat_natCast] <;> omega) | fail):idx s.a s.n i K w:=
 AtS.one (hA:=hA) h fun _ h _=>⟨b,o,h.pure (q:=0) rfl fun _ hg=>hg.1,⟨h0,h1⟩,hK⟩
theorem reca_cell {b o i j:Nat} {a:α} {M:List HP} (h:Sat W0 w (Hb.reca E b o s rows::M)) (hi:rows[i]? = some a) (hj:j < E.sz):w.cell? ⟨b,o + (i * E.sz + j),none⟩ = (E.cells a)[j]?:=by
 have ha:s.a = some ⟨b,o,none⟩:=h.pure (q:=0) rfl fun _ hg=>hg.1
 have h':=h.turn (q:=0) (p':=Hb.recs E s rows) rfl fun _ hg=>hg.2
 have hlt:=(List.getElem?_eq_some_iff.1 hi).1
 have:=slc_cell (q:=0) (j:=i * E.sz + j) h' rfl ha (by rw [Rec.flat_length]; calc _ < i * E.sz + E.sz:=by omega
  _ = (i + 1) * E.sz:=by rw [Nat.add_mul,Nat.one_mul]
  _ <= _:=Nat.mul_le_mul_right _ (by omega))
 rw [this,Rec.flat_get hi hj]
theorem getD_some {i:Nat} (h:i < rows.length):rows[i]? = some (rows.getD i default):=by
 rw [List.getD_eq_getElem?_getD,List.getElem?_eq_getElem h]; rfl
theorem ld_r {b o i j p:Nat} {k:CK} {x:k.ty} {K:k.ty -> WP} (h:Sat W0 w L) [hA:At L b (Hb.reca E b o s rows) F] (hp:p = o + (i * E.sz + j)) (hi:i < rows.length)
  (hc:(E.cells (rows.getD i default))[j]? = some (k.val x)) (hK:K x w) (hu:k ≠ .any:=by simp):ld k b p K w:=by
 subst hp
 refine At.one (hA:=hA) h fun _ h _=>ld_cell ?_ hu hK
 rw [reca_cell h (getD_some hi) (by rw [<- E.len (rows.getD i default)]; exact (List.getElem?_eq_some_iff.1 hc).1),hc]
class SetR {α:Type} (E:Rec α) (a:α) (j:Nat) (v:Value) (a':outParam α):Prop where
 eq:(E.cells a).set j v = E.cells a'
 lt:j < E.sz
theorem st_r {b o i j p:Nat} {v:Value} {a':α} {K:WP} (h:Sat W0 w L) [hA:At L b (Hb.reca E b o s rows) F] (hp:p = o + (i * E.sz + j)) (hi:i < rows.length)
  (hS:(E.cells (rows.getD i default)).set j v = E.cells a') (hj:j < E.sz) (hK:∀ w',Sat W0 w' (F (Hb.reca E b o s (rows.set i a'))) -> K w'):st b p v K w:=by
 subst hp
 refine At.one (hA:=hA) h fun M h hb=>?_
 have ha:s.a = some ⟨b,o,none⟩:=h.pure (q:=0) rfl fun _ hg=>hg.1
 have h':=h.turn (q:=0) (p':=Hb.recs E s rows) rfl fun _ hg=>hg.2
 refine st_slc (q:=0) (j:=i * E.sz + j) h' rfl ha rfl (by rw [Rec.flat_length]; calc _ < i * E.sz + E.sz:=by omega
  _ = (i + 1) * E.sz:=by rw [Nat.add_mul,Nat.one_mul]
  _ <= _:=Nat.mul_le_mul_right _ (by omega)) fun w' h2=>hK w' (hb _ _ ?_)
 rw [Rec.flat_set (getD_some hi) hj hS] at h2
 exact h2.turn (q:=0) rfl fun _ hg=>⟨ha,hg⟩
theorem sts_rec {b o i:Nat} {a':α} {K:WP} (h:Sat W0 w L) [hA:At L b (Hb.reca E b o s rows) F] (hi:i < rows.length)
  (hK:∀ w',Sat W0 w' (F (Hb.reca E b o s (rows.set i a'))) -> K w'):sts (E.cells a') b (o + i * E.sz) K w:=by
 refine At.one (hA:=hA) h fun M h hb=>?_
 have ha:s.a = some ⟨b,o,none⟩:=h.pure (q:=0) rfl fun _ hg=>hg.1
 have h':=h.turn (q:=0) (p':=Hb.recs E s rows) rfl fun _ hg=>hg.2
 obtain ⟨pre,tl,hp,hl,hn,ht,h2⟩:=h'.openS (q:=0) rfl ha
 have h2:Sat W0 w (Hb.blk b (pre ++ E.flat rows ++ tl)::M):=h2
 have hrows:rows = rows.take i ++ rows[i]::rows.drop (i + 1):=by simp
 have hset:rows.set i a' = rows.take i ++ a'::rows.drop (i + 1):=by
  rw [List.set_eq_take_append_cons_drop,if_pos hi]
 have hfl:pre ++ E.flat rows ++ tl = (pre ++ E.flat (rows.take i)) ++ E.cells rows[i] ++ (E.flat (rows.drop (i + 1)) ++ tl):=by
  have hfr:E.flat rows = E.flat (rows.take i) ++ (E.cells rows[i] ++ E.flat (rows.drop (i + 1))):=by
   have h:=congrArg E.flat hrows
   rw [Rec.flat_append] at h
   exact h
  rw [hfr]; simp only [List.append_assoc]
 have hfs:pre ++ E.flat (rows.set i a') ++ tl = (pre ++ E.flat (rows.take i)) ++ E.cells a' ++ (E.flat (rows.drop (i + 1)) ++ tl):=by
  rw [hset]; simp [Rec.flat]
 rw [hfl] at h2
 have hpl:(pre ++ E.flat (rows.take i)).length = o + i * E.sz:=by
  rw [List.length_append,hp,Rec.flat_length,List.length_take,Nat.min_eq_left (by omega)]
 rw [<- hpl]
 refine sts_slc 0 (E.cells a') w _ _ _ _ K h2 rfl (by rw [E.len,E.len]) fun w' h3=>hK w' (hb _ _ ?_)
 have h3:Sat W0 w' (Hb.blk b (pre ++ E.flat (rows.take i) ++ E.cells a' ++ (E.flat (rows.drop (i + 1)) ++ tl))::M):=h3
 rw [<- hfs] at h3
 have h4:=h3.shutS (q:=0) (s:=s) (sz:=E.sz) rfl ha hp (by rw [Rec.flat_length,List.length_set,<- Rec.flat_length]; exact hl) hn ht
 exact h4.turn (q:=0) rfl fun _ hg=>⟨ha,hg⟩
theorem st_rec {b o i p:Nat} {vs:List Value} {a':α} {K K':WP} (h:Sat W0 w L) [hA:At L b (Hb.reca E b o s rows) F] (hi:i < rows.length) (ha:E.cells a' = vs) (hp:p = o + i * E.sz)
  (hK:∀ w',Sat W0 w' (F (Hb.reca E b o s (rows.set i a'))) -> K w') (hw:sts vs b p K = K'):K' w:=by
 subst hp hw ha
 exact sts_rec (hA:=hA) h hi hK
theorem app_one {ty by_:Nat} {z:List Value} {b:Nat} {cs:List Value} {a:α} {n:Nat} {K:Sl -> WP} {F':HP -> List HP} (h:Sat W0 w L) [hA:AtS L s (Hb.recs E s rows) F] [hB:At L b (Hb.blk b cs) F'] (ha:E.cells a = cs) (hn:n = E.sz)
  (hok:okC cs = true) (hz:z.length = E.sz) (hpos:0 < E.sz) (hby:(rows.length + 1) * by_ <= 140737488355328)
  (hK:∀ s' w',s'.n = rows.length + 1 -> Sat W0 w' (F (Hb.recs E s' (rows ++ [a]))) -> K s' w'):appendC ty E.sz by_ z s 1 (fun w=>rdA w (some ⟨b,0,none⟩) n) K w:=by
 have hnew:rdA w (some ⟨b,0,none⟩) n = some (E.cells a):=by
  refine At.one (hA:=hB) h fun _ h _=>?_
  rw [ha]
  exact rd_blk 0 h rfl (by rw [hn,<- ha,E.len])
 have hl:=(recs_len (hA:=hA) h hpos).1
 refine AtS.one (hA:=hA) h fun _ h hb=>?_
 refine app_at 0 (cs:=E.flat rows) (vs:=E.cells a) h rfl hnew (by rw [ha]; exact hok) (by rw [E.len]; omega) hz (by rw [hl]; exact hby) fun s' w' h1 h2 _ h3=>hK s' w' (by omega) (hb _ _ ?_)
 rw [<- Rec.flat_one E a,<- Rec.flat_append] at h3
 exact h3
theorem app_by {ty by_:Nat} {z:List Value} {new:List α} {n:Nat} {K:Sl -> WP} {g:World -> Option (List Value)} (h:Sat W0 w L) [hA:AtS L s (Hb.recs E s rows) F] (hnew:g w = some (E.flat new)) (hn:n = new.length)
  (hok:okC (E.flat new) = true) (hz:z.length = E.sz) (hpos:0 < E.sz) (hby:(rows.length + new.length) * by_ <= 140737488355328)
  (hK:∀ s' w',s'.n = rows.length + new.length -> Sat W0 w' (F (Hb.recs E s' (rows ++ new))) -> K s' w'):appendC ty E.sz by_ z s n g K w:=by
 have hl:=(recs_len (hA:=hA) h hpos).1
 refine AtS.one (hA:=hA) h fun _ h hb=>?_
 refine app_at 0 (cs:=E.flat rows) (vs:=E.flat new) h rfl hnew hok (by rw [Rec.flat_length,hn]) hz (by rw [hl,hn]; exact hby) fun s' w' h1 h2 _ h3=>hK s' w' (by omega) (hb _ _ ?_)
 rw [<- Rec.flat_append] at h3
 exact h3
end
theorem Sat.shut (s:Sl) {α:Type} {E:Rec α} {b o:Nat} {rows:List α} (h:Sat W0 w L) [hA:AtS L s (Hb.reca E b o s rows) F]:Sat W0 w (F (Hb.recs E s rows)):=
 AtS.one (hA:=hA) h fun M h hb=>hb _ _ (h.turn (q:=0) rfl fun _ hg=>hg.2)
inductive Pull:List HP -> HP -> List HP -> Prop where
 | here {p:HP} {L:List HP}:Pull (p::L) p L
 | hereA {α:Type} {E:Rec α} {b o:Nat} {s:Sl} {rows:List α} {L:List HP}:Pull (Hb.reca E b o s rows::L) (recs E s rows) L
 | there {p c:HP} {L M:List HP}:Pull L p M -> Pull (c::L) p (c::M)
theorem Pull.stars {L M:List HP} {p:HP} (h:Pull L p M):∀ {g:Heap},stars L g -> stars (p::M) g:=by
 induction h with
 | here=>exact fun h=>h
 | hereA=>exact fun ⟨h1,h2,a,b,c,d,e⟩=>⟨h1,h2,a,b,c,d.2,e⟩
 | there _ ih=>exact fun ⟨h1,h2,a,b,c,d,e⟩=>stars_swap ⟨h1,h2,a,b,c,d,ih e⟩
inductive Imp:List HP -> List HP -> Prop where
 | nil:Imp [] []
 | refl (L:List HP):Imp L L
 | any (L:List HP):Imp L []
 | cons {p:HP} {L M:List HP}:Imp L M -> Imp (p::L) (p::M)
 | reca {α:Type} {E:Rec α} {b o:Nat} {s:Sl} {rows:List α} {L M:List HP}:Imp L M -> Imp (Hb.reca E b o s rows::L) (recs E s rows::M)
 | drop {p:HP} {L M:List HP}:Imp L M -> Imp (p::L) M
 | pull {p:HP} {L L' M:List HP}:Pull L p L' -> Imp L' M -> Imp L (p::M)
theorem Imp.stars {L M:List HP} (h:Imp L M):∀ {g:Heap},stars L g -> stars M g:=by
 induction h with
 | nil=>exact fun h=>h
 | refl L=>exact fun h=>h
 | any L=>exact fun _=>trivial
 | cons _ ih=>exact fun ⟨h1,h2,a,b,c,d,e⟩=>⟨h1,h2,a,b,c,d,ih e⟩
 | reca _ ih=>exact fun ⟨h1,h2,a,b,c,d,e⟩=>⟨h1,h2,a,b,c,d.2,ih e⟩
 | drop _ ih=>exact fun ⟨h1,h2,a,b,c,d,e⟩=>stars_mono (ih e) b
 | pull hp _ ih=>
  intro g h
  obtain ⟨h1,h2,a,b,c,d,e⟩:=hp.stars h
  exact ⟨h1,h2,a,b,c,d,ih e⟩
theorem Sat.imp {M:List HP} (h:Sat W0 w L) (hi:Imp L M):Sat W0 w M:=⟨h.os,h.out,hi.stars h.st⟩
theorem Sat.fin {M:List HP} (h:Sat W0 w L) (hi:Imp L M:=by first | exact .refl _ | ((repeat (first | refine .cons ?_ | refine .reca ?_ | (apply Imp.pull; focus ((first | exact .there .here | exact .there .hereA | exact .there (.there .here) | exact .there (.there .hereA) | exact .there (.there (.there .here)) | exact .there (.there (.there .hereA)) | exact .there (.there (.there (.there .here))) | exact .there (.there (.there (.there .hereA))) | exact .there (.there (.there (.there (.there .here)))) | exact .there (.there (.there (.there (.there .hereA)))) | exact .there (.there (.there (.there (.there (.there .here))))) | exact .there (.there (.there (.there (.there (.there .hereA))))) | exact .there (.there (.there (.there (.there (.there (.there .here)))))) | exact .there (.there (.there (.there (.there (.there (.there .hereA)))))) | exact .there (.there (.there (.there (.there (.there (.there (.there .here))))))) | exact .there (.there (.there (.there (.there (.there (.there (.there .hereA))))))) | exact .there (.there (.there (.there (.there (.there (.there (.there (.there .here)))))))) | exact .there (.there (.there (.there (.there (.there (.there (.there (.there .hereA)))))))) | exact .there (.there (.there (.there (.there (.there (.there (.there (.there (.there .here))))))))) | exact .there (.there (.there (.there (.there (.there (.there (.there (.there (.there .hereA))))))))) | exact .there (.there (.there (.there (.there (.there (.there (.there (.there (.there (.there .here)))))))))) | exact .there (.there (.there (.there (.there (.there (.there (.there (.there (.there (.there .hereA)))))))))) | exact .there (.there (.there (.there (.there (.there (.there (.there (.there (.there (.there (.there .here))))))))))) | exact .there (.there (.there (.there (.there (.there (.there (.there (.there (.there (.there (.there .hereA)))))))))))))) | refine .drop ?_)); first | exact .any _ | exact .refl _ | fail) | fail):Sat W0 w M:=h.imp hi
theorem keep_imp {M:List HP} {K:WP} (h:Sat W0 w L) (hK:K w) (hi:Imp L M:=by first | exact .refl _ | ((repeat (first | refine .cons ?_ | refine .reca ?_ | (apply Imp.pull; focus ((first | exact .there .here | exact .there .hereA | exact .there (.there .here) | exact .there (.there .hereA) | exact .there (.there (.there .here)) | exact .there (.there (.there .hereA)) | exact .there (.there (.there (.there .here))) | exact .there (.there (.there (.there .hereA))) | exact .there (.there (.there (.there (.there .here)))) | exact .there (.there (.there (.there (.there .hereA)))) | exact .there (.there (.there (.there (.there (.there .here))))) | exact .there (.there (.there (.there (.there (.there .hereA))))) | exact .there (.there (.there (.there (.there (.there (.there .here)))))) | exact .there (.there (.there (.there (.there (.there (.there .hereA)))))) | exact .there (.there (.there (.there (.there (.there (.there (.there .here))))))) | exact .there (.there (.there (.there (.there (.there (.there (.there .hereA))))))) | exact .there (.there (.there (.there (.there (.there (.there (.there (.there .here)))))))) | exact .there (.there (.there (.there (.there (.there (.there (.there (.there .hereA)))))))) | exact .there (.there (.there (.there (.there (.there (.there (.there (.there (.there .here))))))))) | exact .there (.there (.there (.there (.there (.there (.there (.there (.there (.there .hereA))))))))) | exact .there (.there (.there (.there (.there (.there (.there (.there (.there (.there (.there .here)))))))))) | exact .there (.there (.there (.there (.there (.there (.there (.there (.there (.there (.there .hereA)))))))))) | exact .there (.there (.there (.there (.there (.there (.there (.there (.there (.there (.there (.there .here))))))))))) | exact .there (.there (.there (.there (.there (.there (.there (.there (.there (.there (.there (.there .hereA)))))))))))))) | refine .drop ?_)); first | exact .any _ | exact .refl _ | fail) | fail):keepS true (fun w'=>Sat W0 w' M) K w:=keep_of (h.imp hi) hK
theorem drawW_only (M:List HP) {K:(World -> Prop) -> WP} (h:Sat W0 w L) (hK:∀ w1,Sat W0 w1 L -> K (fun w'=>Sat W0 w' M) w1) (hi:Imp L M:=by first | exact .refl _ | ((repeat (first | refine .cons ?_ | refine .reca ?_ | (apply Imp.pull; focus ((first | exact .there .here | exact .there .hereA | exact .there (.there .here) | exact .there (.there .hereA) | exact .there (.there (.there .here)) | exact .there (.there (.there .hereA)) | exact .there (.there (.there (.there .here))) | exact .there (.there (.there (.there .hereA))) | exact .there (.there (.there (.there (.there .here)))) | exact .there (.there (.there (.there (.there .hereA)))) | exact .there (.there (.there (.there (.there (.there .here))))) | exact .there (.there (.there (.there (.there (.there .hereA))))) | exact .there (.there (.there (.there (.there (.there (.there .here)))))) | exact .there (.there (.there (.there (.there (.there (.there .hereA)))))) | exact .there (.there (.there (.there (.there (.there (.there (.there .here))))))) | exact .there (.there (.there (.there (.there (.there (.there (.there .hereA))))))) | exact .there (.there (.there (.there (.there (.there (.there (.there (.there .here)))))))) | exact .there (.there (.there (.there (.there (.there (.there (.there (.there .hereA)))))))) | exact .there (.there (.there (.there (.there (.there (.there (.there (.there (.there .here))))))))) | exact .there (.there (.there (.there (.there (.there (.there (.there (.there (.there .hereA))))))))) | exact .there (.there (.there (.there (.there (.there (.there (.there (.there (.there (.there .here)))))))))) | exact .there (.there (.there (.there (.there (.there (.there (.there (.there (.there (.there .hereA)))))))))) | exact .there (.there (.there (.there (.there (.there (.there (.there (.there (.there (.there (.there .here))))))))))) | exact .there (.there (.there (.there (.there (.there (.there (.there (.there (.there (.there (.there .hereA)))))))))))))) | refine .drop ?_)); first | exact .any _ | exact .refl _ | fail) | fail):drawW K w:=drawW_by (fun w'=>Sat W0 w' M) (h.imp hi).drew (hK _ h.drew)
theorem when_om {c:Prop} {K:WP} (hK:K w) (hc:c:=by first | omega | (simp only [List.length_set,List.length_append,List.length_cons,List.length_nil,List.length_take,List.length_drop,List.length_map,Int.toNat_natCast] <;> omega) | fail):when c K w:=when_of hc hK
def allH (Ps:List HP):HP:=fun h=>stars Ps h
theorem Sat.openL:∀ {Ps M:List HP},Sat W0 w (allH Ps::M) -> Sat W0 w (Ps ++ M)
 | [],_,h=>h.drop
 | p::Ps,M,h=>by
  have h1:Sat W0 w (p::allH Ps::M):=Sat.split (p:=p) (q:=allH Ps) h
  have h2:=(h1.perm (List.Perm.swap _ _ _))
  exact (Sat.openL_aux h2)
where Sat.openL_aux {p:HP} {Ps M:List HP} (h:Sat W0 w (allH Ps::p::M)):Sat W0 w (p::Ps ++ M):=
 (Sat.openL h).perm List.perm_middle
theorem Sat.shutL:∀ {Ps M:List HP},Sat W0 w (Ps ++ M) -> Sat W0 w (allH Ps::M)
 | [],M,h=>⟨h.os,h.out,fun _=>none,heapOf w,(fun _ _ hx=>by cases hx),subH.refl _,fun _=>.inl rfl,trivial,h.st⟩
 | p::Ps,M,h=>by
  have h1:Sat W0 w (Ps ++ (p::M)):=h.perm List.perm_middle.symm
  exact Sat.join (p:=p) (q:=allH Ps) ((Sat.shutL h1).perm (List.Perm.swap _ _ _))
def exH {α:Type} (p:α -> HP):HP:=fun h=>∃ x,p x h
def andH (c:Prop) (p:HP):HP:=fun h=>c /\ p h
theorem Sat.openE {α:Type} {p:α -> HP} {M:List HP} (h:Sat W0 w (exH p::M)):∃ x,Sat W0 w (p x::M):=Sat.ex (q:=0) h rfl
theorem Sat.shutE {α:Type} {p:α -> HP} {M:List HP} (x:α) (h:Sat W0 w (p x::M)):Sat W0 w (exH p::M):=h.turn (q:=0) rfl fun _ hg=>⟨x,hg⟩
theorem Sat.openA {c:Prop} {p:HP} {M:List HP} (h:Sat W0 w (andH c p::M)):c /\ Sat W0 w (p::M):=⟨h.pure (q:=0) rfl fun _ hg=>hg.1,h.turn (q:=0) rfl fun _ hg=>hg.2⟩
theorem Sat.shutA {c:Prop} {p:HP} {M:List HP} (hc:c) (h:Sat W0 w (p::M)):Sat W0 w (andH c p::M):=h.turn (q:=0) rfl fun _ hg=>⟨hc,hg⟩
end
end Go.Hb
namespace Go.Hb
open Go.ChangeShapes Go.WideShapes
structure KeptH (W W':World):Prop where
 os:W'.os = W.os
 out:W'.output = W.output
 heap:∀ (b:Nat) (o:Obj),W.heap[b]? = some o -> W'.heap[b]? = some o
theorem Sat.kept {W w:World} {q:Nat} {L:List HP} (h:Sat W w L) (hq:L[q]? = some (old W)):KeptH W w:=by
 obtain ⟨g,hg,ho⟩:=h.get hq
 exact ⟨h.os,h.out,fun b o hb=>hg _ _ (ho _ _ hb)⟩
theorem Sat.begin (W:World):Sat W W [old W]:=
 ⟨rfl,rfl,heapOf W,fun _=>none,subH.refl _,(fun _ _ hx=>by cases hx),fun _=>.inr rfl,subH.refl _,trivial⟩
section
variable {H:Type} {enc:TypeId × Value -> H} {P:Program} {W W':World}
theorem KeptH.cell (hk:KeptH W W') {a:Addr} {v:Value} (h:W.cell? a = some v):W'.cell? a = some v:=by
 unfold World.cell? at h ⊢
 cases hb:W.heap[a.block]? with
 | none=>rw [hb] at h; cases h
 | some o=>rw [hk.heap _ _ hb]; rw [hb] at h; exact h
theorem mapM_kept {α β:Type} {f g:α -> Option β}:∀ {l:List α} {xs:List β},l.mapM f = some xs -> (∀ i ∈ l,∀ y ∈ xs,f i = some y -> g i = some y) -> l.mapM g = some xs
 | [],xs,h,_=>by simpa using h
 | a::l,xs,h,hg=>by
  simp only [List.mapM_cons,Option.bind_eq_bind,Option.pure_def,Option.bind_eq_some_iff] at h
  obtain ⟨y,hy,ys,hys,hx⟩:=h
  cases hx
  simp only [List.mapM_cons,Option.bind_eq_bind,Option.pure_def,Option.bind_eq_some_iff]
  exact ⟨y,hg a (.head _) y (.head _) hy,ys,mapM_kept hys (fun i hi z hz=>hg i (.tail _ hi) z (.tail _ hz)),rfl⟩
theorem cells_kept (hk:KeptH W W') {base:Nat} {a:Addr} {n:Nat} {cs:List Value} (h:W.cells? base a n = some cs):W'.cells? base a n = some cs:=by
 unfold World.cells? at h ⊢
 split at h
 ·rename_i hb
  rw [if_pos hb]
  exact mapM_kept h fun i _ y _ hy=>hk.cell hy
 ·cases h
def plainT (P:Program):Nat -> TypeId -> Bool
 | 0,_=>false
 | d + 1,t=>match P.underlying t with
  | some .bool | some (.int _) | some .string=>true
  | some (.struct fs)=>fs.toList.all fun f=>plainT P d f.type
  | some (.array _ e)=>plainT P d e
  | some (.slice e)=>!Nat.beq (P.cellsOf e) 0 && plainT P d e
  | _=>false
theorem mem_row {a:Addr} {n:Nat} (hn:0 < n):∃ p ∈ MemPlace.row a n,p.block = a.block:=by
 refine ⟨MemPlace.cell a.block a.off,?_,rfl⟩
 unfold MemPlace.row
 simp only [List.mem_map,List.mem_range]
 exact ⟨0,hn,by simp [MemPlace.cell]⟩
theorem trod_kept (hk:KeptH W W') {sp:Nat -> Bool}:∀ (d fuel:Nat) (t:TypeId) (cs:List Value) (x:DataW H × List MemPlace),plainT P d t = true ->
  DataW.trod enc P W 0 (fun _=>true) true fuel t cs = some x -> (∀ p ∈ x.2,sp p.block = true) -> DataW.trod enc P W' 0 sp true fuel t cs = some x:=by
 intro d
 induction d with
 | zero=>intro fuel t cs x h; cases h
 | succ d ih=>
  intro fuel t cs x hp h hs
  cases fuel with
  | zero=>cases h
  | succ fuel=>
   unfold plainT at hp
   cases hu:P.underlying t with
   | none=>rw [hu] at hp; cases hp
   | some td=>
   rw [hu] at hp
   unfold DataW.trod at h ⊢
   rw [hu] at h ⊢
   cases td <;> try (cases hp; done)
   case bool=>rcases cs with _ | ⟨v,_ | _⟩ <;> first | exact h | (cases v <;> exact h)
   case int k=>rcases cs with _ | ⟨v,_ | _⟩ <;> first | exact h | (cases v <;> exact h)
   case string=>rcases cs with _ | ⟨v,_ | _⟩ <;> first | exact h | (cases v <;> exact h)
   case struct fs=>
    simp only at h ⊢
    split at h
    ·rename_i hl
     rw [if_pos hl]
     simp only [Option.map_eq_some_iff] at h ⊢
     obtain ⟨xs,hxs,rfl⟩:=h
     refine ⟨xs,mapM_kept hxs fun f hf y hy hfy=>?_,rfl⟩
     exact ih fuel _ _ y (List.all_eq_true.1 hp f hf) hfy fun p hp'=>hs p (List.mem_flatMap.2 ⟨y,hy,hp'⟩)
    ·cases h
   case array n e=>
    simp only at h ⊢
    split at h
    ·rename_i hl
     rw [if_pos hl]
     simp only [Option.map_eq_some_iff] at h ⊢
     obtain ⟨xs,hxs,rfl⟩:=h
     refine ⟨xs,mapM_kept hxs fun f hf y hy hfy=>?_,rfl⟩
     exact ih fuel _ _ y hp hfy fun p hp'=>hs p (List.mem_flatMap.2 ⟨y,hy,hp'⟩)
    ·cases h
   case slice e=>
    simp only [Bool.and_eq_true,Bool.not_eq_eq_eq_not,Bool.not_true] at hp
    obtain ⟨hne,hpe⟩:=hp
    have hne':P.cellsOf e ≠ 0:=fun h0=>by rw [h0] at hne; cases hne
    cases cs with
    | nil=>exact h
    | cons v cs=>
    cases cs with
    | cons _ _=>cases v <;> first | exact h | (rename_i sa len cap; cases sa <;> first | exact h | cases h | (cases len <;> cases cap <;> first | exact h | cases h))
    | nil=>
    cases v <;> first | exact h | skip
    rename_i sa len cap
    cases sa with
    | none=>first | exact h | (cases len <;> cases cap <;> first | exact h | cases h)
    | some a=>
    simp only at h ⊢
    split at h
    case isFalse=>cases h
    rename_i hb
    rw [if_pos hb]
    simp only [if_true,Option.bind_eq_some_iff,Option.map_eq_some_iff] at h ⊢
    obtain ⟨elems,hel,rest,hre,rfl⟩:=h
    have one:∀ (zs:List (DataW H × List MemPlace)) (i:Nat) (y:DataW H × List MemPlace),y ∈ zs -> (∀ z ∈ zs,∀ p ∈ z.2,sp p.block = true) ->
      (W.cells? 0 (a.add (i * P.cellsOf e)) (P.cellsOf e)).bind (DataW.trod enc P W 0 (fun _=>true) true fuel e) = some y ->
      (W'.cells? 0 (a.add (i * P.cellsOf e)) (P.cellsOf e)).bind (DataW.trod enc P W' 0 sp true fuel e) = some y:=by
     intro zs i y hy hz h
     simp only [Option.bind_eq_some_iff] at h ⊢
     obtain ⟨c,hc,hd⟩:=h
     exact ⟨c,cells_kept hk hc,ih fuel e c y hpe hd (hz y hy)⟩
    have hall:∀ z ∈ elems ++ rest,∀ p ∈ z.2,sp p.block = true:=fun z hz p hp=>hs p (List.mem_append_right _ (List.mem_flatMap.2 ⟨z,hz,hp⟩))
    refine ⟨elems,mapM_kept hel fun i _ y hy h=>one elems i y hy (fun z hz=>hall z (List.mem_append_left _ hz)) h,rest,?_,rfl⟩
    have hlr:rest.length = cap - len:=by
     have:∀ {l:List Nat} {f:Nat -> Option (DataW H × List MemPlace)} {xs},l.mapM f = some xs -> xs.length = l.length:=by
      intro l
      induction l with
      | nil=>intro f xs h; simp at h; subst h; rfl
      | cons i l ih=>
       intro f xs h
       simp only [List.mapM_cons,Option.bind_eq_bind,Option.pure_def,Option.bind_eq_some_iff] at h
       obtain ⟨y,_,ys,hys,hx⟩:=h
       cases hx
       simp [ih hys]
     simpa using this hre
    have hkeep:(List.range (cap - len)).mapM (fun j=>(W'.cells? 0 (a.add ((len + j) * P.cellsOf e)) (P.cellsOf e)).bind (DataW.trod enc P W' 0 sp true fuel e)) = some rest:=
     mapM_kept hre fun j _ y hy h=>one rest (len + j) y hy (fun z hz=>hall z (List.mem_append_right _ hz)) h
    by_cases h0:(elems.length + rest.length) * P.cellsOf e = 0
    ·have hr0:rest = []:=by
      rcases Nat.mul_eq_zero.1 h0 with h1 | h1
      ·exact List.length_eq_zero_iff.1 (by omega)
      ·exact absurd h1 hne'
     split
     ·exact hkeep
     ·rw [hr0]
    ·have hsa:sp a.block = true:=by
      obtain ⟨p,hp,hpb⟩:=mem_row (a:=a) (Nat.pos_of_ne_zero h0)
      rw [<- hpb]; exact hs p (List.mem_append_left _ hp)
     rw [if_pos hsa]
     exact hkeep
theorem trodAll_kept (hk:KeptH W W') {sp:Nat -> Bool}:∀ {ts:List TypeId} {vs:List Value} {ds:List (DataW H)} {ps:List MemPlace},(ts.all fun t=>plainT P 9 t) = true ->
  DataW.TrodAll enc P W 0 (fun _=>true) true ts vs ds ps -> (∀ p ∈ ps,sp p.block = true) -> DataW.TrodAll enc P W' 0 sp true ts vs ds ps
 | [],[],[],_,_,h,_=>h
 | t::ts,v::vs,d::ds,_,hp,⟨p,q,⟨fuel,h1⟩,h2,hpq⟩,hs=>by
  subst hpq
  simp only [List.all_cons,Bool.and_eq_true] at hp
  exact ⟨p,q,⟨fuel,trod_kept hk 9 fuel t _ _ hp.1 h1 fun x hx=>hs x (List.mem_append_left _ hx)⟩,trodAll_kept hk hp.2 h2 fun x hx=>hs x (List.mem_append_right _ hx),rfl⟩
 | [],_::_,_,_,_,h,_=>h.elim
 | [],[],_::_,_,_,h,_=>h.elim
 | _::_,[],_,_,_,h,_=>h.elim
 | _::_,_::_,[],_,_,h,_=>h.elim
theorem law_post {f:Func} {s:ChangeSpec} {bt:TypeId} {args:Array Value} {ds gs:List (DataW H)} {before:List MemPlace} (hv:s.vars = []) (hrt:f.resultTypes = #[bt]) (hb:P.underlying bt = some .bool)
  (hpl:(f.params.toList.all fun t=>plainT P 9 t) = true) (hW:DataW.Whole enc P f.params.toList s.vars false W args.toList ds gs before)
  (hs:(s.fn H (ds ++ gs)).results = [.lit (.bool true)] /\ (s.fn H (ds ++ gs)).args = ds /\ (s.fn H (ds ++ gs)).vars = []) (hk:KeptH W W') :
  s.post enc P f false true false false W args (.bool true) W':=by
 have hW':=hW
 obtain ⟨p,q,hA,hV,rfl,hz,hn⟩:=hW
 have hV':gs = [] /\ q = []:=by
  rw [hv] at hV
  cases gs with
  | nil=>exact ⟨rfl,hV⟩
  | cons _ _=>exact hV.elim
 obtain ⟨rfl,rfl⟩:=hV'
 refine ⟨ds,[],p ++ [],[],p,[],hW',?_,?_,?_,?_,fun h=>by cases h⟩
 ·rw [hs.1,hrt]
  exact ⟨[],[],⟨1,by simp [DataW.trod,Value.cells,hb]⟩,rfl,rfl⟩
 ·rw [hs.2.1]
  exact trodAll_kept hk hpl hA fun x hx=>by simpa using hW'.lt x (by simpa using hx)
 ·rw [hs.2.2,hv]; rfl
 ·refine ⟨hk.os,hk.out,fun i hi=>?_⟩
  have h1:W.heap[i]? = some W.heap[i]:=by simp [hi]
  have h2:=hk.heap i _ h1
  rw [h1,h2]
  cases W.heap[i] <;> first | exact ⟨rfl,rfl,rfl,fun _ _=>rfl⟩ | exact .inr ⟨rfl,rfl⟩ | rfl
end
end Go.Hb
