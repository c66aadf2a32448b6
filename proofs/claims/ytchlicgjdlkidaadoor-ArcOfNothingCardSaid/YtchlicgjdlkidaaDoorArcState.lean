/- arc.Engine.State: the walk, state by state (printed by a program of mine: wip/tools/genstate.py). -/
import Derived.Test.YtchlicgjdlkidaaDoorArcTxt
import Derived.KernelRfl
set_option maxRecDepth 100000
set_option linter.unusedVariables false
set_option linter.unusedSimpArgs false
set_option linter.unnecessarySimpa false
set_option linter.unusedSectionVars false
namespace Go.Hb
def sameL (a b : List Nat) : Bool := (a.all fun i => memb i b) && (b.all fun i => memb i a)
theorem sameL_memb {a b : List Nat} (h : sameL a b = true) (i : Nat) : memb i a = memb i b := by
  unfold sameL at h
  rw [Bool.and_eq_true, List.all_eq_true, List.all_eq_true] at h
  rw [Bool.eq_iff_iff, memb_iff, memb_iff]
  exact ⟨fun hi => memb_iff.1 (h.1 i hi), fun hi => memb_iff.1 (h.2 i hi)⟩
section
variable {P : Program} {all : List Oper} {S : World → Prop} {A AL tab : List Nat}
theorem rdy_perm {d1 d2 : List Nat} (h : ∀ i, memb i d1 = memb i d2) (i : Nat) : rdy all d1 i = rdy all d2 i := by
  unfold rdy; simp only [h]
theorem nextA_perm {d1 d2 : List Nat} (h : ∀ i, memb i d1 = memb i d2) : ∀ A : List Nat, nextA all d1 A = nextA all d2 A
  | [] => rfl
  | i :: A => by unfold nextA; rw [rdy_perm h, nextA_perm h A]
theorem freeL_perm {d1 d2 : List Nat} (h : ∀ i, memb i d1 = memb i d2) (i : Nat) (o : Oper) : freeL all d1 i o = freeL all d2 i o := by
  unfold freeL; simp only [h]
theorem readyL_perm {d1 d2 : List Nat} (h : ∀ i, memb i d1 = memb i d2) : readyL all d1 = readyL all d2 := by
  unfold readyL; rw [show rdy all d1 = rdy all d2 from funext fun i => rdy_perm h i]
theorem drawI_perm {K : Env → WP} : ∀ (n : Nat) (d1 d2 : List Nat) (ρ : Env), (∀ i, memb i d1 = memb i d2) → drawI P all S A AL tab n d1 ρ K = drawI P all S A AL tab n d2 ρ K
  | 0, d1, d2, ρ, h => by simp only [drawI, h]
  | n + 1, d1, d2, ρ, h => by
    have ih : ∀ i ρ, drawI P all S A AL tab n (i :: d1) ρ K = drawI P all S A AL tab n (i :: d2) ρ K := fun i ρ => drawI_perm n _ _ ρ fun j => by simp only [memb, h]
    simp only [drawI, nextA_perm h, freeL_perm h, readyL_perm h, ih]
end
end Go.Hb
namespace Go.Proofs.YtchlicgjdlkidaaDoor
open Go.Hb Go.IntWalk
theorem drS_to {P : Program} {kp : KP} {c : Code} {S : World → Prop} {n : Nat} {d1 d2 : List Nat} {ρ : Env} {K : Env → WP} {w : World} (hd : sameL d1 d2 = true) (h : drS P kp c S n d2 ρ K w) : drS P kp c S n d1 ρ K w := by
  unfold drS at h ⊢
  cases c <;> first | exact h | (dsimp only at h ⊢; rw [drawI_perm _ d1 d2 _ (sameL_memb hd)]; exact h)
structure StOk (W : World) (N : Nat) (x : ArcS) : Prop where
  tab : TabW W
  w : AW x
  p0 : 0 ≤ x.p
  p1 : x.p ≤ 1024
  n : N < 100000000
  l1 : x.t1.length ≤ N
  l2 : x.t2.length ≤ N
  l3 : x.b1.length ≤ N
  l4 : x.b2.length ≤ N
section
variable {W w : World} {L : List HP} [hO : AtO L W] {b xb N : Nat} {s : Sl} {c : Int} {x : ArcS} {b9 b16 b23 b30 b39 : Nat} {t10 t17 t24 t31 : Sl} {done : List Nat}
theorem StOk.z1 (o : StOk W N x) : ∀ k ∈ x.t1, k.size < 64 := fun k hk => o.w.small k (List.mem_append_left _ hk)
theorem StOk.z2 (o : StOk W N x) : ∀ k ∈ x.t2, k.size < 64 := fun k hk => o.w.small k (List.mem_append_right _ (List.mem_append_left _ hk))
theorem StOk.z3 (o : StOk W N x) : ∀ k ∈ x.b1, k.size < 64 := fun k hk => o.w.small k (List.mem_append_right _ (List.mem_append_right _ (List.mem_append_left _ hk)))
theorem StOk.z4 (o : StOk W N x) : ∀ k ∈ x.b2, k.size < 64 := fun k hk => o.w.small k (List.mem_append_right _ (List.mem_append_right _ (List.mem_append_right _ hk)))
theorem rk0 : rKeys x.rows [0] = x.t1 := by simp [rKeys, ArcS.rows]
theorem rk1 : rKeys x.rows [1] = x.t2 := by simp [rKeys, ArcS.rows]
theorem rk2 : rKeys x.rows [2] = x.b1 := by simp [rKeys, ArcS.rows]
theorem rk3 : rKeys x.rows [3] = x.b2 := by simp [rKeys, ArcS.rows]
def stQ (W : World) (L : List HP) (b : Nat) (c : Int) (N : Nat) (x : ArcS) : Value → WP := fun v w' => v = .string (aTxt x) ∧ Sat W w' (arcR b c N x :: L)
theorem st_48 (o : StOk W N x) (hd : sameL done [0, 1, 2, 3, 4, 5, 6, 7, 8, 9, 10, 11, 12, 13, 14, 15, 16, 17, 18, 19, 20, 21, 22, 23, 24, 25, 26, 27, 28, 29, 30, 31, 32, 33, 34, 35] = true) (hs : Sat W w (aB b s xb c x.p :: rowsC s xb N x.rows :: L)) :
    arc_Engine_State_s48 1 done idJ (fun w' => Sat W w' [aB b s xb c x.p]) (stQ W L b c N x) b s (some ⟨xb, 0, none⟩) x.p b9 t10 (rowT sT1 x.t1) b16 t17 (rowT sT2 x.t2) b23 t24 (rowT sB1 x.b1) b30 t31 (rowT sB2 x.b2) (digT x.p.toNat) (sPc ++ digT x.p.toNat) b39 (aTxt x) w := by
  refine drS_to (d2 := [0, 1, 2, 3, 4, 5, 6, 7, 8, 9, 10, 11, 12, 13, 14, 15, 16, 17, 18, 19, 20, 21, 22, 23, 24, 25, 26, 27, 28, 29, 30, 31, 32, 33, 34, 35]) hd ?_
  show arc_Engine_State_s48 1 [0, 1, 2, 3, 4, 5, 6, 7, 8, 9, 10, 11, 12, 13, 14, 15, 16, 17, 18, 19, 20, 21, 22, 23, 24, 25, 26, 27, 28, 29, 30, 31, 32, 33, 34, 35] idJ (fun w' => Sat W w' [aB b s xb c x.p]) (stQ W L b c N x) b s (some ⟨xb, 0, none⟩) x.p b9 t10 (rowT sT1 x.t1) b16 t17 (rowT sT2 x.t2) b23 t24 (rowT sB1 x.b1) b30 t31 (rowT sB2 x.b2) (digT x.p.toNat) (sPc ++ digT x.p.toNat) b39 (aTxt x) w
  rw [arc_Engine_State_s48_raw]
  exact ⟨rfl, arc_shut (by exact Sat.fin hs) rfl⟩
theorem st_47 (o : StOk W N x) (hd : sameL done [0, 1, 2, 3, 4, 5, 6, 7, 8, 9, 10, 11, 12, 13, 14, 15, 16, 17, 18, 19, 20, 21, 22, 23, 24, 25, 26, 27, 28, 29, 30, 31, 32, 33, 34] = true) (hs : Sat W w (blk b39 [.string (rowT sT1 x.t1), .string (rowT sT2 x.t2), .string (rowT sB1 x.b1), .string (rowT sB2 x.b2), .string (sPc ++ digT x.p.toNat)] :: aB b s xb c x.p :: rowsC s xb N x.rows :: L)) :
    arc_Engine_State_s47 2 done idJ (fun w' => Sat W w' [aB b s xb c x.p]) (stQ W L b c N x) b s (some ⟨xb, 0, none⟩) x.p b9 t10 (rowT sT1 x.t1) b16 t17 (rowT sT2 x.t2) b23 t24 (rowT sB1 x.b1) b30 t31 (rowT sB2 x.b2) (digT x.p.toNat) (sPc ++ digT x.p.toNat) b39 w := by
  refine drS_to (d2 := [0, 1, 2, 3, 4, 5, 6, 7, 8, 9, 10, 11, 12, 13, 14, 15, 16, 17, 18, 19, 20, 21, 22, 23, 24, 25, 26, 27, 28, 29, 30, 31, 32, 33, 34]) hd ?_
  show arc_Engine_State_s47 (1 + 1) [0, 1, 2, 3, 4, 5, 6, 7, 8, 9, 10, 11, 12, 13, 14, 15, 16, 17, 18, 19, 20, 21, 22, 23, 24, 25, 26, 27, 28, 29, 30, 31, 32, 33, 34] idJ (fun w' => Sat W w' [aB b s xb c x.p]) (stQ W L b c N x) b s (some ⟨xb, 0, none⟩) x.p b9 t10 (rowT sT1 x.t1) b16 t17 (rowT sT2 x.t2) b23 t24 (rowT sB1 x.b1) b30 t31 (rowT sB2 x.b2) (digT x.p.toNat) (sPc ++ digT x.p.toNat) b39 w
  rw [arc_Engine_State_s47_raw]
  have hs := Sat.blkS (b := b39) (cs := [.string (rowT sT1 x.t1), .string (rowT sT2 x.t2), .string (rowT sB1 x.b1), .string (rowT sB2 x.b2), .string (sPc ++ digT x.p.toNat)]) (n := 5) Rec.str [(rowT sT1 x.t1), (rowT sT2 x.t2), (rowT sB1 x.b1), (rowT sB2 x.b2), (sPc ++ digT x.p.toNat)] hs rfl rfl
  have hz := digT_size x.p.toNat (by have := o.p1; omega)
  have hz1 := rowT_size (nm := sT1) o.z1
  have hz2 := rowT_size (nm := sT2) o.z2
  have hz3 := rowT_size (nm := sB1) o.z3
  have hz4 := rowT_size (nm := sB2) o.z4
  have a1 := o.l1
  have a2 := o.l2
  have a3 := o.l3
  have a4 := o.l4
  have a5 := o.n
  have y1 : sT1.size = 2 := rfl
  have y2 : sT2.size = 2 := rfl
  have y3 : sB1.size = 2 := rfl
  have y4 : sB2.size = 2 := rfl
  have y5 : sPc.size = 3 := rfl
  have y6 : str__.size = 1 := rfl
  have hm : ∀ y ∈ [(rowT sT1 x.t1), (rowT sT2 x.t2), (rowT sB1 x.b1), (rowT sB2 x.b2), (sPc ++ digT x.p.toNat)], y.size ≤ 10000000000 := by
    intro y hy
    simp only [List.mem_cons, List.not_mem_nil, or_false] at hy
    rcases hy with rfl | rfl | rfl | rfl | rfl
    · omega
    · omega
    · omega
    · omega
    · rw [ba_size_append]; omega
  refine call1_of (join_at (s := ⟨some ⟨b39, 0, none⟩, 5, 5⟩) hs hm (by rw [y6]; simp only [List.length_cons, List.length_nil]; omega) (by simp only [List.length_cons, List.length_nil]; omega)) fun e w ⟨he, hs⟩ => ⟨_, he, ?_⟩
  have hj : joinT [(rowT sT1 x.t1), (rowT sT2 x.t2), (rowT sB1 x.b1), (rowT sB2 x.b2), (sPc ++ digT x.p.toNat)] str__ = aTxt x := join_five x
  rw [hj]
  exact st_48 o (by kernel_rfl) (by exact Sat.fin hs)
theorem st_46 (o : StOk W N x) (hd : sameL done [0, 1, 2, 3, 4, 5, 6, 7, 8, 9, 10, 11, 12, 13, 14, 15, 16, 17, 18, 19, 20, 21, 22, 23, 24, 25, 26, 27, 28, 29, 30, 31, 32] = true) (hs : Sat W w (aB b s xb c x.p :: rowsC s xb N x.rows :: L)) :
    arc_Engine_State_s46 4 done idJ (fun w' => Sat W w' [aB b s xb c x.p]) (stQ W L b c N x) b s (some ⟨xb, 0, none⟩) x.p b9 t10 (rowT sT1 x.t1) b16 t17 (rowT sT2 x.t2) b23 t24 (rowT sB1 x.b1) b30 t31 (rowT sB2 x.b2) (digT x.p.toNat) w := by
  refine drS_to (d2 := [0, 1, 2, 3, 4, 5, 6, 7, 8, 9, 10, 11, 12, 13, 14, 15, 16, 17, 18, 19, 20, 21, 22, 23, 24, 25, 26, 27, 28, 29, 30, 31, 32]) hd ?_
  show arc_Engine_State_s46 (2 + 2) [0, 1, 2, 3, 4, 5, 6, 7, 8, 9, 10, 11, 12, 13, 14, 15, 16, 17, 18, 19, 20, 21, 22, 23, 24, 25, 26, 27, 28, 29, 30, 31, 32] idJ (fun w' => Sat W w' [aB b s xb c x.p]) (stQ W L b c N x) b s (some ⟨xb, 0, none⟩) x.p b9 t10 (rowT sT1 x.t1) b16 t17 (rowT sT2 x.t2) b23 t24 (rowT sB1 x.b1) b30 t31 (rowT sB2 x.b2) (digT x.p.toNat) w
  rw [arc_Engine_State_s46_raw]
  have hz := digT_size x.p.toNat (by have := o.p1; omega)
  have hz2 : str_p__.size = 3 := rfl
  refine when_of (by omega) ?_
  refine newB_at hs fun nb w hs => ?_
  exact st_47 o (by kernel_rfl) hs
theorem st_45 (o : StOk W N x) (hd : sameL done [0, 1, 2, 3, 4, 5, 6, 7, 8, 9, 10, 11, 12, 13, 14, 15, 16, 17, 18, 19, 20, 21, 22, 23, 24, 25, 26, 27, 28, 29, 30, 31] = true) (hs : Sat W w (aB b s xb c x.p :: rowsC s xb N x.rows :: L)) :
    arc_Engine_State_s45 5 done idJ (fun w' => Sat W w' [aB b s xb c x.p]) (stQ W L b c N x) b s (some ⟨xb, 0, none⟩) x.p b9 t10 (rowT sT1 x.t1) b16 t17 (rowT sT2 x.t2) b23 t24 (rowT sB1 x.b1) b30 t31 (rowT sB2 x.b2) w := by
  refine drS_to (d2 := [0, 1, 2, 3, 4, 5, 6, 7, 8, 9, 10, 11, 12, 13, 14, 15, 16, 17, 18, 19, 20, 21, 22, 23, 24, 25, 26, 27, 28, 29, 30, 31]) hd ?_
  show arc_Engine_State_s45 (4 + 1) [0, 1, 2, 3, 4, 5, 6, 7, 8, 9, 10, 11, 12, 13, 14, 15, 16, 17, 18, 19, 20, 21, 22, 23, 24, 25, 26, 27, 28, 29, 30, 31] idJ (fun w' => Sat W w' [aB b s xb c x.p]) (stQ W L b c N x) b s (some ⟨xb, 0, none⟩) x.p b9 t10 (rowT sT1 x.t1) b16 t17 (rowT sT2 x.t2) b23 t24 (rowT sB1 x.b1) b30 t31 (rowT sB2 x.b2) w
  rw [arc_Engine_State_s45_raw]
  refine call1_of (itoa_at hs o.tab o.p0 o.p1) fun e w ⟨he, hs⟩ => ⟨_, he, ?_⟩
  exact st_46 o (by kernel_rfl) hs
theorem st_44 (o : StOk W N x) (hd : sameL done [0, 1, 2, 3, 4, 5, 6, 7, 8, 9, 10, 11, 12, 13, 14, 15, 16, 17, 18, 19, 20, 21, 22, 23, 24, 25, 26, 28, 29, 30, 31] = true) (hs : Sat W w (recs Rec.str t31 x.b2 :: aB b s xb c x.p :: rowsC s xb N x.rows :: L)) :
    arc_Engine_State_s44 6 done idJ (fun w' => Sat W w' [aB b s xb c x.p]) (stQ W L b c N x) b s (some ⟨xb, 0, none⟩) x.p b9 t10 (rowT sT1 x.t1) b16 t17 (rowT sT2 x.t2) b23 t24 (rowT sB1 x.b1) b30 t31 w := by
  refine drS_to (d2 := [0, 1, 2, 3, 4, 5, 6, 7, 8, 9, 10, 11, 12, 13, 14, 15, 16, 17, 18, 19, 20, 21, 22, 23, 24, 25, 26, 28, 29, 30, 31]) hd ?_
  show arc_Engine_State_s44 (5 + 1) [0, 1, 2, 3, 4, 5, 6, 7, 8, 9, 10, 11, 12, 13, 14, 15, 16, 17, 18, 19, 20, 21, 22, 23, 24, 25, 26, 28, 29, 30, 31] idJ (fun w' => Sat W w' [aB b s xb c x.p]) (stQ W L b c N x) b s (some ⟨xb, 0, none⟩) x.p b9 t10 (rowT sT1 x.t1) b16 t17 (rowT sT2 x.t2) b23 t24 (rowT sB1 x.b1) b30 t31 w
  rw [arc_Engine_State_s44_raw]
  refine call1_of (arc_text_at (s := t31) (ks := x.b2) hs o.z4 (by have := o.l4; have := o.n; omega) (by decide)) fun e w ⟨he, hs⟩ => ⟨_, he, keep_imp hs ?_⟩
  exact st_45 o (by kernel_rfl) (by exact Sat.fin hs)
theorem st_43 (o : StOk W N x) (hd : sameL done [0, 1, 2, 3, 4, 5, 6, 7, 8, 9, 10, 11, 12, 13, 14, 15, 16, 17, 18, 19, 20, 21, 22, 23, 24, 25, 28, 29, 30, 31] = true) (hs : Sat W w (blk b30 [.int .i64 (3 : Int)] :: aB b s xb c x.p :: rowsC s xb N x.rows :: L)) :
    arc_Engine_State_s43 7 done idJ (fun w' => Sat W w' [aB b s xb c x.p]) (stQ W L b c N x) b s (some ⟨xb, 0, none⟩) x.p b9 t10 (rowT sT1 x.t1) b16 t17 (rowT sT2 x.t2) b23 t24 (rowT sB1 x.b1) b30 w := by
  refine drS_to (d2 := [0, 1, 2, 3, 4, 5, 6, 7, 8, 9, 10, 11, 12, 13, 14, 15, 16, 17, 18, 19, 20, 21, 22, 23, 24, 25, 28, 29, 30, 31]) hd ?_
  show arc_Engine_State_s43 (6 + 1) [0, 1, 2, 3, 4, 5, 6, 7, 8, 9, 10, 11, 12, 13, 14, 15, 16, 17, 18, 19, 20, 21, 22, 23, 24, 25, 28, 29, 30, 31] idJ (fun w' => Sat W w' [aB b s xb c x.p]) (stQ W L b c N x) b s (some ⟨xb, 0, none⟩) x.p b9 t10 (rowT sT1 x.t1) b16 t17 (rowT sT2 x.t2) b23 t24 (rowT sB1 x.b1) b30 w
  rw [arc_Engine_State_s43_raw]
  refine keys_of [3] (M := aB b s xb c x.p :: L) (by exact Sat.fin hs) o.n rfl fun l w hs => keep_imp hs ?_
  rw [rk3] at hs
  exact st_44 o (by kernel_rfl) (by exact Sat.fin hs)
theorem st_42 (o : StOk W N x) (hd : sameL done [0, 1, 2, 3, 4, 5, 6, 7, 8, 9, 10, 11, 12, 13, 14, 15, 16, 17, 18, 19, 21, 22, 23, 24, 25, 28, 29, 30, 31] = true) (hs : Sat W w (recs Rec.str t24 x.b1 :: blk b30 [.int .i64 (3 : Int)] :: aB b s xb c x.p :: rowsC s xb N x.rows :: L)) :
    arc_Engine_State_s42 8 done idJ (fun w' => Sat W w' [aB b s xb c x.p]) (stQ W L b c N x) b s (some ⟨xb, 0, none⟩) x.p b9 t10 (rowT sT1 x.t1) b16 t17 (rowT sT2 x.t2) b23 t24 b30 w := by
  refine drS_to (d2 := [0, 1, 2, 3, 4, 5, 6, 7, 8, 9, 10, 11, 12, 13, 14, 15, 16, 17, 18, 19, 21, 22, 23, 24, 25, 28, 29, 30, 31]) hd ?_
  show arc_Engine_State_s42 (7 + 1) [0, 1, 2, 3, 4, 5, 6, 7, 8, 9, 10, 11, 12, 13, 14, 15, 16, 17, 18, 19, 21, 22, 23, 24, 25, 28, 29, 30, 31] idJ (fun w' => Sat W w' [aB b s xb c x.p]) (stQ W L b c N x) b s (some ⟨xb, 0, none⟩) x.p b9 t10 (rowT sT1 x.t1) b16 t17 (rowT sT2 x.t2) b23 t24 b30 w
  rw [arc_Engine_State_s42_raw]
  refine call1_of (arc_text_at (s := t24) (ks := x.b1) hs o.z3 (by have := o.l3; have := o.n; omega) (by decide)) fun e w ⟨he, hs⟩ => ⟨_, he, keep_imp hs ?_⟩
  exact st_43 o (by kernel_rfl) (by exact Sat.fin hs)
theorem st_41 (o : StOk W N x) (hd : sameL done [0, 1, 2, 3, 4, 5, 6, 7, 8, 9, 10, 11, 12, 13, 14, 15, 16, 17, 18, 19, 20, 21, 22, 23, 24, 28, 29, 30, 31] = true) (hs : Sat W w (aB b s xb c x.p :: rowsC s xb N x.rows :: L)) :
    arc_Engine_State_s41 8 done idJ (fun w' => Sat W w' [aB b s xb c x.p]) (stQ W L b c N x) b s (some ⟨xb, 0, none⟩) x.p b9 t10 (rowT sT1 x.t1) b16 t17 (rowT sT2 x.t2) b23 t24 (rowT sB1 x.b1) w := by
  refine drS_to (d2 := [0, 1, 2, 3, 4, 5, 6, 7, 8, 9, 10, 11, 12, 13, 14, 15, 16, 17, 18, 19, 20, 21, 22, 23, 24, 28, 29, 30, 31]) hd ?_
  show arc_Engine_State_s41 (7 + 1) [0, 1, 2, 3, 4, 5, 6, 7, 8, 9, 10, 11, 12, 13, 14, 15, 16, 17, 18, 19, 20, 21, 22, 23, 24, 28, 29, 30, 31] idJ (fun w' => Sat W w' [aB b s xb c x.p]) (stQ W L b c N x) b s (some ⟨xb, 0, none⟩) x.p b9 t10 (rowT sT1 x.t1) b16 t17 (rowT sT2 x.t2) b23 t24 (rowT sB1 x.b1) w
  rw [arc_Engine_State_s41_raw]
  refine newB_at hs fun nb w hs => keep_imp hs ?_
  exact st_43 o (by kernel_rfl) (by exact Sat.fin hs)
theorem st_40 (o : StOk W N x) (hd : sameL done [0, 1, 2, 3, 4, 5, 6, 7, 8, 9, 10, 11, 12, 13, 14, 15, 16, 17, 18, 21, 22, 23, 24, 25, 28, 29, 30, 31] = true) (hs : Sat W w (blk b23 [.int .i64 (2 : Int)] :: blk b30 [.int .i64 (3 : Int)] :: aB b s xb c x.p :: rowsC s xb N x.rows :: L)) :
    arc_Engine_State_s40 9 done idJ (fun w' => Sat W w' [aB b s xb c x.p]) (stQ W L b c N x) b s (some ⟨xb, 0, none⟩) x.p b9 t10 (rowT sT1 x.t1) b16 t17 (rowT sT2 x.t2) b23 b30 w := by
  refine drS_to (d2 := [0, 1, 2, 3, 4, 5, 6, 7, 8, 9, 10, 11, 12, 13, 14, 15, 16, 17, 18, 21, 22, 23, 24, 25, 28, 29, 30, 31]) hd ?_
  show arc_Engine_State_s40 (8 + 1) [0, 1, 2, 3, 4, 5, 6, 7, 8, 9, 10, 11, 12, 13, 14, 15, 16, 17, 18, 21, 22, 23, 24, 25, 28, 29, 30, 31] idJ (fun w' => Sat W w' [aB b s xb c x.p]) (stQ W L b c N x) b s (some ⟨xb, 0, none⟩) x.p b9 t10 (rowT sT1 x.t1) b16 t17 (rowT sT2 x.t2) b23 b30 w
  rw [arc_Engine_State_s40_raw]
  refine keys_of [2] (M := blk b30 [.int .i64 (3 : Int)] :: aB b s xb c x.p :: L) (by exact Sat.fin hs) o.n rfl fun l w hs => keep_imp hs ?_
  rw [rk2] at hs
  exact st_42 o (by kernel_rfl) (by exact Sat.fin hs)
theorem st_39 (o : StOk W N x) (hd : sameL done [0, 1, 2, 3, 4, 5, 6, 7, 8, 9, 10, 11, 12, 13, 14, 15, 16, 17, 18, 19, 21, 22, 23, 24, 28, 29, 30, 31] = true) (hs : Sat W w (recs Rec.str t24 x.b1 :: aB b s xb c x.p :: rowsC s xb N x.rows :: L)) :
    arc_Engine_State_s39 9 done idJ (fun w' => Sat W w' [aB b s xb c x.p]) (stQ W L b c N x) b s (some ⟨xb, 0, none⟩) x.p b9 t10 (rowT sT1 x.t1) b16 t17 (rowT sT2 x.t2) b23 t24 w := by
  refine drS_to (d2 := [0, 1, 2, 3, 4, 5, 6, 7, 8, 9, 10, 11, 12, 13, 14, 15, 16, 17, 18, 19, 21, 22, 23, 24, 28, 29, 30, 31]) hd ?_
  show arc_Engine_State_s39 (8 + 1) [0, 1, 2, 3, 4, 5, 6, 7, 8, 9, 10, 11, 12, 13, 14, 15, 16, 17, 18, 19, 21, 22, 23, 24, 28, 29, 30, 31] idJ (fun w' => Sat W w' [aB b s xb c x.p]) (stQ W L b c N x) b s (some ⟨xb, 0, none⟩) x.p b9 t10 (rowT sT1 x.t1) b16 t17 (rowT sT2 x.t2) b23 t24 w
  rw [arc_Engine_State_s39_raw]
  refine ⟨?_, ?_⟩
  · refine call1_of (arc_text_at (s := t24) (ks := x.b1) hs o.z3 (by have := o.l3; have := o.n; omega) (by decide)) fun e w ⟨he, hs⟩ => ⟨_, he, keep_imp hs ?_⟩
    exact st_41 o (by kernel_rfl) (by exact Sat.fin hs)
  · refine newB_at hs fun nb w hs => keep_imp hs ?_
    exact st_42 o (by kernel_rfl) (by exact Sat.fin hs)
theorem st_38 (o : StOk W N x) (hd : sameL done [0, 1, 2, 3, 4, 5, 6, 7, 8, 9, 10, 11, 12, 14, 15, 16, 17, 18, 21, 22, 23, 24, 25, 28, 29, 30, 31] = true) (hs : Sat W w (recs Rec.str t17 x.t2 :: blk b23 [.int .i64 (2 : Int)] :: blk b30 [.int .i64 (3 : Int)] :: aB b s xb c x.p :: rowsC s xb N x.rows :: L)) :
    arc_Engine_State_s38 10 done idJ (fun w' => Sat W w' [aB b s xb c x.p]) (stQ W L b c N x) b s (some ⟨xb, 0, none⟩) x.p b9 t10 (rowT sT1 x.t1) b16 t17 b23 b30 w := by
  refine drS_to (d2 := [0, 1, 2, 3, 4, 5, 6, 7, 8, 9, 10, 11, 12, 14, 15, 16, 17, 18, 21, 22, 23, 24, 25, 28, 29, 30, 31]) hd ?_
  show arc_Engine_State_s38 (9 + 1) [0, 1, 2, 3, 4, 5, 6, 7, 8, 9, 10, 11, 12, 14, 15, 16, 17, 18, 21, 22, 23, 24, 25, 28, 29, 30, 31] idJ (fun w' => Sat W w' [aB b s xb c x.p]) (stQ W L b c N x) b s (some ⟨xb, 0, none⟩) x.p b9 t10 (rowT sT1 x.t1) b16 t17 b23 b30 w
  rw [arc_Engine_State_s38_raw]
  refine call1_of (arc_text_at (s := t17) (ks := x.t2) hs o.z2 (by have := o.l2; have := o.n; omega) (by decide)) fun e w ⟨he, hs⟩ => ⟨_, he, keep_imp hs ?_⟩
  exact st_40 o (by kernel_rfl) (by exact Sat.fin hs)
theorem st_37 (o : StOk W N x) (hd : sameL done [0, 1, 2, 3, 4, 5, 6, 7, 8, 9, 10, 11, 12, 13, 14, 15, 16, 17, 21, 22, 23, 24, 25, 28, 29, 30, 31] = true) (hs : Sat W w (blk b30 [.int .i64 (3 : Int)] :: aB b s xb c x.p :: rowsC s xb N x.rows :: L)) :
    arc_Engine_State_s37 10 done idJ (fun w' => Sat W w' [aB b s xb c x.p]) (stQ W L b c N x) b s (some ⟨xb, 0, none⟩) x.p b9 t10 (rowT sT1 x.t1) b16 t17 (rowT sT2 x.t2) b30 w := by
  refine drS_to (d2 := [0, 1, 2, 3, 4, 5, 6, 7, 8, 9, 10, 11, 12, 13, 14, 15, 16, 17, 21, 22, 23, 24, 25, 28, 29, 30, 31]) hd ?_
  show arc_Engine_State_s37 (9 + 1) [0, 1, 2, 3, 4, 5, 6, 7, 8, 9, 10, 11, 12, 13, 14, 15, 16, 17, 21, 22, 23, 24, 25, 28, 29, 30, 31] idJ (fun w' => Sat W w' [aB b s xb c x.p]) (stQ W L b c N x) b s (some ⟨xb, 0, none⟩) x.p b9 t10 (rowT sT1 x.t1) b16 t17 (rowT sT2 x.t2) b30 w
  rw [arc_Engine_State_s37_raw]
  refine newB_at hs fun nb w hs => keep_imp hs ?_
  exact st_40 o (by kernel_rfl) (by exact Sat.fin hs)
theorem st_36 (o : StOk W N x) (hd : sameL done [0, 1, 2, 3, 4, 5, 6, 7, 8, 9, 10, 11, 12, 13, 14, 15, 16, 17, 18, 21, 22, 23, 24, 28, 29, 30, 31] = true) (hs : Sat W w (blk b23 [.int .i64 (2 : Int)] :: aB b s xb c x.p :: rowsC s xb N x.rows :: L)) :
    arc_Engine_State_s36 10 done idJ (fun w' => Sat W w' [aB b s xb c x.p]) (stQ W L b c N x) b s (some ⟨xb, 0, none⟩) x.p b9 t10 (rowT sT1 x.t1) b16 t17 (rowT sT2 x.t2) b23 w := by
  refine drS_to (d2 := [0, 1, 2, 3, 4, 5, 6, 7, 8, 9, 10, 11, 12, 13, 14, 15, 16, 17, 18, 21, 22, 23, 24, 28, 29, 30, 31]) hd ?_
  show arc_Engine_State_s36 (9 + 1) [0, 1, 2, 3, 4, 5, 6, 7, 8, 9, 10, 11, 12, 13, 14, 15, 16, 17, 18, 21, 22, 23, 24, 28, 29, 30, 31] idJ (fun w' => Sat W w' [aB b s xb c x.p]) (stQ W L b c N x) b s (some ⟨xb, 0, none⟩) x.p b9 t10 (rowT sT1 x.t1) b16 t17 (rowT sT2 x.t2) b23 w
  rw [arc_Engine_State_s36_raw]
  refine ⟨?_, ?_⟩
  · refine keys_of [2] (M := aB b s xb c x.p :: L) (by exact Sat.fin hs) o.n rfl fun l w hs => keep_imp hs ?_
    rw [rk2] at hs
    exact st_39 o (by kernel_rfl) (by exact Sat.fin hs)
  · refine newB_at hs fun nb w hs => keep_imp hs ?_
    exact st_40 o (by kernel_rfl) (by exact Sat.fin hs)
theorem st_35 (o : StOk W N x) (hd : sameL done [0, 1, 2, 3, 4, 5, 6, 7, 8, 9, 10, 11, 14, 15, 16, 17, 18, 21, 22, 23, 24, 25, 28, 29, 30, 31] = true) (hs : Sat W w (blk b16 [.int .i64 (1 : Int)] :: blk b23 [.int .i64 (2 : Int)] :: blk b30 [.int .i64 (3 : Int)] :: aB b s xb c x.p :: rowsC s xb N x.rows :: L)) :
    arc_Engine_State_s35 11 done idJ (fun w' => Sat W w' [aB b s xb c x.p]) (stQ W L b c N x) b s (some ⟨xb, 0, none⟩) x.p b9 t10 (rowT sT1 x.t1) b16 b23 b30 w := by
  refine drS_to (d2 := [0, 1, 2, 3, 4, 5, 6, 7, 8, 9, 10, 11, 14, 15, 16, 17, 18, 21, 22, 23, 24, 25, 28, 29, 30, 31]) hd ?_
  show arc_Engine_State_s35 (10 + 1) [0, 1, 2, 3, 4, 5, 6, 7, 8, 9, 10, 11, 14, 15, 16, 17, 18, 21, 22, 23, 24, 25, 28, 29, 30, 31] idJ (fun w' => Sat W w' [aB b s xb c x.p]) (stQ W L b c N x) b s (some ⟨xb, 0, none⟩) x.p b9 t10 (rowT sT1 x.t1) b16 b23 b30 w
  rw [arc_Engine_State_s35_raw]
  refine keys_of [1] (M := blk b23 [.int .i64 (2 : Int)] :: blk b30 [.int .i64 (3 : Int)] :: aB b s xb c x.p :: L) (by exact Sat.fin hs) o.n rfl fun l w hs => keep_imp hs ?_
  rw [rk1] at hs
  exact st_38 o (by kernel_rfl) (by exact Sat.fin hs)
theorem st_34 (o : StOk W N x) (hd : sameL done [0, 1, 2, 3, 4, 5, 6, 7, 8, 9, 10, 11, 12, 14, 15, 16, 17, 21, 22, 23, 24, 25, 28, 29, 30, 31] = true) (hs : Sat W w (recs Rec.str t17 x.t2 :: blk b30 [.int .i64 (3 : Int)] :: aB b s xb c x.p :: rowsC s xb N x.rows :: L)) :
    arc_Engine_State_s34 11 done idJ (fun w' => Sat W w' [aB b s xb c x.p]) (stQ W L b c N x) b s (some ⟨xb, 0, none⟩) x.p b9 t10 (rowT sT1 x.t1) b16 t17 b30 w := by
  refine drS_to (d2 := [0, 1, 2, 3, 4, 5, 6, 7, 8, 9, 10, 11, 12, 14, 15, 16, 17, 21, 22, 23, 24, 25, 28, 29, 30, 31]) hd ?_
  show arc_Engine_State_s34 (10 + 1) [0, 1, 2, 3, 4, 5, 6, 7, 8, 9, 10, 11, 12, 14, 15, 16, 17, 21, 22, 23, 24, 25, 28, 29, 30, 31] idJ (fun w' => Sat W w' [aB b s xb c x.p]) (stQ W L b c N x) b s (some ⟨xb, 0, none⟩) x.p b9 t10 (rowT sT1 x.t1) b16 t17 b30 w
  rw [arc_Engine_State_s34_raw]
  refine ⟨?_, ?_⟩
  · refine call1_of (arc_text_at (s := t17) (ks := x.t2) hs o.z2 (by have := o.l2; have := o.n; omega) (by decide)) fun e w ⟨he, hs⟩ => ⟨_, he, keep_imp hs ?_⟩
    exact st_37 o (by kernel_rfl) (by exact Sat.fin hs)
  · refine newB_at hs fun nb w hs => keep_imp hs ?_
    exact st_38 o (by kernel_rfl) (by exact Sat.fin hs)
theorem st_33 (o : StOk W N x) (hd : sameL done [0, 1, 2, 3, 4, 5, 6, 7, 8, 9, 10, 11, 12, 14, 15, 16, 17, 18, 21, 22, 23, 24, 28, 29, 30, 31] = true) (hs : Sat W w (recs Rec.str t17 x.t2 :: blk b23 [.int .i64 (2 : Int)] :: aB b s xb c x.p :: rowsC s xb N x.rows :: L)) :
    arc_Engine_State_s33 11 done idJ (fun w' => Sat W w' [aB b s xb c x.p]) (stQ W L b c N x) b s (some ⟨xb, 0, none⟩) x.p b9 t10 (rowT sT1 x.t1) b16 t17 b23 w := by
  refine drS_to (d2 := [0, 1, 2, 3, 4, 5, 6, 7, 8, 9, 10, 11, 12, 14, 15, 16, 17, 18, 21, 22, 23, 24, 28, 29, 30, 31]) hd ?_
  show arc_Engine_State_s33 (10 + 1) [0, 1, 2, 3, 4, 5, 6, 7, 8, 9, 10, 11, 12, 14, 15, 16, 17, 18, 21, 22, 23, 24, 28, 29, 30, 31] idJ (fun w' => Sat W w' [aB b s xb c x.p]) (stQ W L b c N x) b s (some ⟨xb, 0, none⟩) x.p b9 t10 (rowT sT1 x.t1) b16 t17 b23 w
  rw [arc_Engine_State_s33_raw]
  refine ⟨?_, ?_⟩
  · refine call1_of (arc_text_at (s := t17) (ks := x.t2) hs o.z2 (by have := o.l2; have := o.n; omega) (by decide)) fun e w ⟨he, hs⟩ => ⟨_, he, keep_imp hs ?_⟩
    exact st_36 o (by kernel_rfl) (by exact Sat.fin hs)
  · refine newB_at hs fun nb w hs => keep_imp hs ?_
    exact st_38 o (by kernel_rfl) (by exact Sat.fin hs)
theorem st_32 (o : StOk W N x) (hd : sameL done [0, 1, 2, 3, 4, 5, 6, 7, 8, 9, 10, 11, 12, 13, 14, 15, 16, 17, 21, 22, 23, 24, 28, 29, 30, 31] = true) (hs : Sat W w (aB b s xb c x.p :: rowsC s xb N x.rows :: L)) :
    arc_Engine_State_s32 11 done idJ (fun w' => Sat W w' [aB b s xb c x.p]) (stQ W L b c N x) b s (some ⟨xb, 0, none⟩) x.p b9 t10 (rowT sT1 x.t1) b16 t17 (rowT sT2 x.t2) w := by
  refine drS_to (d2 := [0, 1, 2, 3, 4, 5, 6, 7, 8, 9, 10, 11, 12, 13, 14, 15, 16, 17, 21, 22, 23, 24, 28, 29, 30, 31]) hd ?_
  show arc_Engine_State_s32 (10 + 1) [0, 1, 2, 3, 4, 5, 6, 7, 8, 9, 10, 11, 12, 13, 14, 15, 16, 17, 21, 22, 23, 24, 28, 29, 30, 31] idJ (fun w' => Sat W w' [aB b s xb c x.p]) (stQ W L b c N x) b s (some ⟨xb, 0, none⟩) x.p b9 t10 (rowT sT1 x.t1) b16 t17 (rowT sT2 x.t2) w
  rw [arc_Engine_State_s32_raw]
  refine ⟨?_, ?_⟩
  · refine newB_at hs fun nb w hs => keep_imp hs ?_
    exact st_36 o (by kernel_rfl) (by exact Sat.fin hs)
  · refine newB_at hs fun nb w hs => keep_imp hs ?_
    exact st_37 o (by kernel_rfl) (by exact Sat.fin hs)
theorem st_31 (o : StOk W N x) (hd : sameL done [0, 1, 2, 3, 4, 5, 7, 8, 9, 10, 11, 14, 15, 16, 17, 18, 21, 22, 23, 24, 25, 28, 29, 30, 31] = true) (hs : Sat W w (recs Rec.str t10 x.t1 :: blk b16 [.int .i64 (1 : Int)] :: blk b23 [.int .i64 (2 : Int)] :: blk b30 [.int .i64 (3 : Int)] :: aB b s xb c x.p :: rowsC s xb N x.rows :: L)) :
    arc_Engine_State_s31 12 done idJ (fun w' => Sat W w' [aB b s xb c x.p]) (stQ W L b c N x) b s (some ⟨xb, 0, none⟩) x.p b9 t10 b16 b23 b30 w := by
  refine drS_to (d2 := [0, 1, 2, 3, 4, 5, 7, 8, 9, 10, 11, 14, 15, 16, 17, 18, 21, 22, 23, 24, 25, 28, 29, 30, 31]) hd ?_
  show arc_Engine_State_s31 (11 + 1) [0, 1, 2, 3, 4, 5, 7, 8, 9, 10, 11, 14, 15, 16, 17, 18, 21, 22, 23, 24, 25, 28, 29, 30, 31] idJ (fun w' => Sat W w' [aB b s xb c x.p]) (stQ W L b c N x) b s (some ⟨xb, 0, none⟩) x.p b9 t10 b16 b23 b30 w
  rw [arc_Engine_State_s31_raw]
  refine call1_of (arc_text_at (s := t10) (ks := x.t1) hs o.z1 (by have := o.l1; have := o.n; omega) (by decide)) fun e w ⟨he, hs⟩ => ⟨_, he, keep_imp hs ?_⟩
  exact st_35 o (by kernel_rfl) (by exact Sat.fin hs)
theorem st_30 (o : StOk W N x) (hd : sameL done [0, 1, 2, 3, 4, 5, 6, 7, 8, 9, 10, 14, 15, 16, 17, 18, 21, 22, 23, 24, 25, 28, 29, 30, 31] = true) (hs : Sat W w (blk b23 [.int .i64 (2 : Int)] :: blk b30 [.int .i64 (3 : Int)] :: aB b s xb c x.p :: rowsC s xb N x.rows :: L)) :
    arc_Engine_State_s30 12 done idJ (fun w' => Sat W w' [aB b s xb c x.p]) (stQ W L b c N x) b s (some ⟨xb, 0, none⟩) x.p b9 t10 (rowT sT1 x.t1) b23 b30 w := by
  refine drS_to (d2 := [0, 1, 2, 3, 4, 5, 6, 7, 8, 9, 10, 14, 15, 16, 17, 18, 21, 22, 23, 24, 25, 28, 29, 30, 31]) hd ?_
  show arc_Engine_State_s30 (11 + 1) [0, 1, 2, 3, 4, 5, 6, 7, 8, 9, 10, 14, 15, 16, 17, 18, 21, 22, 23, 24, 25, 28, 29, 30, 31] idJ (fun w' => Sat W w' [aB b s xb c x.p]) (stQ W L b c N x) b s (some ⟨xb, 0, none⟩) x.p b9 t10 (rowT sT1 x.t1) b23 b30 w
  rw [arc_Engine_State_s30_raw]
  refine newB_at hs fun nb w hs => keep_imp hs ?_
  exact st_35 o (by kernel_rfl) (by exact Sat.fin hs)
theorem st_29 (o : StOk W N x) (hd : sameL done [0, 1, 2, 3, 4, 5, 6, 7, 8, 9, 10, 11, 14, 15, 16, 17, 21, 22, 23, 24, 25, 28, 29, 30, 31] = true) (hs : Sat W w (blk b16 [.int .i64 (1 : Int)] :: blk b30 [.int .i64 (3 : Int)] :: aB b s xb c x.p :: rowsC s xb N x.rows :: L)) :
    arc_Engine_State_s29 12 done idJ (fun w' => Sat W w' [aB b s xb c x.p]) (stQ W L b c N x) b s (some ⟨xb, 0, none⟩) x.p b9 t10 (rowT sT1 x.t1) b16 b30 w := by
  refine drS_to (d2 := [0, 1, 2, 3, 4, 5, 6, 7, 8, 9, 10, 11, 14, 15, 16, 17, 21, 22, 23, 24, 25, 28, 29, 30, 31]) hd ?_
  show arc_Engine_State_s29 (11 + 1) [0, 1, 2, 3, 4, 5, 6, 7, 8, 9, 10, 11, 14, 15, 16, 17, 21, 22, 23, 24, 25, 28, 29, 30, 31] idJ (fun w' => Sat W w' [aB b s xb c x.p]) (stQ W L b c N x) b s (some ⟨xb, 0, none⟩) x.p b9 t10 (rowT sT1 x.t1) b16 b30 w
  rw [arc_Engine_State_s29_raw]
  refine ⟨?_, ?_⟩
  · refine keys_of [1] (M := blk b30 [.int .i64 (3 : Int)] :: aB b s xb c x.p :: L) (by exact Sat.fin hs) o.n rfl fun l w hs => keep_imp hs ?_
    rw [rk1] at hs
    exact st_34 o (by kernel_rfl) (by exact Sat.fin hs)
  · refine newB_at hs fun nb w hs => keep_imp hs ?_
    exact st_35 o (by kernel_rfl) (by exact Sat.fin hs)
theorem st_28 (o : StOk W N x) (hd : sameL done [0, 1, 2, 3, 4, 5, 6, 7, 8, 9, 10, 11, 14, 15, 16, 17, 18, 21, 22, 23, 24, 28, 29, 30, 31] = true) (hs : Sat W w (blk b16 [.int .i64 (1 : Int)] :: blk b23 [.int .i64 (2 : Int)] :: aB b s xb c x.p :: rowsC s xb N x.rows :: L)) :
    arc_Engine_State_s28 12 done idJ (fun w' => Sat W w' [aB b s xb c x.p]) (stQ W L b c N x) b s (some ⟨xb, 0, none⟩) x.p b9 t10 (rowT sT1 x.t1) b16 b23 w := by
  refine drS_to (d2 := [0, 1, 2, 3, 4, 5, 6, 7, 8, 9, 10, 11, 14, 15, 16, 17, 18, 21, 22, 23, 24, 28, 29, 30, 31]) hd ?_
  show arc_Engine_State_s28 (11 + 1) [0, 1, 2, 3, 4, 5, 6, 7, 8, 9, 10, 11, 14, 15, 16, 17, 18, 21, 22, 23, 24, 28, 29, 30, 31] idJ (fun w' => Sat W w' [aB b s xb c x.p]) (stQ W L b c N x) b s (some ⟨xb, 0, none⟩) x.p b9 t10 (rowT sT1 x.t1) b16 b23 w
  rw [arc_Engine_State_s28_raw]
  refine ⟨?_, ?_⟩
  · refine keys_of [1] (M := blk b23 [.int .i64 (2 : Int)] :: aB b s xb c x.p :: L) (by exact Sat.fin hs) o.n rfl fun l w hs => keep_imp hs ?_
    rw [rk1] at hs
    exact st_33 o (by kernel_rfl) (by exact Sat.fin hs)
  · refine newB_at hs fun nb w hs => keep_imp hs ?_
    exact st_35 o (by kernel_rfl) (by exact Sat.fin hs)
theorem st_27 (o : StOk W N x) (hd : sameL done [0, 1, 2, 3, 4, 5, 6, 7, 8, 9, 10, 11, 12, 14, 15, 16, 17, 21, 22, 23, 24, 28, 29, 30, 31] = true) (hs : Sat W w (recs Rec.str t17 x.t2 :: aB b s xb c x.p :: rowsC s xb N x.rows :: L)) :
    arc_Engine_State_s27 12 done idJ (fun w' => Sat W w' [aB b s xb c x.p]) (stQ W L b c N x) b s (some ⟨xb, 0, none⟩) x.p b9 t10 (rowT sT1 x.t1) b16 t17 w := by
  refine drS_to (d2 := [0, 1, 2, 3, 4, 5, 6, 7, 8, 9, 10, 11, 12, 14, 15, 16, 17, 21, 22, 23, 24, 28, 29, 30, 31]) hd ?_
  show arc_Engine_State_s27 (11 + 1) [0, 1, 2, 3, 4, 5, 6, 7, 8, 9, 10, 11, 12, 14, 15, 16, 17, 21, 22, 23, 24, 28, 29, 30, 31] idJ (fun w' => Sat W w' [aB b s xb c x.p]) (stQ W L b c N x) b s (some ⟨xb, 0, none⟩) x.p b9 t10 (rowT sT1 x.t1) b16 t17 w
  rw [arc_Engine_State_s27_raw]
  refine ⟨?_, ?_, ?_⟩
  · refine call1_of (arc_text_at (s := t17) (ks := x.t2) hs o.z2 (by have := o.l2; have := o.n; omega) (by decide)) fun e w ⟨he, hs⟩ => ⟨_, he, keep_imp hs ?_⟩
    exact st_32 o (by kernel_rfl) (by exact Sat.fin hs)
  · refine newB_at hs fun nb w hs => keep_imp hs ?_
    exact st_33 o (by kernel_rfl) (by exact Sat.fin hs)
  · refine newB_at hs fun nb w hs => keep_imp hs ?_
    exact st_34 o (by kernel_rfl) (by exact Sat.fin hs)
theorem st_26 (o : StOk W N x) (hd : sameL done [0, 1, 2, 3, 4, 7, 8, 9, 10, 11, 14, 15, 16, 17, 18, 21, 22, 23, 24, 25, 28, 29, 30, 31] = true) (hs : Sat W w (blk b9 [.int .i64 (0 : Int)] :: blk b16 [.int .i64 (1 : Int)] :: blk b23 [.int .i64 (2 : Int)] :: blk b30 [.int .i64 (3 : Int)] :: aB b s xb c x.p :: rowsC s xb N x.rows :: L)) :
    arc_Engine_State_s26 13 done idJ (fun w' => Sat W w' [aB b s xb c x.p]) (stQ W L b c N x) b s (some ⟨xb, 0, none⟩) x.p b9 b16 b23 b30 w := by
  refine drS_to (d2 := [0, 1, 2, 3, 4, 7, 8, 9, 10, 11, 14, 15, 16, 17, 18, 21, 22, 23, 24, 25, 28, 29, 30, 31]) hd ?_
  show arc_Engine_State_s26 (12 + 1) [0, 1, 2, 3, 4, 7, 8, 9, 10, 11, 14, 15, 16, 17, 18, 21, 22, 23, 24, 25, 28, 29, 30, 31] idJ (fun w' => Sat W w' [aB b s xb c x.p]) (stQ W L b c N x) b s (some ⟨xb, 0, none⟩) x.p b9 b16 b23 b30 w
  rw [arc_Engine_State_s26_raw]
  refine keys_of [0] (M := blk b16 [.int .i64 (1 : Int)] :: blk b23 [.int .i64 (2 : Int)] :: blk b30 [.int .i64 (3 : Int)] :: aB b s xb c x.p :: L) (by exact Sat.fin hs) o.n rfl fun l w hs => keep_imp hs ?_
  rw [rk0] at hs
  exact st_31 o (by kernel_rfl) (by exact Sat.fin hs)
theorem st_25 (o : StOk W N x) (hd : sameL done [0, 1, 2, 3, 4, 5, 7, 8, 9, 10, 14, 15, 16, 17, 18, 21, 22, 23, 24, 25, 28, 29, 30, 31] = true) (hs : Sat W w (recs Rec.str t10 x.t1 :: blk b23 [.int .i64 (2 : Int)] :: blk b30 [.int .i64 (3 : Int)] :: aB b s xb c x.p :: rowsC s xb N x.rows :: L)) :
    arc_Engine_State_s25 13 done idJ (fun w' => Sat W w' [aB b s xb c x.p]) (stQ W L b c N x) b s (some ⟨xb, 0, none⟩) x.p b9 t10 b23 b30 w := by
  refine drS_to (d2 := [0, 1, 2, 3, 4, 5, 7, 8, 9, 10, 14, 15, 16, 17, 18, 21, 22, 23, 24, 25, 28, 29, 30, 31]) hd ?_
  show arc_Engine_State_s25 (12 + 1) [0, 1, 2, 3, 4, 5, 7, 8, 9, 10, 14, 15, 16, 17, 18, 21, 22, 23, 24, 25, 28, 29, 30, 31] idJ (fun w' => Sat W w' [aB b s xb c x.p]) (stQ W L b c N x) b s (some ⟨xb, 0, none⟩) x.p b9 t10 b23 b30 w
  rw [arc_Engine_State_s25_raw]
  refine ⟨?_, ?_⟩
  · refine call1_of (arc_text_at (s := t10) (ks := x.t1) hs o.z1 (by have := o.l1; have := o.n; omega) (by decide)) fun e w ⟨he, hs⟩ => ⟨_, he, keep_imp hs ?_⟩
    exact st_30 o (by kernel_rfl) (by exact Sat.fin hs)
  · refine newB_at hs fun nb w hs => keep_imp hs ?_
    exact st_31 o (by kernel_rfl) (by exact Sat.fin hs)
theorem st_24 (o : StOk W N x) (hd : sameL done [0, 1, 2, 3, 4, 5, 7, 8, 9, 10, 11, 14, 15, 16, 17, 21, 22, 23, 24, 25, 28, 29, 30, 31] = true) (hs : Sat W w (recs Rec.str t10 x.t1 :: blk b16 [.int .i64 (1 : Int)] :: blk b30 [.int .i64 (3 : Int)] :: aB b s xb c x.p :: rowsC s xb N x.rows :: L)) :
    arc_Engine_State_s24 13 done idJ (fun w' => Sat W w' [aB b s xb c x.p]) (stQ W L b c N x) b s (some ⟨xb, 0, none⟩) x.p b9 t10 b16 b30 w := by
  refine drS_to (d2 := [0, 1, 2, 3, 4, 5, 7, 8, 9, 10, 11, 14, 15, 16, 17, 21, 22, 23, 24, 25, 28, 29, 30, 31]) hd ?_
  show arc_Engine_State_s24 (12 + 1) [0, 1, 2, 3, 4, 5, 7, 8, 9, 10, 11, 14, 15, 16, 17, 21, 22, 23, 24, 25, 28, 29, 30, 31] idJ (fun w' => Sat W w' [aB b s xb c x.p]) (stQ W L b c N x) b s (some ⟨xb, 0, none⟩) x.p b9 t10 b16 b30 w
  rw [arc_Engine_State_s24_raw]
  refine ⟨?_, ?_⟩
  · refine call1_of (arc_text_at (s := t10) (ks := x.t1) hs o.z1 (by have := o.l1; have := o.n; omega) (by decide)) fun e w ⟨he, hs⟩ => ⟨_, he, keep_imp hs ?_⟩
    exact st_29 o (by kernel_rfl) (by exact Sat.fin hs)
  · refine newB_at hs fun nb w hs => keep_imp hs ?_
    exact st_31 o (by kernel_rfl) (by exact Sat.fin hs)
theorem st_23 (o : StOk W N x) (hd : sameL done [0, 1, 2, 3, 4, 5, 7, 8, 9, 10, 11, 14, 15, 16, 17, 18, 21, 22, 23, 24, 28, 29, 30, 31] = true) (hs : Sat W w (recs Rec.str t10 x.t1 :: blk b16 [.int .i64 (1 : Int)] :: blk b23 [.int .i64 (2 : Int)] :: aB b s xb c x.p :: rowsC s xb N x.rows :: L)) :
    arc_Engine_State_s23 13 done idJ (fun w' => Sat W w' [aB b s xb c x.p]) (stQ W L b c N x) b s (some ⟨xb, 0, none⟩) x.p b9 t10 b16 b23 w := by
  refine drS_to (d2 := [0, 1, 2, 3, 4, 5, 7, 8, 9, 10, 11, 14, 15, 16, 17, 18, 21, 22, 23, 24, 28, 29, 30, 31]) hd ?_
  show arc_Engine_State_s23 (12 + 1) [0, 1, 2, 3, 4, 5, 7, 8, 9, 10, 11, 14, 15, 16, 17, 18, 21, 22, 23, 24, 28, 29, 30, 31] idJ (fun w' => Sat W w' [aB b s xb c x.p]) (stQ W L b c N x) b s (some ⟨xb, 0, none⟩) x.p b9 t10 b16 b23 w
  rw [arc_Engine_State_s23_raw]
  refine ⟨?_, ?_⟩
  · refine call1_of (arc_text_at (s := t10) (ks := x.t1) hs o.z1 (by have := o.l1; have := o.n; omega) (by decide)) fun e w ⟨he, hs⟩ => ⟨_, he, keep_imp hs ?_⟩
    exact st_28 o (by kernel_rfl) (by exact Sat.fin hs)
  · refine newB_at hs fun nb w hs => keep_imp hs ?_
    exact st_31 o (by kernel_rfl) (by exact Sat.fin hs)
theorem st_22 (o : StOk W N x) (hd : sameL done [0, 1, 2, 3, 4, 5, 6, 7, 8, 9, 10, 14, 15, 16, 17, 21, 22, 23, 24, 25, 28, 29, 30, 31] = true) (hs : Sat W w (blk b30 [.int .i64 (3 : Int)] :: aB b s xb c x.p :: rowsC s xb N x.rows :: L)) :
    arc_Engine_State_s22 13 done idJ (fun w' => Sat W w' [aB b s xb c x.p]) (stQ W L b c N x) b s (some ⟨xb, 0, none⟩) x.p b9 t10 (rowT sT1 x.t1) b30 w := by
  refine drS_to (d2 := [0, 1, 2, 3, 4, 5, 6, 7, 8, 9, 10, 14, 15, 16, 17, 21, 22, 23, 24, 25, 28, 29, 30, 31]) hd ?_
  show arc_Engine_State_s22 (12 + 1) [0, 1, 2, 3, 4, 5, 6, 7, 8, 9, 10, 14, 15, 16, 17, 21, 22, 23, 24, 25, 28, 29, 30, 31] idJ (fun w' => Sat W w' [aB b s xb c x.p]) (stQ W L b c N x) b s (some ⟨xb, 0, none⟩) x.p b9 t10 (rowT sT1 x.t1) b30 w
  rw [arc_Engine_State_s22_raw]
  refine ⟨?_, ?_⟩
  · refine newB_at hs fun nb w hs => keep_imp hs ?_
    exact st_29 o (by kernel_rfl) (by exact Sat.fin hs)
  · refine newB_at hs fun nb w hs => keep_imp hs ?_
    exact st_30 o (by kernel_rfl) (by exact Sat.fin hs)
theorem st_21 (o : StOk W N x) (hd : sameL done [0, 1, 2, 3, 4, 5, 6, 7, 8, 9, 10, 14, 15, 16, 17, 18, 21, 22, 23, 24, 28, 29, 30, 31] = true) (hs : Sat W w (blk b23 [.int .i64 (2 : Int)] :: aB b s xb c x.p :: rowsC s xb N x.rows :: L)) :
    arc_Engine_State_s21 13 done idJ (fun w' => Sat W w' [aB b s xb c x.p]) (stQ W L b c N x) b s (some ⟨xb, 0, none⟩) x.p b9 t10 (rowT sT1 x.t1) b23 w := by
  refine drS_to (d2 := [0, 1, 2, 3, 4, 5, 6, 7, 8, 9, 10, 14, 15, 16, 17, 18, 21, 22, 23, 24, 28, 29, 30, 31]) hd ?_
  show arc_Engine_State_s21 (12 + 1) [0, 1, 2, 3, 4, 5, 6, 7, 8, 9, 10, 14, 15, 16, 17, 18, 21, 22, 23, 24, 28, 29, 30, 31] idJ (fun w' => Sat W w' [aB b s xb c x.p]) (stQ W L b c N x) b s (some ⟨xb, 0, none⟩) x.p b9 t10 (rowT sT1 x.t1) b23 w
  rw [arc_Engine_State_s21_raw]
  refine ⟨?_, ?_⟩
  · refine newB_at hs fun nb w hs => keep_imp hs ?_
    exact st_28 o (by kernel_rfl) (by exact Sat.fin hs)
  · refine newB_at hs fun nb w hs => keep_imp hs ?_
    exact st_30 o (by kernel_rfl) (by exact Sat.fin hs)
theorem st_20 (o : StOk W N x) (hd : sameL done [0, 1, 2, 3, 4, 5, 6, 7, 8, 9, 10, 11, 14, 15, 16, 17, 21, 22, 23, 24, 28, 29, 30, 31] = true) (hs : Sat W w (blk b16 [.int .i64 (1 : Int)] :: aB b s xb c x.p :: rowsC s xb N x.rows :: L)) :
    arc_Engine_State_s20 13 done idJ (fun w' => Sat W w' [aB b s xb c x.p]) (stQ W L b c N x) b s (some ⟨xb, 0, none⟩) x.p b9 t10 (rowT sT1 x.t1) b16 w := by
  refine drS_to (d2 := [0, 1, 2, 3, 4, 5, 6, 7, 8, 9, 10, 11, 14, 15, 16, 17, 21, 22, 23, 24, 28, 29, 30, 31]) hd ?_
  show arc_Engine_State_s20 (12 + 1) [0, 1, 2, 3, 4, 5, 6, 7, 8, 9, 10, 11, 14, 15, 16, 17, 21, 22, 23, 24, 28, 29, 30, 31] idJ (fun w' => Sat W w' [aB b s xb c x.p]) (stQ W L b c N x) b s (some ⟨xb, 0, none⟩) x.p b9 t10 (rowT sT1 x.t1) b16 w
  rw [arc_Engine_State_s20_raw]
  refine ⟨?_, ?_, ?_⟩
  · refine keys_of [1] (M := aB b s xb c x.p :: L) (by exact Sat.fin hs) o.n rfl fun l w hs => keep_imp hs ?_
    rw [rk1] at hs
    exact st_27 o (by kernel_rfl) (by exact Sat.fin hs)
  · refine newB_at hs fun nb w hs => keep_imp hs ?_
    exact st_28 o (by kernel_rfl) (by exact Sat.fin hs)
  · refine newB_at hs fun nb w hs => keep_imp hs ?_
    exact st_29 o (by kernel_rfl) (by exact Sat.fin hs)
theorem st_19 (o : StOk W N x) (hd : sameL done [0, 1, 2, 3, 7, 8, 9, 10, 11, 14, 15, 16, 17, 18, 21, 22, 23, 24, 25, 28, 29, 30, 31] = true) (hs : Sat W w (blk b16 [.int .i64 (1 : Int)] :: blk b23 [.int .i64 (2 : Int)] :: blk b30 [.int .i64 (3 : Int)] :: aB b s xb c x.p :: rowsC s xb N x.rows :: L)) :
    arc_Engine_State_s19 14 done idJ (fun w' => Sat W w' [aB b s xb c x.p]) (stQ W L b c N x) b s (some ⟨xb, 0, none⟩) x.p b16 b23 b30 w := by
  refine drS_to (d2 := [0, 1, 2, 3, 7, 8, 9, 10, 11, 14, 15, 16, 17, 18, 21, 22, 23, 24, 25, 28, 29, 30, 31]) hd ?_
  show arc_Engine_State_s19 (13 + 1) [0, 1, 2, 3, 7, 8, 9, 10, 11, 14, 15, 16, 17, 18, 21, 22, 23, 24, 25, 28, 29, 30, 31] idJ (fun w' => Sat W w' [aB b s xb c x.p]) (stQ W L b c N x) b s (some ⟨xb, 0, none⟩) x.p b16 b23 b30 w
  rw [arc_Engine_State_s19_raw]
  refine newB_at hs fun nb w hs => keep_imp hs ?_
  exact st_26 o (by kernel_rfl) (by exact Sat.fin hs)
theorem st_18 (o : StOk W N x) (hd : sameL done [0, 1, 2, 3, 4, 7, 8, 9, 10, 14, 15, 16, 17, 18, 21, 22, 23, 24, 25, 28, 29, 30, 31] = true) (hs : Sat W w (blk b9 [.int .i64 (0 : Int)] :: blk b23 [.int .i64 (2 : Int)] :: blk b30 [.int .i64 (3 : Int)] :: aB b s xb c x.p :: rowsC s xb N x.rows :: L)) :
    arc_Engine_State_s18 14 done idJ (fun w' => Sat W w' [aB b s xb c x.p]) (stQ W L b c N x) b s (some ⟨xb, 0, none⟩) x.p b9 b23 b30 w := by
  refine drS_to (d2 := [0, 1, 2, 3, 4, 7, 8, 9, 10, 14, 15, 16, 17, 18, 21, 22, 23, 24, 25, 28, 29, 30, 31]) hd ?_
  show arc_Engine_State_s18 (13 + 1) [0, 1, 2, 3, 4, 7, 8, 9, 10, 14, 15, 16, 17, 18, 21, 22, 23, 24, 25, 28, 29, 30, 31] idJ (fun w' => Sat W w' [aB b s xb c x.p]) (stQ W L b c N x) b s (some ⟨xb, 0, none⟩) x.p b9 b23 b30 w
  rw [arc_Engine_State_s18_raw]
  refine ⟨?_, ?_⟩
  · refine keys_of [0] (M := blk b23 [.int .i64 (2 : Int)] :: blk b30 [.int .i64 (3 : Int)] :: aB b s xb c x.p :: L) (by exact Sat.fin hs) o.n rfl fun l w hs => keep_imp hs ?_
    rw [rk0] at hs
    exact st_25 o (by kernel_rfl) (by exact Sat.fin hs)
  · refine newB_at hs fun nb w hs => keep_imp hs ?_
    exact st_26 o (by kernel_rfl) (by exact Sat.fin hs)
theorem st_17 (o : StOk W N x) (hd : sameL done [0, 1, 2, 3, 4, 7, 8, 9, 10, 11, 14, 15, 16, 17, 21, 22, 23, 24, 25, 28, 29, 30, 31] = true) (hs : Sat W w (blk b9 [.int .i64 (0 : Int)] :: blk b16 [.int .i64 (1 : Int)] :: blk b30 [.int .i64 (3 : Int)] :: aB b s xb c x.p :: rowsC s xb N x.rows :: L)) :
    arc_Engine_State_s17 14 done idJ (fun w' => Sat W w' [aB b s xb c x.p]) (stQ W L b c N x) b s (some ⟨xb, 0, none⟩) x.p b9 b16 b30 w := by
  refine drS_to (d2 := [0, 1, 2, 3, 4, 7, 8, 9, 10, 11, 14, 15, 16, 17, 21, 22, 23, 24, 25, 28, 29, 30, 31]) hd ?_
  show arc_Engine_State_s17 (13 + 1) [0, 1, 2, 3, 4, 7, 8, 9, 10, 11, 14, 15, 16, 17, 21, 22, 23, 24, 25, 28, 29, 30, 31] idJ (fun w' => Sat W w' [aB b s xb c x.p]) (stQ W L b c N x) b s (some ⟨xb, 0, none⟩) x.p b9 b16 b30 w
  rw [arc_Engine_State_s17_raw]
  refine ⟨?_, ?_⟩
  · refine keys_of [0] (M := blk b16 [.int .i64 (1 : Int)] :: blk b30 [.int .i64 (3 : Int)] :: aB b s xb c x.p :: L) (by exact Sat.fin hs) o.n rfl fun l w hs => keep_imp hs ?_
    rw [rk0] at hs
    exact st_24 o (by kernel_rfl) (by exact Sat.fin hs)
  · refine newB_at hs fun nb w hs => keep_imp hs ?_
    exact st_26 o (by kernel_rfl) (by exact Sat.fin hs)
theorem st_16 (o : StOk W N x) (hd : sameL done [0, 1, 2, 3, 4, 7, 8, 9, 10, 11, 14, 15, 16, 17, 18, 21, 22, 23, 24, 28, 29, 30, 31] = true) (hs : Sat W w (blk b9 [.int .i64 (0 : Int)] :: blk b16 [.int .i64 (1 : Int)] :: blk b23 [.int .i64 (2 : Int)] :: aB b s xb c x.p :: rowsC s xb N x.rows :: L)) :
    arc_Engine_State_s16 14 done idJ (fun w' => Sat W w' [aB b s xb c x.p]) (stQ W L b c N x) b s (some ⟨xb, 0, none⟩) x.p b9 b16 b23 w := by
  refine drS_to (d2 := [0, 1, 2, 3, 4, 7, 8, 9, 10, 11, 14, 15, 16, 17, 18, 21, 22, 23, 24, 28, 29, 30, 31]) hd ?_
  show arc_Engine_State_s16 (13 + 1) [0, 1, 2, 3, 4, 7, 8, 9, 10, 11, 14, 15, 16, 17, 18, 21, 22, 23, 24, 28, 29, 30, 31] idJ (fun w' => Sat W w' [aB b s xb c x.p]) (stQ W L b c N x) b s (some ⟨xb, 0, none⟩) x.p b9 b16 b23 w
  rw [arc_Engine_State_s16_raw]
  refine ⟨?_, ?_⟩
  · refine keys_of [0] (M := blk b16 [.int .i64 (1 : Int)] :: blk b23 [.int .i64 (2 : Int)] :: aB b s xb c x.p :: L) (by exact Sat.fin hs) o.n rfl fun l w hs => keep_imp hs ?_
    rw [rk0] at hs
    exact st_23 o (by kernel_rfl) (by exact Sat.fin hs)
  · refine newB_at hs fun nb w hs => keep_imp hs ?_
    exact st_26 o (by kernel_rfl) (by exact Sat.fin hs)
theorem st_15 (o : StOk W N x) (hd : sameL done [0, 1, 2, 3, 4, 5, 7, 8, 9, 10, 14, 15, 16, 17, 21, 22, 23, 24, 25, 28, 29, 30, 31] = true) (hs : Sat W w (recs Rec.str t10 x.t1 :: blk b30 [.int .i64 (3 : Int)] :: aB b s xb c x.p :: rowsC s xb N x.rows :: L)) :
    arc_Engine_State_s15 14 done idJ (fun w' => Sat W w' [aB b s xb c x.p]) (stQ W L b c N x) b s (some ⟨xb, 0, none⟩) x.p b9 t10 b30 w := by
  refine drS_to (d2 := [0, 1, 2, 3, 4, 5, 7, 8, 9, 10, 14, 15, 16, 17, 21, 22, 23, 24, 25, 28, 29, 30, 31]) hd ?_
  show arc_Engine_State_s15 (13 + 1) [0, 1, 2, 3, 4, 5, 7, 8, 9, 10, 14, 15, 16, 17, 21, 22, 23, 24, 25, 28, 29, 30, 31] idJ (fun w' => Sat W w' [aB b s xb c x.p]) (stQ W L b c N x) b s (some ⟨xb, 0, none⟩) x.p b9 t10 b30 w
  rw [arc_Engine_State_s15_raw]
  refine ⟨?_, ?_, ?_⟩
  · refine call1_of (arc_text_at (s := t10) (ks := x.t1) hs o.z1 (by have := o.l1; have := o.n; omega) (by decide)) fun e w ⟨he, hs⟩ => ⟨_, he, keep_imp hs ?_⟩
    exact st_22 o (by kernel_rfl) (by exact Sat.fin hs)
  · refine newB_at hs fun nb w hs => keep_imp hs ?_
    exact st_24 o (by kernel_rfl) (by exact Sat.fin hs)
  · refine newB_at hs fun nb w hs => keep_imp hs ?_
    exact st_25 o (by kernel_rfl) (by exact Sat.fin hs)
theorem st_14 (o : StOk W N x) (hd : sameL done [0, 1, 2, 3, 4, 5, 7, 8, 9, 10, 14, 15, 16, 17, 18, 21, 22, 23, 24, 28, 29, 30, 31] = true) (hs : Sat W w (recs Rec.str t10 x.t1 :: blk b23 [.int .i64 (2 : Int)] :: aB b s xb c x.p :: rowsC s xb N x.rows :: L)) :
    arc_Engine_State_s14 14 done idJ (fun w' => Sat W w' [aB b s xb c x.p]) (stQ W L b c N x) b s (some ⟨xb, 0, none⟩) x.p b9 t10 b23 w := by
  refine drS_to (d2 := [0, 1, 2, 3, 4, 5, 7, 8, 9, 10, 14, 15, 16, 17, 18, 21, 22, 23, 24, 28, 29, 30, 31]) hd ?_
  show arc_Engine_State_s14 (13 + 1) [0, 1, 2, 3, 4, 5, 7, 8, 9, 10, 14, 15, 16, 17, 18, 21, 22, 23, 24, 28, 29, 30, 31] idJ (fun w' => Sat W w' [aB b s xb c x.p]) (stQ W L b c N x) b s (some ⟨xb, 0, none⟩) x.p b9 t10 b23 w
  rw [arc_Engine_State_s14_raw]
  refine ⟨?_, ?_, ?_⟩
  · refine call1_of (arc_text_at (s := t10) (ks := x.t1) hs o.z1 (by have := o.l1; have := o.n; omega) (by decide)) fun e w ⟨he, hs⟩ => ⟨_, he, keep_imp hs ?_⟩
    exact st_21 o (by kernel_rfl) (by exact Sat.fin hs)
  · refine newB_at hs fun nb w hs => keep_imp hs ?_
    exact st_23 o (by kernel_rfl) (by exact Sat.fin hs)
  · refine newB_at hs fun nb w hs => keep_imp hs ?_
    exact st_25 o (by kernel_rfl) (by exact Sat.fin hs)
theorem st_13 (o : StOk W N x) (hd : sameL done [0, 1, 2, 3, 4, 5, 7, 8, 9, 10, 11, 14, 15, 16, 17, 21, 22, 23, 24, 28, 29, 30, 31] = true) (hs : Sat W w (recs Rec.str t10 x.t1 :: blk b16 [.int .i64 (1 : Int)] :: aB b s xb c x.p :: rowsC s xb N x.rows :: L)) :
    arc_Engine_State_s13 14 done idJ (fun w' => Sat W w' [aB b s xb c x.p]) (stQ W L b c N x) b s (some ⟨xb, 0, none⟩) x.p b9 t10 b16 w := by
  refine drS_to (d2 := [0, 1, 2, 3, 4, 5, 7, 8, 9, 10, 11, 14, 15, 16, 17, 21, 22, 23, 24, 28, 29, 30, 31]) hd ?_
  show arc_Engine_State_s13 (13 + 1) [0, 1, 2, 3, 4, 5, 7, 8, 9, 10, 11, 14, 15, 16, 17, 21, 22, 23, 24, 28, 29, 30, 31] idJ (fun w' => Sat W w' [aB b s xb c x.p]) (stQ W L b c N x) b s (some ⟨xb, 0, none⟩) x.p b9 t10 b16 w
  rw [arc_Engine_State_s13_raw]
  refine ⟨?_, ?_, ?_⟩
  · refine call1_of (arc_text_at (s := t10) (ks := x.t1) hs o.z1 (by have := o.l1; have := o.n; omega) (by decide)) fun e w ⟨he, hs⟩ => ⟨_, he, keep_imp hs ?_⟩
    exact st_20 o (by kernel_rfl) (by exact Sat.fin hs)
  · refine newB_at hs fun nb w hs => keep_imp hs ?_
    exact st_23 o (by kernel_rfl) (by exact Sat.fin hs)
  · refine newB_at hs fun nb w hs => keep_imp hs ?_
    exact st_24 o (by kernel_rfl) (by exact Sat.fin hs)
theorem st_12 (o : StOk W N x) (hd : sameL done [0, 1, 2, 3, 4, 5, 6, 7, 8, 9, 10, 14, 15, 16, 17, 21, 22, 23, 24, 28, 29, 30, 31] = true) (hs : Sat W w (aB b s xb c x.p :: rowsC s xb N x.rows :: L)) :
    arc_Engine_State_s12 14 done idJ (fun w' => Sat W w' [aB b s xb c x.p]) (stQ W L b c N x) b s (some ⟨xb, 0, none⟩) x.p b9 t10 (rowT sT1 x.t1) w := by
  refine drS_to (d2 := [0, 1, 2, 3, 4, 5, 6, 7, 8, 9, 10, 14, 15, 16, 17, 21, 22, 23, 24, 28, 29, 30, 31]) hd ?_
  show arc_Engine_State_s12 (13 + 1) [0, 1, 2, 3, 4, 5, 6, 7, 8, 9, 10, 14, 15, 16, 17, 21, 22, 23, 24, 28, 29, 30, 31] idJ (fun w' => Sat W w' [aB b s xb c x.p]) (stQ W L b c N x) b s (some ⟨xb, 0, none⟩) x.p b9 t10 (rowT sT1 x.t1) w
  rw [arc_Engine_State_s12_raw]
  refine ⟨?_, ?_, ?_⟩
  · refine newB_at hs fun nb w hs => keep_imp hs ?_
    exact st_20 o (by kernel_rfl) (by exact Sat.fin hs)
  · refine newB_at hs fun nb w hs => keep_imp hs ?_
    exact st_21 o (by kernel_rfl) (by exact Sat.fin hs)
  · refine newB_at hs fun nb w hs => keep_imp hs ?_
    exact st_22 o (by kernel_rfl) (by exact Sat.fin hs)
theorem st_11 (o : StOk W N x) (hd : sameL done [0, 1, 2, 3, 7, 8, 9, 10, 14, 15, 16, 17, 18, 21, 22, 23, 24, 25, 28, 29, 30, 31] = true) (hs : Sat W w (blk b23 [.int .i64 (2 : Int)] :: blk b30 [.int .i64 (3 : Int)] :: aB b s xb c x.p :: rowsC s xb N x.rows :: L)) :
    arc_Engine_State_s11 15 done idJ (fun w' => Sat W w' [aB b s xb c x.p]) (stQ W L b c N x) b s (some ⟨xb, 0, none⟩) x.p b23 b30 w := by
  refine drS_to (d2 := [0, 1, 2, 3, 7, 8, 9, 10, 14, 15, 16, 17, 18, 21, 22, 23, 24, 25, 28, 29, 30, 31]) hd ?_
  show arc_Engine_State_s11 (14 + 1) [0, 1, 2, 3, 7, 8, 9, 10, 14, 15, 16, 17, 18, 21, 22, 23, 24, 25, 28, 29, 30, 31] idJ (fun w' => Sat W w' [aB b s xb c x.p]) (stQ W L b c N x) b s (some ⟨xb, 0, none⟩) x.p b23 b30 w
  rw [arc_Engine_State_s11_raw]
  refine ⟨?_, ?_⟩
  · refine newB_at hs fun nb w hs => keep_imp hs ?_
    exact st_18 o (by kernel_rfl) (by exact Sat.fin hs)
  · refine newB_at hs fun nb w hs => keep_imp hs ?_
    exact st_19 o (by kernel_rfl) (by exact Sat.fin hs)
theorem st_10 (o : StOk W N x) (hd : sameL done [0, 1, 2, 3, 7, 8, 9, 10, 11, 14, 15, 16, 17, 21, 22, 23, 24, 25, 28, 29, 30, 31] = true) (hs : Sat W w (blk b16 [.int .i64 (1 : Int)] :: blk b30 [.int .i64 (3 : Int)] :: aB b s xb c x.p :: rowsC s xb N x.rows :: L)) :
    arc_Engine_State_s10 15 done idJ (fun w' => Sat W w' [aB b s xb c x.p]) (stQ W L b c N x) b s (some ⟨xb, 0, none⟩) x.p b16 b30 w := by
  refine drS_to (d2 := [0, 1, 2, 3, 7, 8, 9, 10, 11, 14, 15, 16, 17, 21, 22, 23, 24, 25, 28, 29, 30, 31]) hd ?_
  show arc_Engine_State_s10 (14 + 1) [0, 1, 2, 3, 7, 8, 9, 10, 11, 14, 15, 16, 17, 21, 22, 23, 24, 25, 28, 29, 30, 31] idJ (fun w' => Sat W w' [aB b s xb c x.p]) (stQ W L b c N x) b s (some ⟨xb, 0, none⟩) x.p b16 b30 w
  rw [arc_Engine_State_s10_raw]
  refine ⟨?_, ?_⟩
  · refine newB_at hs fun nb w hs => keep_imp hs ?_
    exact st_17 o (by kernel_rfl) (by exact Sat.fin hs)
  · refine newB_at hs fun nb w hs => keep_imp hs ?_
    exact st_19 o (by kernel_rfl) (by exact Sat.fin hs)
theorem st_9 (o : StOk W N x) (hd : sameL done [0, 1, 2, 3, 7, 8, 9, 10, 11, 14, 15, 16, 17, 18, 21, 22, 23, 24, 28, 29, 30, 31] = true) (hs : Sat W w (blk b16 [.int .i64 (1 : Int)] :: blk b23 [.int .i64 (2 : Int)] :: aB b s xb c x.p :: rowsC s xb N x.rows :: L)) :
    arc_Engine_State_s9 15 done idJ (fun w' => Sat W w' [aB b s xb c x.p]) (stQ W L b c N x) b s (some ⟨xb, 0, none⟩) x.p b16 b23 w := by
  refine drS_to (d2 := [0, 1, 2, 3, 7, 8, 9, 10, 11, 14, 15, 16, 17, 18, 21, 22, 23, 24, 28, 29, 30, 31]) hd ?_
  show arc_Engine_State_s9 (14 + 1) [0, 1, 2, 3, 7, 8, 9, 10, 11, 14, 15, 16, 17, 18, 21, 22, 23, 24, 28, 29, 30, 31] idJ (fun w' => Sat W w' [aB b s xb c x.p]) (stQ W L b c N x) b s (some ⟨xb, 0, none⟩) x.p b16 b23 w
  rw [arc_Engine_State_s9_raw]
  refine ⟨?_, ?_⟩
  · refine newB_at hs fun nb w hs => keep_imp hs ?_
    exact st_16 o (by kernel_rfl) (by exact Sat.fin hs)
  · refine newB_at hs fun nb w hs => keep_imp hs ?_
    exact st_19 o (by kernel_rfl) (by exact Sat.fin hs)
theorem st_8 (o : StOk W N x) (hd : sameL done [0, 1, 2, 3, 4, 7, 8, 9, 10, 14, 15, 16, 17, 21, 22, 23, 24, 25, 28, 29, 30, 31] = true) (hs : Sat W w (blk b9 [.int .i64 (0 : Int)] :: blk b30 [.int .i64 (3 : Int)] :: aB b s xb c x.p :: rowsC s xb N x.rows :: L)) :
    arc_Engine_State_s8 15 done idJ (fun w' => Sat W w' [aB b s xb c x.p]) (stQ W L b c N x) b s (some ⟨xb, 0, none⟩) x.p b9 b30 w := by
  refine drS_to (d2 := [0, 1, 2, 3, 4, 7, 8, 9, 10, 14, 15, 16, 17, 21, 22, 23, 24, 25, 28, 29, 30, 31]) hd ?_
  show arc_Engine_State_s8 (14 + 1) [0, 1, 2, 3, 4, 7, 8, 9, 10, 14, 15, 16, 17, 21, 22, 23, 24, 25, 28, 29, 30, 31] idJ (fun w' => Sat W w' [aB b s xb c x.p]) (stQ W L b c N x) b s (some ⟨xb, 0, none⟩) x.p b9 b30 w
  rw [arc_Engine_State_s8_raw]
  refine ⟨?_, ?_, ?_⟩
  · refine keys_of [0] (M := blk b30 [.int .i64 (3 : Int)] :: aB b s xb c x.p :: L) (by exact Sat.fin hs) o.n rfl fun l w hs => keep_imp hs ?_
    rw [rk0] at hs
    exact st_15 o (by kernel_rfl) (by exact Sat.fin hs)
  · refine newB_at hs fun nb w hs => keep_imp hs ?_
    exact st_17 o (by kernel_rfl) (by exact Sat.fin hs)
  · refine newB_at hs fun nb w hs => keep_imp hs ?_
    exact st_18 o (by kernel_rfl) (by exact Sat.fin hs)
theorem st_7 (o : StOk W N x) (hd : sameL done [0, 1, 2, 3, 4, 7, 8, 9, 10, 14, 15, 16, 17, 18, 21, 22, 23, 24, 28, 29, 30, 31] = true) (hs : Sat W w (blk b9 [.int .i64 (0 : Int)] :: blk b23 [.int .i64 (2 : Int)] :: aB b s xb c x.p :: rowsC s xb N x.rows :: L)) :
    arc_Engine_State_s7 15 done idJ (fun w' => Sat W w' [aB b s xb c x.p]) (stQ W L b c N x) b s (some ⟨xb, 0, none⟩) x.p b9 b23 w := by
  refine drS_to (d2 := [0, 1, 2, 3, 4, 7, 8, 9, 10, 14, 15, 16, 17, 18, 21, 22, 23, 24, 28, 29, 30, 31]) hd ?_
  show arc_Engine_State_s7 (14 + 1) [0, 1, 2, 3, 4, 7, 8, 9, 10, 14, 15, 16, 17, 18, 21, 22, 23, 24, 28, 29, 30, 31] idJ (fun w' => Sat W w' [aB b s xb c x.p]) (stQ W L b c N x) b s (some ⟨xb, 0, none⟩) x.p b9 b23 w
  rw [arc_Engine_State_s7_raw]
  refine ⟨?_, ?_, ?_⟩
  · refine keys_of [0] (M := blk b23 [.int .i64 (2 : Int)] :: aB b s xb c x.p :: L) (by exact Sat.fin hs) o.n rfl fun l w hs => keep_imp hs ?_
    rw [rk0] at hs
    exact st_14 o (by kernel_rfl) (by exact Sat.fin hs)
  · refine newB_at hs fun nb w hs => keep_imp hs ?_
    exact st_16 o (by kernel_rfl) (by exact Sat.fin hs)
  · refine newB_at hs fun nb w hs => keep_imp hs ?_
    exact st_18 o (by kernel_rfl) (by exact Sat.fin hs)
theorem st_6 (o : StOk W N x) (hd : sameL done [0, 1, 2, 3, 4, 7, 8, 9, 10, 11, 14, 15, 16, 17, 21, 22, 23, 24, 28, 29, 30, 31] = true) (hs : Sat W w (blk b9 [.int .i64 (0 : Int)] :: blk b16 [.int .i64 (1 : Int)] :: aB b s xb c x.p :: rowsC s xb N x.rows :: L)) :
    arc_Engine_State_s6 15 done idJ (fun w' => Sat W w' [aB b s xb c x.p]) (stQ W L b c N x) b s (some ⟨xb, 0, none⟩) x.p b9 b16 w := by
  refine drS_to (d2 := [0, 1, 2, 3, 4, 7, 8, 9, 10, 11, 14, 15, 16, 17, 21, 22, 23, 24, 28, 29, 30, 31]) hd ?_
  show arc_Engine_State_s6 (14 + 1) [0, 1, 2, 3, 4, 7, 8, 9, 10, 11, 14, 15, 16, 17, 21, 22, 23, 24, 28, 29, 30, 31] idJ (fun w' => Sat W w' [aB b s xb c x.p]) (stQ W L b c N x) b s (some ⟨xb, 0, none⟩) x.p b9 b16 w
  rw [arc_Engine_State_s6_raw]
  refine ⟨?_, ?_, ?_⟩
  · refine keys_of [0] (M := blk b16 [.int .i64 (1 : Int)] :: aB b s xb c x.p :: L) (by exact Sat.fin hs) o.n rfl fun l w hs => keep_imp hs ?_
    rw [rk0] at hs
    exact st_13 o (by kernel_rfl) (by exact Sat.fin hs)
  · refine newB_at hs fun nb w hs => keep_imp hs ?_
    exact st_16 o (by kernel_rfl) (by exact Sat.fin hs)
  · refine newB_at hs fun nb w hs => keep_imp hs ?_
    exact st_17 o (by kernel_rfl) (by exact Sat.fin hs)
theorem st_5 (o : StOk W N x) (hd : sameL done [0, 1, 2, 3, 4, 5, 7, 8, 9, 10, 14, 15, 16, 17, 21, 22, 23, 24, 28, 29, 30, 31] = true) (hs : Sat W w (recs Rec.str t10 x.t1 :: aB b s xb c x.p :: rowsC s xb N x.rows :: L)) :
    arc_Engine_State_s5 15 done idJ (fun w' => Sat W w' [aB b s xb c x.p]) (stQ W L b c N x) b s (some ⟨xb, 0, none⟩) x.p b9 t10 w := by
  refine drS_to (d2 := [0, 1, 2, 3, 4, 5, 7, 8, 9, 10, 14, 15, 16, 17, 21, 22, 23, 24, 28, 29, 30, 31]) hd ?_
  show arc_Engine_State_s5 (14 + 1) [0, 1, 2, 3, 4, 5, 7, 8, 9, 10, 14, 15, 16, 17, 21, 22, 23, 24, 28, 29, 30, 31] idJ (fun w' => Sat W w' [aB b s xb c x.p]) (stQ W L b c N x) b s (some ⟨xb, 0, none⟩) x.p b9 t10 w
  rw [arc_Engine_State_s5_raw]
  refine ⟨?_, ?_, ?_, ?_⟩
  · refine call1_of (arc_text_at (s := t10) (ks := x.t1) hs o.z1 (by have := o.l1; have := o.n; omega) (by decide)) fun e w ⟨he, hs⟩ => ⟨_, he, keep_imp hs ?_⟩
    exact st_12 o (by kernel_rfl) (by exact Sat.fin hs)
  · refine newB_at hs fun nb w hs => keep_imp hs ?_
    exact st_13 o (by kernel_rfl) (by exact Sat.fin hs)
  · refine newB_at hs fun nb w hs => keep_imp hs ?_
    exact st_14 o (by kernel_rfl) (by exact Sat.fin hs)
  · refine newB_at hs fun nb w hs => keep_imp hs ?_
    exact st_15 o (by kernel_rfl) (by exact Sat.fin hs)
theorem st_4 (o : StOk W N x) (hd : sameL done [0, 1, 2, 3, 7, 8, 9, 10, 14, 15, 16, 17, 21, 22, 23, 24, 25, 28, 29, 30, 31] = true) (hs : Sat W w (blk b30 [.int .i64 (3 : Int)] :: aB b s xb c x.p :: rowsC s xb N x.rows :: L)) :
    arc_Engine_State_s4 16 done idJ (fun w' => Sat W w' [aB b s xb c x.p]) (stQ W L b c N x) b s (some ⟨xb, 0, none⟩) x.p b30 w := by
  refine drS_to (d2 := [0, 1, 2, 3, 7, 8, 9, 10, 14, 15, 16, 17, 21, 22, 23, 24, 25, 28, 29, 30, 31]) hd ?_
  show arc_Engine_State_s4 (15 + 1) [0, 1, 2, 3, 7, 8, 9, 10, 14, 15, 16, 17, 21, 22, 23, 24, 25, 28, 29, 30, 31] idJ (fun w' => Sat W w' [aB b s xb c x.p]) (stQ W L b c N x) b s (some ⟨xb, 0, none⟩) x.p b30 w
  rw [arc_Engine_State_s4_raw]
  refine ⟨?_, ?_, ?_⟩
  · refine newB_at hs fun nb w hs => keep_imp hs ?_
    exact st_8 o (by kernel_rfl) (by exact Sat.fin hs)
  · refine newB_at hs fun nb w hs => keep_imp hs ?_
    exact st_10 o (by kernel_rfl) (by exact Sat.fin hs)
  · refine newB_at hs fun nb w hs => keep_imp hs ?_
    exact st_11 o (by kernel_rfl) (by exact Sat.fin hs)
theorem st_3 (o : StOk W N x) (hd : sameL done [0, 1, 2, 3, 7, 8, 9, 10, 14, 15, 16, 17, 18, 21, 22, 23, 24, 28, 29, 30, 31] = true) (hs : Sat W w (blk b23 [.int .i64 (2 : Int)] :: aB b s xb c x.p :: rowsC s xb N x.rows :: L)) :
    arc_Engine_State_s3 16 done idJ (fun w' => Sat W w' [aB b s xb c x.p]) (stQ W L b c N x) b s (some ⟨xb, 0, none⟩) x.p b23 w := by
  refine drS_to (d2 := [0, 1, 2, 3, 7, 8, 9, 10, 14, 15, 16, 17, 18, 21, 22, 23, 24, 28, 29, 30, 31]) hd ?_
  show arc_Engine_State_s3 (15 + 1) [0, 1, 2, 3, 7, 8, 9, 10, 14, 15, 16, 17, 18, 21, 22, 23, 24, 28, 29, 30, 31] idJ (fun w' => Sat W w' [aB b s xb c x.p]) (stQ W L b c N x) b s (some ⟨xb, 0, none⟩) x.p b23 w
  rw [arc_Engine_State_s3_raw]
  refine ⟨?_, ?_, ?_⟩
  · refine newB_at hs fun nb w hs => keep_imp hs ?_
    exact st_7 o (by kernel_rfl) (by exact Sat.fin hs)
  · refine newB_at hs fun nb w hs => keep_imp hs ?_
    exact st_9 o (by kernel_rfl) (by exact Sat.fin hs)
  · refine newB_at hs fun nb w hs => keep_imp hs ?_
    exact st_11 o (by kernel_rfl) (by exact Sat.fin hs)
theorem st_2 (o : StOk W N x) (hd : sameL done [0, 1, 2, 3, 7, 8, 9, 10, 11, 14, 15, 16, 17, 21, 22, 23, 24, 28, 29, 30, 31] = true) (hs : Sat W w (blk b16 [.int .i64 (1 : Int)] :: aB b s xb c x.p :: rowsC s xb N x.rows :: L)) :
    arc_Engine_State_s2 16 done idJ (fun w' => Sat W w' [aB b s xb c x.p]) (stQ W L b c N x) b s (some ⟨xb, 0, none⟩) x.p b16 w := by
  refine drS_to (d2 := [0, 1, 2, 3, 7, 8, 9, 10, 11, 14, 15, 16, 17, 21, 22, 23, 24, 28, 29, 30, 31]) hd ?_
  show arc_Engine_State_s2 (15 + 1) [0, 1, 2, 3, 7, 8, 9, 10, 11, 14, 15, 16, 17, 21, 22, 23, 24, 28, 29, 30, 31] idJ (fun w' => Sat W w' [aB b s xb c x.p]) (stQ W L b c N x) b s (some ⟨xb, 0, none⟩) x.p b16 w
  rw [arc_Engine_State_s2_raw]
  refine ⟨?_, ?_, ?_⟩
  · refine newB_at hs fun nb w hs => keep_imp hs ?_
    exact st_6 o (by kernel_rfl) (by exact Sat.fin hs)
  · refine newB_at hs fun nb w hs => keep_imp hs ?_
    exact st_9 o (by kernel_rfl) (by exact Sat.fin hs)
  · refine newB_at hs fun nb w hs => keep_imp hs ?_
    exact st_10 o (by kernel_rfl) (by exact Sat.fin hs)
theorem st_1 (o : StOk W N x) (hd : sameL done [0, 1, 2, 3, 4, 7, 8, 9, 10, 14, 15, 16, 17, 21, 22, 23, 24, 28, 29, 30, 31] = true) (hs : Sat W w (blk b9 [.int .i64 (0 : Int)] :: aB b s xb c x.p :: rowsC s xb N x.rows :: L)) :
    arc_Engine_State_s1 16 done idJ (fun w' => Sat W w' [aB b s xb c x.p]) (stQ W L b c N x) b s (some ⟨xb, 0, none⟩) x.p b9 w := by
  refine drS_to (d2 := [0, 1, 2, 3, 4, 7, 8, 9, 10, 14, 15, 16, 17, 21, 22, 23, 24, 28, 29, 30, 31]) hd ?_
  show arc_Engine_State_s1 (15 + 1) [0, 1, 2, 3, 4, 7, 8, 9, 10, 14, 15, 16, 17, 21, 22, 23, 24, 28, 29, 30, 31] idJ (fun w' => Sat W w' [aB b s xb c x.p]) (stQ W L b c N x) b s (some ⟨xb, 0, none⟩) x.p b9 w
  rw [arc_Engine_State_s1_raw]
  refine ⟨?_, ?_, ?_, ?_⟩
  · refine keys_of [0] (M := aB b s xb c x.p :: L) (by exact Sat.fin hs) o.n rfl fun l w hs => keep_imp hs ?_
    rw [rk0] at hs
    exact st_5 o (by kernel_rfl) (by exact Sat.fin hs)
  · refine newB_at hs fun nb w hs => keep_imp hs ?_
    exact st_6 o (by kernel_rfl) (by exact Sat.fin hs)
  · refine newB_at hs fun nb w hs => keep_imp hs ?_
    exact st_7 o (by kernel_rfl) (by exact Sat.fin hs)
  · refine newB_at hs fun nb w hs => keep_imp hs ?_
    exact st_8 o (by kernel_rfl) (by exact Sat.fin hs)
theorem st_0 (o : StOk W N x) (hd : sameL done [] = true) (hs : Sat W w (aB b s xb c x.p :: rowsC s xb N x.rows :: L)) :
    arc_Engine_State_s0 37 done idJ (fun w' => Sat W w' [aB b s xb c x.p]) (stQ W L b c N x) b s (some ⟨xb, 0, none⟩) x.p w := by
  refine drS_to (d2 := []) hd ?_
  show arc_Engine_State_s0 (16 + 21) [] idJ (fun w' => Sat W w' [aB b s xb c x.p]) (stQ W L b c N x) b s (some ⟨xb, 0, none⟩) x.p w
  rw [arc_Engine_State_s0_raw]
  refine nilck_some (ldS_b (x := s) (ldS_b (nilck_some (ldS_b (x := s) (ldS_b (nilck_some (ldS_b (x := s) (ldS_b (nilck_some (ldS_b (x := s) (ldS_b (nilck_some (ldS_b ?_)))))))))))))
  refine ⟨?_, ?_, ?_, ?_⟩
  · refine newB_at hs fun nb w hs => keep_imp hs ?_
    exact st_1 o (by kernel_rfl) (by exact Sat.fin hs)
  · refine newB_at hs fun nb w hs => keep_imp hs ?_
    exact st_2 o (by kernel_rfl) (by exact Sat.fin hs)
  · refine newB_at hs fun nb w hs => keep_imp hs ?_
    exact st_3 o (by kernel_rfl) (by exact Sat.fin hs)
  · refine newB_at hs fun nb w hs => keep_imp hs ?_
    exact st_4 o (by kernel_rfl) (by exact Sat.fin hs)
theorem arc_State_in (hs : Sat W w (arcR b c N x :: L)) (hT : TabW W) (hx : ArcOk c x) (hN : N < 100000000) : Calls Tryd.prog id_arc_Engine_State #[.pointer (some ⟨b, 0, none⟩)] w fun e w' => e = .returned (.string (aTxt x)) ∧ Sat W w' (arcR b c N x :: L) := by
  refine c1 (arc_Engine_State_calls ?_)
  rw [arc_Engine_State_def, arc_Engine_State_raw]
  have hl := (arc_w hs).2
  have h1 := hx.p1
  have h2 := hx.c2
  obtain ⟨s, xb, hs⟩ := arc_open hs
  refine ite_false rfl ?_
  refine drawW_only [aB b s xb c x.p] hs fun w hs => ?_
  exact st_0 ⟨hT, hx.w, hx.p0, by omega, hN, hl.1, hl.2.1, hl.2.2.1, hl.2.2.2⟩ (by kernel_rfl) hs
end
end Go.Proofs.YtchlicgjdlkidaaDoor
