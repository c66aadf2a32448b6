/- strings.Builder: contracts over chunks. -/
import Derived.Test.YtgmhoenmhnlojaaBldrHp
import Derived.Test.YtgmhoenmhnlojaaTexts
import Derived.Shelf.Strings.Builder1
set_option linter.unusedVariables false
set_option linter.unusedSimpArgs false
set_option linter.unnecessarySimpa false
set_option linter.unusedSectionVars false
namespace Go.Hb
section
variable {W w : World} {M L : List HP} {TB e : TypeId} {b : Nat} {cs : List Value}
theorem Sat.or {p q : HP} (h : Sat W w ((fun g => p g ∨ q g) :: M)) : Sat W w (p :: M) ∨ Sat W w (q :: M) := by
  obtain ⟨h1, h2, a, b, c, d, e⟩ := h.st
  rcases d with d | d
  · exact .inl ⟨h.os, h.out, h1, h2, a, b, c, d, e⟩
  · exact .inr ⟨h.os, h.out, h1, h2, a, b, c, d, e⟩
instance At.bldR : At (bldR TB e b cs :: L) b (bldR TB e b cs) (fun x => x :: L) := ⟨here_pos⟩
theorem bld_open (h : Sat W w (bldR TB e b cs :: M)) : (cs = [] ∧ Sat W w (blkT TB b [.pointer none, .slice none 0 0] :: M)) ∨ ∃ s : Sl, Sat W w (blk b [.pointer (some ⟨b, 0, none⟩), .slice s.a s.n s.c] :: bufR e s cs :: M) := by
  rcases Sat.or h with h | h
  · exact .inl ⟨h.pure (q := 0) rfl fun _ hg => hg.1, h.turn (q := 0) rfl fun _ hg => hg.2⟩
  · obtain ⟨s, h⟩ := h.ex (q := 0) rfl
    exact .inr ⟨s, Sat.split h⟩
theorem bld_new (h : Sat W w (blkT TB b [.pointer none, .slice none 0 0] :: M)) : Sat W w (bldR TB e b [] :: M) := h.turn (q := 0) rfl fun _ hg => .inl ⟨rfl, hg⟩
theorem bld_shut (s : Sl) (h : Sat W w (blk b [.pointer (some ⟨b, 0, none⟩), .slice s.a s.n s.c] :: bufR e s cs :: M)) : Sat W w (bldR TB e b cs :: M) := (Sat.join h).turn (q := 0) rfl fun _ hg => .inr ⟨s, hg⟩
end
end Go.Hb
namespace Go.Proofs.Ytgmhoenmhnlojaa
open Go.Hb Go.IntWalk Go.RowKit
theorem bl_sizeB : (Try.prog.info? 73).map (·.size) = some 2 := by kernel_rfl
theorem bl_liesB : liesAt Try.prog Try.prog.depth 73 (2 / Try.prog.cellsOf 73) 0 73 1 = true := by kernel_rfl
theorem bl_cellsByte : Try.prog.cellsOf 5 = 1 := by kernel_rfl
set_option maxHeartbeats 1000000 in
set_option maxRecDepth 100000 in
theorem bl_check_used (b : Nat) (w : World) (h0 : w.cell? ⟨b, 0, none⟩ = some (.pointer (some ⟨b, 0, none⟩))) :
    Calls Try.prog 87 #[.pointer (some ⟨b, 0, none⟩)] w fun e w' => e = .returned (.tuple #[]) ∧ w' = w := by
  obtain ⟨j, hj, _⟩ := Option.map_eq_some_iff.1 bl_sizeB
  go_enter Try.func87, Try.ntmps87
  go_wp2
  rw [Lib.run_neq_ptr_same w _ Try.underlying71 hj]
  go_wp2
  go_end0
  exact ⟨rfl, rfl⟩
set_option maxHeartbeats 1000000 in
set_option maxRecDepth 100000 in
theorem bl_check_fresh (b : Nat) (w : World) (h0 : w.cell? ⟨b, 0, none⟩ = some (.pointer none)) (hsh : w.shape? b = some (73, 2)) (hfz : w.frozen? ⟨b, 0, none⟩ = false) :
    Calls Try.prog 87 #[.pointer (some ⟨b, 0, none⟩)] w fun e w' => e = .returned (.tuple #[]) ∧ w' = w.setCell ⟨b, 0, none⟩ (.pointer (some ⟨b, 0, none⟩)) := by
  obtain ⟨j, hj, hjs⟩ := Option.map_eq_some_iff.1 bl_sizeB
  go_enter Try.func87, Try.ntmps87
  go_wp2
  rw [Lib.run_to_unsafe w ⟨b, 0, none⟩ Try.underlying71 Try.underlying112 hj (by rw [hjs]; decide) hsh (Nat.zero_lt_succ 1)]
  simp only [Result.andThen]
  rw [Oper.upon_value]
  go_wp2
  rw [run_callFunc_extern Try.func93 (by kernel_rfl) (by kernel_rfl) (by kernel_rfl) (e := Extern.AbiNoEscape.same) (by kernel_rfl)]
  rw [Lib.run_noEscape]
  simp only [Result.andThen]
  rw [Oper.upon_value]
  go_wp2
  rw [Lib.run_from_unsafe w ⟨b, 0, none⟩ Try.underlying112 Try.underlying71 hj hsh bl_liesB]
  simp only [Result.andThen]
  rw [Oper.upon_value]
  go_wp2
  go_end0
  exact ⟨rfl, rfl⟩
set_option maxHeartbeats 2000000 in
set_option maxRecDepth 100000 in
theorem bl_String (b g : Nat) (l : List UInt8) (cap : Nat) (cur : Array Value) (p : Value) (w : World) (h0 : l ≠ []) (c0 : w.cell? ⟨b, 1, none⟩ = some (.slice (some ⟨g, 0, none⟩) l.length cap)) (hg : w.heap[g]? = some (.cells cur 5 (0, 0)))
    (hlc : l.length ≤ cur.size) (hcap : l.length ≤ cap) (hlm : l.length ≤ 1099511627776) (hx : ∀ (j : Nat) (x : UInt8), l[j]? = some x → cur[j]? = some (Value.int .u8 x.toNat)) :
    Calls Try.prog 62 #[.pointer (some ⟨b, 0, none⟩)] w fun e w' => e = .returned (.string ⟨l.toArray⟩) ∧ w' = w.drew.freeze ⟨g, 0, none⟩ l.length := by
  have hl0 : l.length ≠ 0 := by simpa using h0
  have c1 : w.drew.cell? ⟨b, 1, none⟩ = some (.slice (some ⟨g, 0, none⟩) l.length cap) := c0
  have hSD : (Builtin.unsafeSliceData_ #[34] 107 #[.slice (some ⟨g, 0, none⟩) l.length cap]).run Try.prog w.drew = .ok (.pointer (some ⟨g, 0, none⟩)) w.drew :=
    Lib.run_unsafeSliceData_row _ _ _ _ _ _ (by omega)
  have hUS : (Builtin.unsafeString_ #[107, 3] 9 #[.pointer (some ⟨g, 0, none⟩), .int .i64 l.length]).run Try.prog w.drew = .ok (.string ⟨l.toArray⟩) (w.drew.freeze ⟨g, 0, none⟩ l.length) := by
    refine Lib.run_unsafeString_row w.drew 107 3 9 5 Try.underlying107 bl_cellsByte g cur.size (by have hg' : w.drew.heap[g]? = some (.cells cur 5 (0, 0)) := hg; simp [World.shape?, hg']) l h0 (by omega) (by omega) ?_
    intro j x hxj
    have hg' : w.drew.heap[g]? = some (.cells cur 5 (0, 0)) := hg
    have : ((⟨g, 0, none⟩ : Addr).add j) = ⟨g, j, none⟩ := by rw [Addr.add_lit]; simp
    rw [this, Lib.cell_of_heap hg', hx j x hxj]
  have mixed : Try.prog.follows Departure.mixedOrders = true := by kernel_rfl
  go_enter Try.func62, Try.ntmps62
  go_wp2
  go_region_o
  all_goals (go_wp2; go_ret; exact ⟨rfl, rfl⟩)
section
variable {W w : World} {L M : List HP} {F : HP → List HP} {b : Nat} {cs : List Value} {s : ByteArray}
theorem bl_check (hs : Sat W w (bldR 73 5 b cs :: M)) : Calls Try.prog id_strings_Builder_copyCheck #[.pointer (some ⟨b, 0, none⟩)] w fun e w' => e = .returned (.tuple #[]) ∧ ∃ s : Sl, Sat W w' (blk b [.pointer (some ⟨b, 0, none⟩), .slice s.a s.n s.c] :: bufR 5 s cs :: M) := by
  have hb := bld_open hs
  clear hs
  rcases hb with ⟨rfl, hs⟩ | ⟨s, hs⟩
  · have hb := hs.headT
    refine (bl_check_fresh b w (by rw [Lib.cell_of_heap hb]; rfl) (by simp [World.shape?, hb]) (Lib.frozen_of_heap hb 0)).mono fun e w' ⟨he, hw⟩ => ⟨he, ⟨none, 0, 0⟩, ?_⟩
    subst hw
    have h2 := (hs.setT (o := 0) (v := .pointer (some ⟨b, 0, none⟩))).unT
    have h3 := nilB (e := 5) h2
    exact h3.perm (List.Perm.swap _ _ _)
  · refine (bl_check_used b w (by rw [hs.cell (q := 0) rfl]; rfl)).mono fun e w' ⟨he, hw⟩ => ⟨he, s, ?_⟩
    subst hw
    exact hs
theorem bl_write (hs : Sat W w L) [hA : At L b (bldR 73 5 b cs) F] (hz : cs.length + s.size ≤ 140737488355328) :
    Calls Try.prog id_strings_Builder_WriteString #[.pointer (some ⟨b, 0, none⟩), .string s] w fun e w' => e = .returned (.tuple #[.int .i64 (s.size : Int), .nilIface]) ∧ Sat W w' (F (bldR 73 5 b (cs ++ bytesL s))) := by
  refine At.call1 (hA := hA) hs fun M hs => ?_
  clear hA
  refine c1 (strings_Builder_WriteString_calls ?_)
  rw [strings_Builder_WriteString_def, strings_Builder_WriteString_raw]
  refine call0_of (bl_check hs) fun e w ⟨he, s2, hs⟩ => ⟨he, ?_⟩
  repeat (first | with_reducible refine nilck_some ?_ | ((with_reducible refine atLd ?_); first | refine ld_b hs ?_ | refine ld_b (x := ⟨_, _, _⟩) hs ?_ | refine ld_r0 hs ?_ | refine ld_r1 hs ?_ | refine ld_r2 hs ?_ | refine ld_r3 hs ?_ | refine ld_r4 hs ?_ | refine ld_rd0 ha_ hs ?_ | refine ld_rd1 ha_ hs ?_ | refine ld_rd2 ha_ hs ?_ | refine ld_rd3 ha_ hs ?_ | refine ld_rd4 ha_ hs ?_ | refine ld_rd5 ha_ hs ?_ | fail) | ((with_reducible refine isSt ?_); first | refine st_b hs fun w hs => ?_ | refine st_rec5 hs fun w hs => ?_ | refine st_rec4 hs fun w hs => ?_ | refine st_rec3 hs fun w hs => ?_ | refine st_rec2 hs fun w hs => ?_ | refine st_r0 hs fun w hs => ?_ | refine st_r1 hs fun w hs => ?_ | fail) | ((with_reducible refine isIdx ?_); first | refine idx_s hs fun b_ o_ hs => ?_ | refine idx_a hs ?_ | refine idx_rd hs fun b_ o_ ha_ => ?_ | fail) | ((with_reducible refine isNew ?_); first | refine newB_at hs fun b_ w hs => ?_ | fail) | ((with_reducible refine isLdS ?_); first | refine ldS_b ?_ | refine ldS_b (x := ⟨_, _, _⟩) ?_ | refine ldS_r0 ?_ | refine ldS_r1 ?_ | refine ldS_r2 ?_ | refine ldS_r3 ?_ | refine ldS_rs0 hs ?_ | refine ldS_rs1 hs ?_ | refine ldS_rs2 hs ?_ | refine ldS_rs3 hs ?_ | refine ldS_rd0 ha_ ?_ | refine ldS_rd1 ha_ ?_ | refine ldS_rd2 ha_ ?_ | refine ldS_rd3 ha_ ?_ | refine ldS_rd4 ha_ ?_ | refine ldS_rd5 ha_ ?_ | fail) | ((with_reducible refine isKeep ?_); first | refine keep_of hs ?_ | refine keep_imp hs ?_ | fail) | ((with_reducible refine isWhen ?_); first | refine when_om ?_ | fail) | ((with_reducible refine isDraw ?_); first | refine drawW_sat hs fun w hs => ?_ | fail))
  have hs := hs.perm (List.Perm.swap _ _ _)
  have hf := bufR_facts hs
  have hl : (bytesL s).length = s.size := by simp [bytesL]
  have hok : okC (bytesL s) = true := by
    unfold bytesL
    induction s.data.toList with
    | nil => rfl
    | cons a l ih => exact ih
  refine app_T (s := s2) (vs := bytesL s) hs rfl hok hl rfl (by omega) fun s3 w h3 hs => ?_
  have hs := hs.perm (List.Perm.swap _ _ _)
  repeat (first | with_reducible refine nilck_some ?_ | ((with_reducible refine atLd ?_); first | refine ld_b hs ?_ | refine ld_b (x := ⟨_, _, _⟩) hs ?_ | refine ld_r0 hs ?_ | refine ld_r1 hs ?_ | refine ld_r2 hs ?_ | refine ld_r3 hs ?_ | refine ld_r4 hs ?_ | refine ld_rd0 ha_ hs ?_ | refine ld_rd1 ha_ hs ?_ | refine ld_rd2 ha_ hs ?_ | refine ld_rd3 ha_ hs ?_ | refine ld_rd4 ha_ hs ?_ | refine ld_rd5 ha_ hs ?_ | fail) | ((with_reducible refine isSt ?_); first | refine st_b hs fun w hs => ?_ | refine st_rec5 hs fun w hs => ?_ | refine st_rec4 hs fun w hs => ?_ | refine st_rec3 hs fun w hs => ?_ | refine st_rec2 hs fun w hs => ?_ | refine st_r0 hs fun w hs => ?_ | refine st_r1 hs fun w hs => ?_ | fail) | ((with_reducible refine isIdx ?_); first | refine idx_s hs fun b_ o_ hs => ?_ | refine idx_a hs ?_ | refine idx_rd hs fun b_ o_ ha_ => ?_ | fail) | ((with_reducible refine isNew ?_); first | refine newB_at hs fun b_ w hs => ?_ | fail) | ((with_reducible refine isLdS ?_); first | refine ldS_b ?_ | refine ldS_b (x := ⟨_, _, _⟩) ?_ | refine ldS_r0 ?_ | refine ldS_r1 ?_ | refine ldS_r2 ?_ | refine ldS_r3 ?_ | refine ldS_rs0 hs ?_ | refine ldS_rs1 hs ?_ | refine ldS_rs2 hs ?_ | refine ldS_rs3 hs ?_ | refine ldS_rd0 ha_ ?_ | refine ldS_rd1 ha_ ?_ | refine ldS_rd2 ha_ ?_ | refine ldS_rd3 ha_ ?_ | refine ldS_rd4 ha_ ?_ | refine ldS_rd5 ha_ ?_ | fail) | ((with_reducible refine isKeep ?_); first | refine keep_of hs ?_ | refine keep_imp hs ?_ | fail) | ((with_reducible refine isWhen ?_); first | refine when_om ?_ | fail) | ((with_reducible refine isDraw ?_); first | refine drawW_sat hs fun w hs => ?_ | fail))
  exact ⟨rfl, bld_shut s3 (by exact Sat.fin hs)⟩
theorem bl_text (hs : Sat W w (bldR 73 5 b (bytesL s) :: M)) (h0 : s.size ≠ 0) (hz : s.size ≤ 1099511627776) :
    Calls Try.prog id_strings_Builder_String #[.pointer (some ⟨b, 0, none⟩)] w fun e w' => e = .returned (.string s) ∧ Sat W w' M := by
  have hl : (bytesL s).length = s.size := by simp [bytesL]
  have hl2 : s.data.toList.length = s.size := by simp
  rcases bld_open hs with ⟨h, hs⟩ | ⟨s2, hs⟩
  · rw [h] at hl; exact absurd hl.symm h0
  · have hc := hs.cell (q := 0) rfl (o := 1)
    have hs2 := (hs.perm (List.Perm.swap _ _ _))
    have hf := bufR_facts hs2
    obtain ⟨g, ha⟩ : ∃ g, s2.a = some ⟨g, 0, none⟩ := by
      obtain ⟨h, _, _, hd⟩ := hs2.get (q := 0) rfl
      rcases hd with ⟨_, hn, _⟩ | ⟨g, tl, hsa, _⟩
      · omega
      · exact ⟨g, hsa⟩
    obtain ⟨tl, _, hs3⟩ := bufR_open hs2 ha
    have hg := hs3.headT
    have hc2 : w.cell? ⟨b, 1, none⟩ = some (.slice (some ⟨g, 0, none⟩) s.data.toList.length s2.c) := by
      rw [hc, ha, hl2, ← hl, hf.1]; rfl
    refine (bl_String b g s.data.toList s2.c (bytesL s ++ tl).toArray (.pointer none) w (by intro h; rw [h] at hl2; exact h0 hl2.symm) hc2 hg (by simp [bytesL]) (by omega) (by omega) fun j x hx => ?_).mono fun e w' ⟨he, hw⟩ => ⟨he, ?_⟩
    · have hj := (List.getElem?_eq_some_iff.1 hx).1
      rw [List.getElem?_toArray, List.getElem?_append_left (by rw [hl, ← hl2]; exact hj)]
      unfold bytesL
      rw [List.getElem?_map, hx]; rfl
    · subst hw
      refine (hs3.drew.loseT (w' := w.drew.freeze ⟨g, 0, none⟩ s.data.toList.length) ?_ ?_ fun x o hx hy => ?_).drop
      · unfold World.freeze; split <;> rfl
      · unfold World.freeze; split <;> rfl
      · unfold World.freeze
        split
        · exact hy
        · simp only [Array.getElem?_modify]
          rw [if_neg (Ne.symm hx)]; exact hy
end
end Go.Proofs.Ytgmhoenmhnlojaa
