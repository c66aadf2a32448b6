/- hoard/index at int: contracts over one chunk. -/
import Derived.Test.YtcpmmojpgngaaaaMix
import Derived.Test.YtcpmmojpgngaaaaSortAt
set_option linter.unusedVariables false
set_option linter.unusedSimpArgs false
set_option linter.unnecessarySimpa false
set_option linter.unusedSectionVars false
namespace Go.Hb
instance {s : Int} {k : ByteArray} {v : Int} : RecOf (plR (Rec.int .i64)) [.int .i64 s, .string k, .int .i64 v] ⟨s, k, v⟩ := ⟨rfl⟩
instance {a : Pl Int} {v : Int} : SetR (plR (Rec.int .i64)) a 2 (.int .i64 v) { a with v := v } := ⟨rfl, by decide⟩
instance : OkR (plR (Rec.int .i64)) := ⟨fun _ => rfl⟩
end Go.Hb
namespace Go.Proofs.Ytcpmmojpgngaaaa
open Go.Hb Go.IntWalk
section
variable {W w : World} {L M : List HP} {F : HP → List HP} {b : Nat} {seed : Int} {m : List (ByteArray × Int)} {s : Sl} {ps : List (Pl Int)} {n1 u1 : Int}
theorem int_find_in {st : ByteArray → Nat} {k : ByteArray} (hst : st = startV seed ps.length) (hz : k.size < 4611686018427387904) (hl : 0 < ps.length ∧ ps.length < 4611686018427387904) (hstop : ∃ e, e < ps.length ∧ isAt ps ((st k + e) % ps.length) = 0)
    (hs : Sat W w (blk b [.int .u64 seed, .slice s.a s.n s.c, .int .i64 n1, .int .i64 u1] :: recs (plR (Rec.int .i64)) s ps :: M)) :
    Calls Try.prog id_index_Index_int_find #[.pointer (some ⟨b, 0, none⟩), .string k] w fun e w' => e = .returned (.tuple #[.int .i64 ((findI st ps k).1 : Int), .bool (findI st ps k).2]) ∧ Sat W w' (blk b [.int .u64 seed, .slice s.a s.n s.c, .int .i64 n1, .int .i64 u1] :: recs (plR (Rec.int .i64)) s ps :: M) := by
  refine c1 (index_Index_int_find_calls ?_)
  rw [index_Index_int_find_def, index_Index_int_find_raw]
  have hn := (recs_len (s := s) hs PosR.pos).1
  refine drawW_only [blk b [.int .u64 seed, .slice s.a s.n s.c, .int .i64 n1, .int .i64 u1]] hs fun w hs => ?_
  repeat (first | with_reducible refine nilck_some ?_ | ((with_reducible refine atLd ?_); first | refine ld_b hs ?_ | refine ld_b (x := ⟨_, _, _⟩) hs ?_ | refine ld_r0 hs ?_ | refine ld_r1 hs ?_ | refine ld_r2 hs ?_ | refine ld_r3 hs ?_ | refine ld_r4 hs ?_ | refine ld_rd0 ha_ hs ?_ | refine ld_rd1 ha_ hs ?_ | refine ld_rd2 ha_ hs ?_ | refine ld_rd3 ha_ hs ?_ | refine ld_rd4 ha_ hs ?_ | refine ld_rd5 ha_ hs ?_ | fail) | ((with_reducible refine isSt ?_); first | refine st_b hs fun w hs => ?_ | refine st_rec5 hs fun w hs => ?_ | refine st_rec4 hs fun w hs => ?_ | refine st_rec3 hs fun w hs => ?_ | refine st_rec2 hs fun w hs => ?_ | refine st_r0 hs fun w hs => ?_ | refine st_r1 hs fun w hs => ?_ | fail) | ((with_reducible refine isIdx ?_); first | refine idx_s hs fun b_ o_ hs => ?_ | refine idx_a hs ?_ | refine idx_rd hs fun b_ o_ ha_ => ?_ | fail) | ((with_reducible refine isNew ?_); first | refine newB_at hs fun b_ w hs => ?_ | fail) | ((with_reducible refine isLdS ?_); first | refine ldS_b ?_ | refine ldS_b (x := ⟨_, _, _⟩) ?_ | refine ldS_r0 ?_ | refine ldS_r1 ?_ | refine ldS_r2 ?_ | refine ldS_r3 ?_ | refine ldS_rs0 hs ?_ | refine ldS_rs1 hs ?_ | refine ldS_rs2 hs ?_ | refine ldS_rs3 hs ?_ | refine ldS_rd0 ha_ ?_ | refine ldS_rd1 ha_ ?_ | refine ldS_rd2 ha_ ?_ | refine ldS_rd3 ha_ ?_ | refine ldS_rd4 ha_ ?_ | refine ldS_rd5 ha_ ?_ | fail) | ((with_reducible refine isKeep ?_); first | refine keep_of hs ?_ | refine keep_imp hs ?_ | fail) | ((with_reducible refine isWhen ?_); first | refine when_om ?_ | fail) | ((with_reducible refine isDraw ?_); first | refine drawW_sat hs fun w hs => ?_ | fail))
  refine call1_of (hash_at hs hz) fun e w ⟨he, hs⟩ => ⟨_, he, ?_⟩
  repeat (first | with_reducible refine nilck_some ?_ | ((with_reducible refine atLd ?_); first | refine ld_b hs ?_ | refine ld_b (x := ⟨_, _, _⟩) hs ?_ | refine ld_r0 hs ?_ | refine ld_r1 hs ?_ | refine ld_r2 hs ?_ | refine ld_r3 hs ?_ | refine ld_r4 hs ?_ | refine ld_rd0 ha_ hs ?_ | refine ld_rd1 ha_ hs ?_ | refine ld_rd2 ha_ hs ?_ | refine ld_rd3 ha_ hs ?_ | refine ld_rd4 ha_ hs ?_ | refine ld_rd5 ha_ hs ?_ | fail) | ((with_reducible refine isSt ?_); first | refine st_b hs fun w hs => ?_ | refine st_rec5 hs fun w hs => ?_ | refine st_rec4 hs fun w hs => ?_ | refine st_rec3 hs fun w hs => ?_ | refine st_rec2 hs fun w hs => ?_ | refine st_r0 hs fun w hs => ?_ | refine st_r1 hs fun w hs => ?_ | fail) | ((with_reducible refine isIdx ?_); first | refine idx_s hs fun b_ o_ hs => ?_ | refine idx_a hs ?_ | refine idx_rd hs fun b_ o_ ha_ => ?_ | fail) | ((with_reducible refine isNew ?_); first | refine newB_at hs fun b_ w hs => ?_ | fail) | ((with_reducible refine isLdS ?_); first | refine ldS_b ?_ | refine ldS_b (x := ⟨_, _, _⟩) ?_ | refine ldS_r0 ?_ | refine ldS_r1 ?_ | refine ldS_r2 ?_ | refine ldS_r3 ?_ | refine ldS_rs0 hs ?_ | refine ldS_rs1 hs ?_ | refine ldS_rs2 hs ?_ | refine ldS_rs3 hs ?_ | refine ldS_rd0 ha_ ?_ | refine ldS_rd1 ha_ ?_ | refine ldS_rd2 ha_ ?_ | refine ldS_rd3 ha_ ?_ | refine ldS_rd4 ha_ ?_ | refine ldS_rd5 ha_ ?_ | fail) | ((with_reducible refine isKeep ?_); first | refine keep_of hs ?_ | refine keep_imp hs ?_ | fail) | ((with_reducible refine isWhen ?_); first | refine when_om ?_ | fail) | ((with_reducible refine isDraw ?_); first | refine drawW_sat hs fun w hs => ?_ | fail))
  refine call1_of (place_at (n := s.n) hs (hashV_in _ _).1 (by omega) (by omega)) fun e w ⟨he, hs⟩ => ⟨_, he, ?_⟩
  have e9 : (hashV seed k).toNat % s.n = startV seed ps.length k := by rw [hn, startV_eq]
  rw [e9]
  have loop : ∀ (f : Nat) (free : Option Nat) (i : Nat) (w : World), i < ps.length → (∃ e, e < f ∧ isAt ps ((i + e) % ps.length) = 0) → Sat W w (blk b [.int .u64 seed, .slice s.a s.n s.c, .int .i64 n1, .int .i64 u1] :: recs (plR (Rec.int .i64)) s ps :: M) →
      index_Index_int_find_l1 idJ (fun v w' => v = .tuple #[.int .i64 ((findP ps k f free i).1 : Int), .bool (findP ps k f free i).2] ∧ Sat W w' (blk b [.int .u64 seed, .slice s.a s.n s.c, .int .i64 n1, .int .i64 u1] :: recs (plR (Rec.int .i64)) s ps :: M)) f (some ⟨b, 0, none⟩) k (frI free) (i : Int) w := by
    intro f
    induction f with
    | zero => intro free i w hi ⟨e, he, _⟩; omega
    | succ f ih =>
      intro free i w hi hstop hs
      have hm : (i + 1) % ps.length < ps.length := Nat.mod_lt _ hl.1
      have next : isAt ps i ≠ 0 → ∃ e', e' < f ∧ isAt ps (((i + 1) % ps.length + e') % ps.length) = 0 := by
        obtain ⟨e, he, hz0⟩ := hstop
        intro hne
        cases e with
        | zero => rw [Nat.add_zero, Nat.mod_eq_of_lt hi] at hz0; exact absurd hz0 hne
        | succ e => exact ⟨e, by omega, by rw [step_mod]; exact hz0⟩
      have hwr : Int.tmod (IntKind.wrap .i64 ((i : Int) + 1)) (s.n : Int) = (((i + 1) % ps.length : Nat) : Int) := by
        rw [i64_in _ (by omega), hn, Int.tmod_eq_emod_of_nonneg (by omega)]; simp
      have j4 : ∀ (free' : Option Nat) (w : World), isAt ps i ≠ 0 → Sat W w (blk b [.int .u64 seed, .slice s.a s.n s.c, .int .i64 n1, .int .i64 u1] :: recs (plR (Rec.int .i64)) s ps :: M) → findP ps k (f + 1) free i = findP ps k f free' ((i + 1) % ps.length) →
          index_Index_int_find_j4 idJ (fun v w' => v = .tuple #[.int .i64 ((findP ps k (f + 1) free i).1 : Int), .bool (findP ps k (f + 1) free i).2] ∧ Sat W w' (blk b [.int .u64 seed, .slice s.a s.n s.c, .int .i64 n1, .int .i64 u1] :: recs (plR (Rec.int .i64)) s ps :: M)) f (some ⟨b, 0, none⟩) k (frI free') (i : Int) w := by
        intro free' w hne hs he
        rw [index_Index_int_find_j4_def, index_Index_int_find_j4_raw, he]
        repeat (first | with_reducible refine nilck_some ?_ | ((with_reducible refine atLd ?_); first | refine ld_b hs ?_ | refine ld_b (x := ⟨_, _, _⟩) hs ?_ | refine ld_r0 hs ?_ | refine ld_r1 hs ?_ | refine ld_r2 hs ?_ | refine ld_r3 hs ?_ | refine ld_r4 hs ?_ | refine ld_rd0 ha_ hs ?_ | refine ld_rd1 ha_ hs ?_ | refine ld_rd2 ha_ hs ?_ | refine ld_rd3 ha_ hs ?_ | refine ld_rd4 ha_ hs ?_ | refine ld_rd5 ha_ hs ?_ | fail) | ((with_reducible refine isSt ?_); first | refine st_b hs fun w hs => ?_ | refine st_rec5 hs fun w hs => ?_ | refine st_rec4 hs fun w hs => ?_ | refine st_rec3 hs fun w hs => ?_ | refine st_rec2 hs fun w hs => ?_ | refine st_r0 hs fun w hs => ?_ | refine st_r1 hs fun w hs => ?_ | fail) | ((with_reducible refine isIdx ?_); first | refine idx_s hs fun b_ o_ hs => ?_ | refine idx_a hs ?_ | refine idx_rd hs fun b_ o_ ha_ => ?_ | fail) | ((with_reducible refine isNew ?_); first | refine newB_at hs fun b_ w hs => ?_ | fail) | ((with_reducible refine isLdS ?_); first | refine ldS_b ?_ | refine ldS_b (x := ⟨_, _, _⟩) ?_ | refine ldS_r0 ?_ | refine ldS_r1 ?_ | refine ldS_r2 ?_ | refine ldS_r3 ?_ | refine ldS_rs0 hs ?_ | refine ldS_rs1 hs ?_ | refine ldS_rs2 hs ?_ | refine ldS_rs3 hs ?_ | refine ldS_rd0 ha_ ?_ | refine ldS_rd1 ha_ ?_ | refine ldS_rd2 ha_ ?_ | refine ldS_rd3 ha_ ?_ | refine ldS_rd4 ha_ ?_ | refine ldS_rd5 ha_ ?_ | fail) | ((with_reducible refine isKeep ?_); first | refine keep_of hs ?_ | refine keep_imp hs ?_ | fail) | ((with_reducible refine isWhen ?_); first | refine when_om ?_ | fail) | ((with_reducible refine isDraw ?_); first | refine drawW_sat hs fun w hs => ?_ | fail))
        rw [hwr]
        exact ih free' _ w hm (next hne) hs
      rw [index_Index_int_find_l1_raw]
      have hcast : ((i : Int)).toNat = i := Int.toNat_natCast i
      repeat (first | with_reducible refine nilck_some ?_ | ((with_reducible refine atLd ?_); first | refine ld_b hs ?_ | refine ld_b (x := ⟨_, _, _⟩) hs ?_ | refine ld_r0 hs ?_ | refine ld_r1 hs ?_ | refine ld_r2 hs ?_ | refine ld_r3 hs ?_ | refine ld_r4 hs ?_ | refine ld_rd0 ha_ hs ?_ | refine ld_rd1 ha_ hs ?_ | refine ld_rd2 ha_ hs ?_ | refine ld_rd3 ha_ hs ?_ | refine ld_rd4 ha_ hs ?_ | refine ld_rd5 ha_ hs ?_ | fail) | ((with_reducible refine isSt ?_); first | refine st_b hs fun w hs => ?_ | refine st_rec5 hs fun w hs => ?_ | refine st_rec4 hs fun w hs => ?_ | refine st_rec3 hs fun w hs => ?_ | refine st_rec2 hs fun w hs => ?_ | refine st_r0 hs fun w hs => ?_ | refine st_r1 hs fun w hs => ?_ | fail) | ((with_reducible refine isIdx ?_); first | refine idx_s hs fun b_ o_ hs => ?_ | refine idx_a hs ?_ | refine idx_rd hs fun b_ o_ ha_ => ?_ | fail) | ((with_reducible refine isNew ?_); first | refine newB_at hs fun b_ w hs => ?_ | fail) | ((with_reducible refine isLdS ?_); first | refine ldS_b ?_ | refine ldS_b (x := ⟨_, _, _⟩) ?_ | refine ldS_r0 ?_ | refine ldS_r1 ?_ | refine ldS_r2 ?_ | refine ldS_r3 ?_ | refine ldS_rs0 hs ?_ | refine ldS_rs1 hs ?_ | refine ldS_rs2 hs ?_ | refine ldS_rs3 hs ?_ | refine ldS_rd0 ha_ ?_ | refine ldS_rd1 ha_ ?_ | refine ldS_rd2 ha_ ?_ | refine ldS_rd3 ha_ ?_ | refine ldS_rd4 ha_ ?_ | refine ldS_rd5 ha_ ?_ | fail) | ((with_reducible refine isKeep ?_); first | refine keep_of hs ?_ | refine keep_imp hs ?_ | fail) | ((with_reducible refine isWhen ?_); first | refine when_om ?_ | fail) | ((with_reducible refine isDraw ?_); first | refine drawW_sat hs fun w hs => ?_ | fail))
      rw [hcast]
      have ei : (ps.getD i default).is_ = isAt ps i := rfl
      have ek : (ps.getD i default).key = keyAt ps i := rfl
      rw [ei]
      -- behind the first test
      have j2 : ∀ (t : Bool) (w : World) (b1 o1 : Nat), t = decide (isAt ps i = 2 ∧ keyAt ps i = k) → Sat W w (blk b [.int .u64 seed, .slice s.a s.n s.c, .int .i64 n1, .int .i64 u1] :: reca (plR (Rec.int .i64)) b1 o1 s ps :: M) →
          index_Index_int_find_j2 idJ (fun v w' => v = .tuple #[.int .i64 ((findP ps k (f + 1) free i).1 : Int), .bool (findP ps k (f + 1) free i).2] ∧ Sat W w' (blk b [.int .u64 seed, .slice s.a s.n s.c, .int .i64 n1, .int .i64 u1] :: recs (plR (Rec.int .i64)) s ps :: M)) f (some ⟨b, 0, none⟩) k (frI free) (i : Int) b1 (o1 + i * 3) t w := by
        intro t w b1 o1 ht hs
        rw [index_Index_int_find_j2_def, index_Index_int_find_j2_raw, ht]
        (first | with_reducible refine ite_ltI (fun h1 => ?_) (fun h1 => ?_) | with_reducible refine ite_leI (fun h1 => ?_) (fun h1 => ?_) | with_reducible refine ite_gtI (fun h1 => ?_) (fun h1 => ?_) | with_reducible refine ite_geI (fun h1 => ?_) (fun h1 => ?_) | with_reducible refine ite_eqI (fun h1 => ?_) (fun h1 => ?_) | with_reducible refine ite_neI (fun h1 => ?_) (fun h1 => ?_) | with_reducible refine ite_eqS (fun h1 => ?_) (fun h1 => ?_) | with_reducible refine ite_neS (fun h1 => ?_) (fun h1 => ?_) | with_reducible refine ite_dec (fun h1 => ?_) (fun h1 => ?_) | with_reducible refine ite_ndec (fun h1 => ?_) (fun h1 => ?_) | with_reducible refine ite_some (fun i_ h1 => ?_) (fun h1 => ?_) | with_reducible refine ite_nsome (fun h1 => ?_) (fun i_ h1 => ?_) | with_reducible refine ite_cases (fun h1 => ?_) (fun h1 => ?_))
        · have e1 : findP ps k (f + 1) free i = (i, true) := by rw [findP, if_pos h1]
          rw [e1]
          exact ⟨rfl, by exact Sat.fin hs⟩
        · repeat (first | with_reducible refine nilck_some ?_ | ((with_reducible refine atLd ?_); first | refine ld_b hs ?_ | refine ld_b (x := ⟨_, _, _⟩) hs ?_ | refine ld_r0 hs ?_ | refine ld_r1 hs ?_ | refine ld_r2 hs ?_ | refine ld_r3 hs ?_ | refine ld_r4 hs ?_ | refine ld_rd0 ha_ hs ?_ | refine ld_rd1 ha_ hs ?_ | refine ld_rd2 ha_ hs ?_ | refine ld_rd3 ha_ hs ?_ | refine ld_rd4 ha_ hs ?_ | refine ld_rd5 ha_ hs ?_ | fail) | ((with_reducible refine isSt ?_); first | refine st_b hs fun w hs => ?_ | refine st_rec5 hs fun w hs => ?_ | refine st_rec4 hs fun w hs => ?_ | refine st_rec3 hs fun w hs => ?_ | refine st_rec2 hs fun w hs => ?_ | refine st_r0 hs fun w hs => ?_ | refine st_r1 hs fun w hs => ?_ | fail) | ((with_reducible refine isIdx ?_); first | refine idx_s hs fun b_ o_ hs => ?_ | refine idx_a hs ?_ | refine idx_rd hs fun b_ o_ ha_ => ?_ | fail) | ((with_reducible refine isNew ?_); first | refine newB_at hs fun b_ w hs => ?_ | fail) | ((with_reducible refine isLdS ?_); first | refine ldS_b ?_ | refine ldS_b (x := ⟨_, _, _⟩) ?_ | refine ldS_r0 ?_ | refine ldS_r1 ?_ | refine ldS_r2 ?_ | refine ldS_r3 ?_ | refine ldS_rs0 hs ?_ | refine ldS_rs1 hs ?_ | refine ldS_rs2 hs ?_ | refine ldS_rs3 hs ?_ | refine ldS_rd0 ha_ ?_ | refine ldS_rd1 ha_ ?_ | refine ldS_rd2 ha_ ?_ | refine ldS_rd3 ha_ ?_ | refine ldS_rd4 ha_ ?_ | refine ldS_rd5 ha_ ?_ | fail) | ((with_reducible refine isKeep ?_); first | refine keep_of hs ?_ | refine keep_imp hs ?_ | fail) | ((with_reducible refine isWhen ?_); first | refine when_om ?_ | fail) | ((with_reducible refine isDraw ?_); first | refine drawW_sat hs fun w hs => ?_ | fail))
          rw [ei]
          -- behind the second test
          have j3 : ∀ (t : Bool) (w : World), t = decide (isAt ps i = 1 ∧ free = none) → Sat W w (blk b [.int .u64 seed, .slice s.a s.n s.c, .int .i64 n1, .int .i64 u1] :: reca (plR (Rec.int .i64)) b1 o1 s ps :: M) →
              index_Index_int_find_j3 idJ (fun v w' => v = .tuple #[.int .i64 ((findP ps k (f + 1) free i).1 : Int), .bool (findP ps k (f + 1) free i).2] ∧ Sat W w' (blk b [.int .u64 seed, .slice s.a s.n s.c, .int .i64 n1, .int .i64 u1] :: recs (plR (Rec.int .i64)) s ps :: M)) f (some ⟨b, 0, none⟩) k (frI free) (i : Int) b1 (o1 + i * 3) t w := by
            intro t w ht hs
            rw [index_Index_int_find_j3_def, index_Index_int_find_j3_raw, ht]
            (first | with_reducible refine ite_ltI (fun h2 => ?_) (fun h2 => ?_) | with_reducible refine ite_leI (fun h2 => ?_) (fun h2 => ?_) | with_reducible refine ite_gtI (fun h2 => ?_) (fun h2 => ?_) | with_reducible refine ite_geI (fun h2 => ?_) (fun h2 => ?_) | with_reducible refine ite_eqI (fun h2 => ?_) (fun h2 => ?_) | with_reducible refine ite_neI (fun h2 => ?_) (fun h2 => ?_) | with_reducible refine ite_eqS (fun h2 => ?_) (fun h2 => ?_) | with_reducible refine ite_neS (fun h2 => ?_) (fun h2 => ?_) | with_reducible refine ite_dec (fun h2 => ?_) (fun h2 => ?_) | with_reducible refine ite_ndec (fun h2 => ?_) (fun h2 => ?_) | with_reducible refine ite_some (fun i_ h2 => ?_) (fun h2 => ?_) | with_reducible refine ite_nsome (fun h2 => ?_) (fun i_ h2 => ?_) | with_reducible refine ite_cases (fun h2 => ?_) (fun h2 => ?_))
            · exact j4 (some i) w (by rw [h2.1]; decide) (by exact Sat.fin hs) (by rw [findP, if_neg h1, if_pos h2])
            · repeat (first | with_reducible refine nilck_some ?_ | ((with_reducible refine atLd ?_); first | refine ld_b hs ?_ | refine ld_b (x := ⟨_, _, _⟩) hs ?_ | refine ld_r0 hs ?_ | refine ld_r1 hs ?_ | refine ld_r2 hs ?_ | refine ld_r3 hs ?_ | refine ld_r4 hs ?_ | refine ld_rd0 ha_ hs ?_ | refine ld_rd1 ha_ hs ?_ | refine ld_rd2 ha_ hs ?_ | refine ld_rd3 ha_ hs ?_ | refine ld_rd4 ha_ hs ?_ | refine ld_rd5 ha_ hs ?_ | fail) | ((with_reducible refine isSt ?_); first | refine st_b hs fun w hs => ?_ | refine st_rec5 hs fun w hs => ?_ | refine st_rec4 hs fun w hs => ?_ | refine st_rec3 hs fun w hs => ?_ | refine st_rec2 hs fun w hs => ?_ | refine st_r0 hs fun w hs => ?_ | refine st_r1 hs fun w hs => ?_ | fail) | ((with_reducible refine isIdx ?_); first | refine idx_s hs fun b_ o_ hs => ?_ | refine idx_a hs ?_ | refine idx_rd hs fun b_ o_ ha_ => ?_ | fail) | ((with_reducible refine isNew ?_); first | refine newB_at hs fun b_ w hs => ?_ | fail) | ((with_reducible refine isLdS ?_); first | refine ldS_b ?_ | refine ldS_b (x := ⟨_, _, _⟩) ?_ | refine ldS_r0 ?_ | refine ldS_r1 ?_ | refine ldS_r2 ?_ | refine ldS_r3 ?_ | refine ldS_rs0 hs ?_ | refine ldS_rs1 hs ?_ | refine ldS_rs2 hs ?_ | refine ldS_rs3 hs ?_ | refine ldS_rd0 ha_ ?_ | refine ldS_rd1 ha_ ?_ | refine ldS_rd2 ha_ ?_ | refine ldS_rd3 ha_ ?_ | refine ldS_rd4 ha_ ?_ | refine ldS_rd5 ha_ ?_ | fail) | ((with_reducible refine isKeep ?_); first | refine keep_of hs ?_ | refine keep_imp hs ?_ | fail) | ((with_reducible refine isWhen ?_); first | refine when_om ?_ | fail) | ((with_reducible refine isDraw ?_); first | refine drawW_sat hs fun w hs => ?_ | fail))
              rw [ei]
              have j5 : ∀ (t : Bool) (w : World), t = decide (isAt ps i = 0 ∧ free = none) → Sat W w (blk b [.int .u64 seed, .slice s.a s.n s.c, .int .i64 n1, .int .i64 u1] :: reca (plR (Rec.int .i64)) b1 o1 s ps :: M) →
                  index_Index_int_find_j5 idJ (fun v w' => v = .tuple #[.int .i64 ((findP ps k (f + 1) free i).1 : Int), .bool (findP ps k (f + 1) free i).2] ∧ Sat W w' (blk b [.int .u64 seed, .slice s.a s.n s.c, .int .i64 n1, .int .i64 u1] :: recs (plR (Rec.int .i64)) s ps :: M)) f (some ⟨b, 0, none⟩) k (frI free) (i : Int) b1 (o1 + i * 3) t w := by
                intro t w ht hs
                rw [index_Index_int_find_j5_def, index_Index_int_find_j5_raw, ht]
                (first | with_reducible refine ite_ltI (fun h3 => ?_) (fun h3 => ?_) | with_reducible refine ite_leI (fun h3 => ?_) (fun h3 => ?_) | with_reducible refine ite_gtI (fun h3 => ?_) (fun h3 => ?_) | with_reducible refine ite_geI (fun h3 => ?_) (fun h3 => ?_) | with_reducible refine ite_eqI (fun h3 => ?_) (fun h3 => ?_) | with_reducible refine ite_neI (fun h3 => ?_) (fun h3 => ?_) | with_reducible refine ite_eqS (fun h3 => ?_) (fun h3 => ?_) | with_reducible refine ite_neS (fun h3 => ?_) (fun h3 => ?_) | with_reducible refine ite_dec (fun h3 => ?_) (fun h3 => ?_) | with_reducible refine ite_ndec (fun h3 => ?_) (fun h3 => ?_) | with_reducible refine ite_some (fun i_ h3 => ?_) (fun h3 => ?_) | with_reducible refine ite_nsome (fun h3 => ?_) (fun i_ h3 => ?_) | with_reducible refine ite_cases (fun h3 => ?_) (fun h3 => ?_))
                · have e1 : findP ps k (f + 1) free i = (i, false) := by rw [findP, if_neg h1, if_neg h2, if_pos h3.1, h3.2]; rfl
                  rw [e1]
                  exact ⟨rfl, by exact Sat.fin hs⟩
                · repeat (first | with_reducible refine nilck_some ?_ | ((with_reducible refine atLd ?_); first | refine ld_b hs ?_ | refine ld_b (x := ⟨_, _, _⟩) hs ?_ | refine ld_r0 hs ?_ | refine ld_r1 hs ?_ | refine ld_r2 hs ?_ | refine ld_r3 hs ?_ | refine ld_r4 hs ?_ | refine ld_rd0 ha_ hs ?_ | refine ld_rd1 ha_ hs ?_ | refine ld_rd2 ha_ hs ?_ | refine ld_rd3 ha_ hs ?_ | refine ld_rd4 ha_ hs ?_ | refine ld_rd5 ha_ hs ?_ | fail) | ((with_reducible refine isSt ?_); first | refine st_b hs fun w hs => ?_ | refine st_rec5 hs fun w hs => ?_ | refine st_rec4 hs fun w hs => ?_ | refine st_rec3 hs fun w hs => ?_ | refine st_rec2 hs fun w hs => ?_ | refine st_r0 hs fun w hs => ?_ | refine st_r1 hs fun w hs => ?_ | fail) | ((with_reducible refine isIdx ?_); first | refine idx_s hs fun b_ o_ hs => ?_ | refine idx_a hs ?_ | refine idx_rd hs fun b_ o_ ha_ => ?_ | fail) | ((with_reducible refine isNew ?_); first | refine newB_at hs fun b_ w hs => ?_ | fail) | ((with_reducible refine isLdS ?_); first | refine ldS_b ?_ | refine ldS_b (x := ⟨_, _, _⟩) ?_ | refine ldS_r0 ?_ | refine ldS_r1 ?_ | refine ldS_r2 ?_ | refine ldS_r3 ?_ | refine ldS_rs0 hs ?_ | refine ldS_rs1 hs ?_ | refine ldS_rs2 hs ?_ | refine ldS_rs3 hs ?_ | refine ldS_rd0 ha_ ?_ | refine ldS_rd1 ha_ ?_ | refine ldS_rd2 ha_ ?_ | refine ldS_rd3 ha_ ?_ | refine ldS_rd4 ha_ ?_ | refine ldS_rd5 ha_ ?_ | fail) | ((with_reducible refine isKeep ?_); first | refine keep_of hs ?_ | refine keep_imp hs ?_ | fail) | ((with_reducible refine isWhen ?_); first | refine when_om ?_ | fail) | ((with_reducible refine isDraw ?_); first | refine drawW_sat hs fun w hs => ?_ | fail))
                  rw [ei]
                  (first | with_reducible refine ite_ltI (fun h4 => ?_) (fun h4 => ?_) | with_reducible refine ite_leI (fun h4 => ?_) (fun h4 => ?_) | with_reducible refine ite_gtI (fun h4 => ?_) (fun h4 => ?_) | with_reducible refine ite_geI (fun h4 => ?_) (fun h4 => ?_) | with_reducible refine ite_eqI (fun h4 => ?_) (fun h4 => ?_) | with_reducible refine ite_neI (fun h4 => ?_) (fun h4 => ?_) | with_reducible refine ite_eqS (fun h4 => ?_) (fun h4 => ?_) | with_reducible refine ite_neS (fun h4 => ?_) (fun h4 => ?_) | with_reducible refine ite_dec (fun h4 => ?_) (fun h4 => ?_) | with_reducible refine ite_ndec (fun h4 => ?_) (fun h4 => ?_) | with_reducible refine ite_some (fun i_ h4 => ?_) (fun h4 => ?_) | with_reducible refine ite_nsome (fun h4 => ?_) (fun i_ h4 => ?_) | with_reducible refine ite_cases (fun h4 => ?_) (fun h4 => ?_))
                  · have e1 : findP ps k (f + 1) free i = (free.getD i, false) := by rw [findP, if_neg h1, if_neg h2, if_pos h4]
                    rw [e1]
                    cases free with
                    | none => exact absurd ⟨h4, rfl⟩ h3
                    | some j => exact ⟨rfl, by exact Sat.fin hs⟩
                  · exact j4 free w h4 (by exact Sat.fin hs) (by rw [findP, if_neg h1, if_neg h2, if_neg h4])
              (first | with_reducible refine ite_ltI (fun h3 => ?_) (fun h3 => ?_) | with_reducible refine ite_leI (fun h3 => ?_) (fun h3 => ?_) | with_reducible refine ite_gtI (fun h3 => ?_) (fun h3 => ?_) | with_reducible refine ite_geI (fun h3 => ?_) (fun h3 => ?_) | with_reducible refine ite_eqI (fun h3 => ?_) (fun h3 => ?_) | with_reducible refine ite_neI (fun h3 => ?_) (fun h3 => ?_) | with_reducible refine ite_eqS (fun h3 => ?_) (fun h3 => ?_) | with_reducible refine ite_neS (fun h3 => ?_) (fun h3 => ?_) | with_reducible refine ite_dec (fun h3 => ?_) (fun h3 => ?_) | with_reducible refine ite_ndec (fun h3 => ?_) (fun h3 => ?_) | with_reducible refine ite_some (fun i_ h3 => ?_) (fun h3 => ?_) | with_reducible refine ite_nsome (fun h3 => ?_) (fun i_ h3 => ?_) | with_reducible refine ite_cases (fun h3 => ?_) (fun h3 => ?_))
              · exact j5 _ w (by simp [h3, frI_neg]) (by exact Sat.fin hs)
              · exact j5 _ w (by simp [h3]) (by exact Sat.fin hs)
          (first | with_reducible refine ite_ltI (fun h2 => ?_) (fun h2 => ?_) | with_reducible refine ite_leI (fun h2 => ?_) (fun h2 => ?_) | with_reducible refine ite_gtI (fun h2 => ?_) (fun h2 => ?_) | with_reducible refine ite_geI (fun h2 => ?_) (fun h2 => ?_) | with_reducible refine ite_eqI (fun h2 => ?_) (fun h2 => ?_) | with_reducible refine ite_neI (fun h2 => ?_) (fun h2 => ?_) | with_reducible refine ite_eqS (fun h2 => ?_) (fun h2 => ?_) | with_reducible refine ite_neS (fun h2 => ?_) (fun h2 => ?_) | with_reducible refine ite_dec (fun h2 => ?_) (fun h2 => ?_) | with_reducible refine ite_ndec (fun h2 => ?_) (fun h2 => ?_) | with_reducible refine ite_some (fun i_ h2 => ?_) (fun h2 => ?_) | with_reducible refine ite_nsome (fun h2 => ?_) (fun i_ h2 => ?_) | with_reducible refine ite_cases (fun h2 => ?_) (fun h2 => ?_))
          · exact j3 _ w (by simp [h2, frI_neg]) (by exact Sat.fin hs)
          · exact j3 _ w (by simp [h2]) (by exact Sat.fin hs)
      (first | with_reducible refine ite_ltI (fun h1 => ?_) (fun h1 => ?_) | with_reducible refine ite_leI (fun h1 => ?_) (fun h1 => ?_) | with_reducible refine ite_gtI (fun h1 => ?_) (fun h1 => ?_) | with_reducible refine ite_geI (fun h1 => ?_) (fun h1 => ?_) | with_reducible refine ite_eqI (fun h1 => ?_) (fun h1 => ?_) | with_reducible refine ite_neI (fun h1 => ?_) (fun h1 => ?_) | with_reducible refine ite_eqS (fun h1 => ?_) (fun h1 => ?_) | with_reducible refine ite_neS (fun h1 => ?_) (fun h1 => ?_) | with_reducible refine ite_dec (fun h1 => ?_) (fun h1 => ?_) | with_reducible refine ite_ndec (fun h1 => ?_) (fun h1 => ?_) | with_reducible refine ite_some (fun i_ h1 => ?_) (fun h1 => ?_) | with_reducible refine ite_nsome (fun h1 => ?_) (fun i_ h1 => ?_) | with_reducible refine ite_cases (fun h1 => ?_) (fun h1 => ?_))
      · repeat (first | with_reducible refine nilck_some ?_ | ((with_reducible refine atLd ?_); first | refine ld_b hs ?_ | refine ld_b (x := ⟨_, _, _⟩) hs ?_ | refine ld_r0 hs ?_ | refine ld_r1 hs ?_ | refine ld_r2 hs ?_ | refine ld_r3 hs ?_ | refine ld_r4 hs ?_ | refine ld_rd0 ha_ hs ?_ | refine ld_rd1 ha_ hs ?_ | refine ld_rd2 ha_ hs ?_ | refine ld_rd3 ha_ hs ?_ | refine ld_rd4 ha_ hs ?_ | refine ld_rd5 ha_ hs ?_ | fail) | ((with_reducible refine isSt ?_); first | refine st_b hs fun w hs => ?_ | refine st_rec5 hs fun w hs => ?_ | refine st_rec4 hs fun w hs => ?_ | refine st_rec3 hs fun w hs => ?_ | refine st_rec2 hs fun w hs => ?_ | refine st_r0 hs fun w hs => ?_ | refine st_r1 hs fun w hs => ?_ | fail) | ((with_reducible refine isIdx ?_); first | refine idx_s hs fun b_ o_ hs => ?_ | refine idx_a hs ?_ | refine idx_rd hs fun b_ o_ ha_ => ?_ | fail) | ((with_reducible refine isNew ?_); first | refine newB_at hs fun b_ w hs => ?_ | fail) | ((with_reducible refine isLdS ?_); first | refine ldS_b ?_ | refine ldS_b (x := ⟨_, _, _⟩) ?_ | refine ldS_r0 ?_ | refine ldS_r1 ?_ | refine ldS_r2 ?_ | refine ldS_r3 ?_ | refine ldS_rs0 hs ?_ | refine ldS_rs1 hs ?_ | refine ldS_rs2 hs ?_ | refine ldS_rs3 hs ?_ | refine ldS_rd0 ha_ ?_ | refine ldS_rd1 ha_ ?_ | refine ldS_rd2 ha_ ?_ | refine ldS_rd3 ha_ ?_ | refine ldS_rd4 ha_ ?_ | refine ldS_rd5 ha_ ?_ | fail) | ((with_reducible refine isKeep ?_); first | refine keep_of hs ?_ | refine keep_imp hs ?_ | fail) | ((with_reducible refine isWhen ?_); first | refine when_om ?_ | fail) | ((with_reducible refine isDraw ?_); first | refine drawW_sat hs fun w hs => ?_ | fail))
        rw [ek]
        refine j2 _ w _ _ ?_ (by exact Sat.fin hs)
        rw [sEq_eq]; simp [h1]
      · refine j2 _ w _ _ ?_ (by exact Sat.fin hs)
        simp [h1]
  subst hst
  have hl2 := loop ps.length none (startV seed ps.length k) w (startV_lt hl.1 k) hstop hs
  rw [show frI none = -1 from rfl] at hl2
  unfold findI
  refine ⟨ps.length, ?_⟩
  exact hl2
theorem int_lays_in {k : ByteArray} {v : Int} {j : Nat} (hj : j < ps.length) (hb : ps.length < 4611686018427387904) (hu : u1 = (usedP ps : Int)) (hn1 : 0 ≤ n1 ∧ n1 < 4611686018427387904) (hs : Sat W w (blk b [.int .u64 seed, .slice s.a s.n s.c, .int .i64 n1, .int .i64 u1] :: recs (plR (Rec.int .i64)) s ps :: M)) :
    Calls Try.prog id_index_Index_int_lays #[.pointer (some ⟨b, 0, none⟩), .int .i64 (j : Int), .string k, .int .i64 v] w fun e w' => e = .returned (.tuple #[]) ∧ Sat W w' (blk b [.int .u64 seed, .slice s.a s.n s.c, .int .i64 (n1 + 1), .int .i64 (usedP (ps.set j ⟨2, k, v⟩) : Int)] :: recs (plR (Rec.int .i64)) s (ps.set j ⟨2, k, v⟩) :: M) := by
  refine c1 (index_Index_int_lays_calls ?_)
  rw [index_Index_int_lays_def, index_Index_int_lays_raw]
  have hn := (recs_len (s := s) hs PosR.pos).1
  have hle : usedP ps ≤ ps.length := List.countP_le_length
  rw [usedP_set hj _ (by show (2 : Int) ≠ 0; decide)]
  repeat (first | with_reducible refine nilck_some ?_ | ((with_reducible refine atLd ?_); first | refine ld_b hs ?_ | refine ld_b (x := ⟨_, _, _⟩) hs ?_ | refine ld_r0 hs ?_ | refine ld_r1 hs ?_ | refine ld_r2 hs ?_ | refine ld_r3 hs ?_ | refine ld_r4 hs ?_ | refine ld_rd0 ha_ hs ?_ | refine ld_rd1 ha_ hs ?_ | refine ld_rd2 ha_ hs ?_ | refine ld_rd3 ha_ hs ?_ | refine ld_rd4 ha_ hs ?_ | refine ld_rd5 ha_ hs ?_ | fail) | ((with_reducible refine isSt ?_); first | refine st_b hs fun w hs => ?_ | refine st_rec5 hs fun w hs => ?_ | refine st_rec4 hs fun w hs => ?_ | refine st_rec3 hs fun w hs => ?_ | refine st_rec2 hs fun w hs => ?_ | refine st_r0 hs fun w hs => ?_ | refine st_r1 hs fun w hs => ?_ | fail) | ((with_reducible refine isIdx ?_); first | refine idx_s hs fun b_ o_ hs => ?_ | refine idx_a hs ?_ | refine idx_rd hs fun b_ o_ ha_ => ?_ | fail) | ((with_reducible refine isNew ?_); first | refine newB_at hs fun b_ w hs => ?_ | fail) | ((with_reducible refine isLdS ?_); first | refine ldS_b ?_ | refine ldS_b (x := ⟨_, _, _⟩) ?_ | refine ldS_r0 ?_ | refine ldS_r1 ?_ | refine ldS_r2 ?_ | refine ldS_r3 ?_ | refine ldS_rs0 hs ?_ | refine ldS_rs1 hs ?_ | refine ldS_rs2 hs ?_ | refine ldS_rs3 hs ?_ | refine ldS_rd0 ha_ ?_ | refine ldS_rd1 ha_ ?_ | refine ldS_rd2 ha_ ?_ | refine ldS_rd3 ha_ ?_ | refine ldS_rd4 ha_ ?_ | refine ldS_rd5 ha_ ?_ | fail) | ((with_reducible refine isKeep ?_); first | refine keep_of hs ?_ | refine keep_imp hs ?_ | fail) | ((with_reducible refine isWhen ?_); first | refine when_om ?_ | fail) | ((with_reducible refine isDraw ?_); first | refine drawW_sat hs fun w hs => ?_ | fail))
  simp only [Int.toNat_natCast]
  have ei : (ps.getD j default).is_ = isAt ps j := rfl
  rw [ei]
  (first | with_reducible refine ite_ltI (fun h1 => ?_) (fun h1 => ?_) | with_reducible refine ite_leI (fun h1 => ?_) (fun h1 => ?_) | with_reducible refine ite_gtI (fun h1 => ?_) (fun h1 => ?_) | with_reducible refine ite_geI (fun h1 => ?_) (fun h1 => ?_) | with_reducible refine ite_eqI (fun h1 => ?_) (fun h1 => ?_) | with_reducible refine ite_neI (fun h1 => ?_) (fun h1 => ?_) | with_reducible refine ite_eqS (fun h1 => ?_) (fun h1 => ?_) | with_reducible refine ite_neS (fun h1 => ?_) (fun h1 => ?_) | with_reducible refine ite_dec (fun h1 => ?_) (fun h1 => ?_) | with_reducible refine ite_ndec (fun h1 => ?_) (fun h1 => ?_) | with_reducible refine ite_some (fun i_ h1 => ?_) (fun h1 => ?_) | with_reducible refine ite_nsome (fun h1 => ?_) (fun i_ h1 => ?_) | with_reducible refine ite_cases (fun h1 => ?_) (fun h1 => ?_))
  · repeat (first | with_reducible refine nilck_some ?_ | ((with_reducible refine atLd ?_); first | refine ld_b hs ?_ | refine ld_b (x := ⟨_, _, _⟩) hs ?_ | refine ld_r0 hs ?_ | refine ld_r1 hs ?_ | refine ld_r2 hs ?_ | refine ld_r3 hs ?_ | refine ld_r4 hs ?_ | refine ld_rd0 ha_ hs ?_ | refine ld_rd1 ha_ hs ?_ | refine ld_rd2 ha_ hs ?_ | refine ld_rd3 ha_ hs ?_ | refine ld_rd4 ha_ hs ?_ | refine ld_rd5 ha_ hs ?_ | fail) | ((with_reducible refine isSt ?_); first | refine st_b hs fun w hs => ?_ | refine st_rec5 hs fun w hs => ?_ | refine st_rec4 hs fun w hs => ?_ | refine st_rec3 hs fun w hs => ?_ | refine st_rec2 hs fun w hs => ?_ | refine st_r0 hs fun w hs => ?_ | refine st_r1 hs fun w hs => ?_ | fail) | ((with_reducible refine isIdx ?_); first | refine idx_s hs fun b_ o_ hs => ?_ | refine idx_a hs ?_ | refine idx_rd hs fun b_ o_ ha_ => ?_ | fail) | ((with_reducible refine isNew ?_); first | refine newB_at hs fun b_ w hs => ?_ | fail) | ((with_reducible refine isLdS ?_); first | refine ldS_b ?_ | refine ldS_b (x := ⟨_, _, _⟩) ?_ | refine ldS_r0 ?_ | refine ldS_r1 ?_ | refine ldS_r2 ?_ | refine ldS_r3 ?_ | refine ldS_rs0 hs ?_ | refine ldS_rs1 hs ?_ | refine ldS_rs2 hs ?_ | refine ldS_rs3 hs ?_ | refine ldS_rd0 ha_ ?_ | refine ldS_rd1 ha_ ?_ | refine ldS_rd2 ha_ ?_ | refine ldS_rd3 ha_ ?_ | refine ldS_rd4 ha_ ?_ | refine ldS_rd5 ha_ ?_ | fail) | ((with_reducible refine isKeep ?_); first | refine keep_of hs ?_ | refine keep_imp hs ?_ | fail) | ((with_reducible refine isWhen ?_); first | refine when_om ?_ | fail) | ((with_reducible refine isDraw ?_); first | refine drawW_sat hs fun w hs => ?_ | fail))
    rw [index_Index_int_lays_j1_def, index_Index_int_lays_j1_raw]
    repeat (first | with_reducible refine nilck_some ?_ | ((with_reducible refine atLd ?_); first | refine ld_b hs ?_ | refine ld_b (x := ⟨_, _, _⟩) hs ?_ | refine ld_r0 hs ?_ | refine ld_r1 hs ?_ | refine ld_r2 hs ?_ | refine ld_r3 hs ?_ | refine ld_r4 hs ?_ | refine ld_rd0 ha_ hs ?_ | refine ld_rd1 ha_ hs ?_ | refine ld_rd2 ha_ hs ?_ | refine ld_rd3 ha_ hs ?_ | refine ld_rd4 ha_ hs ?_ | refine ld_rd5 ha_ hs ?_ | fail) | ((with_reducible refine isSt ?_); first | refine st_b hs fun w hs => ?_ | refine st_rec5 hs fun w hs => ?_ | refine st_rec4 hs fun w hs => ?_ | refine st_rec3 hs fun w hs => ?_ | refine st_rec2 hs fun w hs => ?_ | refine st_r0 hs fun w hs => ?_ | refine st_r1 hs fun w hs => ?_ | fail) | ((with_reducible refine isIdx ?_); first | refine idx_s hs fun b_ o_ hs => ?_ | refine idx_a hs ?_ | refine idx_rd hs fun b_ o_ ha_ => ?_ | fail) | ((with_reducible refine isNew ?_); first | refine newB_at hs fun b_ w hs => ?_ | fail) | ((with_reducible refine isLdS ?_); first | refine ldS_b ?_ | refine ldS_b (x := ⟨_, _, _⟩) ?_ | refine ldS_r0 ?_ | refine ldS_r1 ?_ | refine ldS_r2 ?_ | refine ldS_r3 ?_ | refine ldS_rs0 hs ?_ | refine ldS_rs1 hs ?_ | refine ldS_rs2 hs ?_ | refine ldS_rs3 hs ?_ | refine ldS_rd0 ha_ ?_ | refine ldS_rd1 ha_ ?_ | refine ldS_rd2 ha_ ?_ | refine ldS_rd3 ha_ ?_ | refine ldS_rd4 ha_ ?_ | refine ldS_rd5 ha_ ?_ | fail) | ((with_reducible refine isKeep ?_); first | refine keep_of hs ?_ | refine keep_imp hs ?_ | fail) | ((with_reducible refine isWhen ?_); first | refine when_om ?_ | fail) | ((with_reducible refine isDraw ?_); first | refine drawW_sat hs fun w hs => ?_ | fail))
    rw [i64_in (n1 + 1) (by omega), hu, i64_in _ (by omega)] at hs
    simp only [Int.toNat_natCast] at hs
    rw [if_pos h1]
    exact ⟨rfl, by exact Sat.fin hs⟩
  · rw [index_Index_int_lays_j1_def, index_Index_int_lays_j1_raw]
    repeat (first | with_reducible refine nilck_some ?_ | ((with_reducible refine atLd ?_); first | refine ld_b hs ?_ | refine ld_b (x := ⟨_, _, _⟩) hs ?_ | refine ld_r0 hs ?_ | refine ld_r1 hs ?_ | refine ld_r2 hs ?_ | refine ld_r3 hs ?_ | refine ld_r4 hs ?_ | refine ld_rd0 ha_ hs ?_ | refine ld_rd1 ha_ hs ?_ | refine ld_rd2 ha_ hs ?_ | refine ld_rd3 ha_ hs ?_ | refine ld_rd4 ha_ hs ?_ | refine ld_rd5 ha_ hs ?_ | fail) | ((with_reducible refine isSt ?_); first | refine st_b hs fun w hs => ?_ | refine st_rec5 hs fun w hs => ?_ | refine st_rec4 hs fun w hs => ?_ | refine st_rec3 hs fun w hs => ?_ | refine st_rec2 hs fun w hs => ?_ | refine st_r0 hs fun w hs => ?_ | refine st_r1 hs fun w hs => ?_ | fail) | ((with_reducible refine isIdx ?_); first | refine idx_s hs fun b_ o_ hs => ?_ | refine idx_a hs ?_ | refine idx_rd hs fun b_ o_ ha_ => ?_ | fail) | ((with_reducible refine isNew ?_); first | refine newB_at hs fun b_ w hs => ?_ | fail) | ((with_reducible refine isLdS ?_); first | refine ldS_b ?_ | refine ldS_b (x := ⟨_, _, _⟩) ?_ | refine ldS_r0 ?_ | refine ldS_r1 ?_ | refine ldS_r2 ?_ | refine ldS_r3 ?_ | refine ldS_rs0 hs ?_ | refine ldS_rs1 hs ?_ | refine ldS_rs2 hs ?_ | refine ldS_rs3 hs ?_ | refine ldS_rd0 ha_ ?_ | refine ldS_rd1 ha_ ?_ | refine ldS_rd2 ha_ ?_ | refine ldS_rd3 ha_ ?_ | refine ldS_rd4 ha_ ?_ | refine ldS_rd5 ha_ ?_ | fail) | ((with_reducible refine isKeep ?_); first | refine keep_of hs ?_ | refine keep_imp hs ?_ | fail) | ((with_reducible refine isWhen ?_); first | refine when_om ?_ | fail) | ((with_reducible refine isDraw ?_); first | refine drawW_sat hs fun w hs => ?_ | fail))
    rw [i64_in (n1 + 1) (by omega), hu] at hs
    simp only [Int.toNat_natCast] at hs
    rw [if_neg h1, Nat.add_zero]
    exact ⟨rfl, by exact Sat.fin hs⟩
theorem int_grows_in {st : ByteArray → Nat} (hi : IxInv st ps m) (hkz : ∀ e ∈ m, e.1.size < 4611686018427387904) (hm : m.length < 1000000000) (hs : Sat W w (blk b [.int .u64 seed, .slice s.a s.n s.c, .int .i64 (m.length : Int), .int .i64 u1] :: recs (plR (Rec.int .i64)) s ps :: M)) :
    Calls Try.prog id_index_Index_int_grows #[.pointer (some ⟨b, 0, none⟩)] w fun e w' => e = .returned (.tuple #[]) ∧ Sat W w' (ixr (Rec.int .i64) b seed m :: M) := by
  refine c1 (index_Index_int_grows_calls ?_)
  rw [index_Index_int_grows_def, index_Index_int_grows_raw]
  have hn := (recs_len (s := s) hs PosR.pos).1
  have hsmall := hi.small
  obtain ⟨N, hN⟩ : ∃ N : Nat, N = max 8 (4 * (m.length + 1)) := ⟨_, rfl⟩
  have e1 : (if (IntKind.wrap .i64 ((4 : Int) * (IntKind.wrap .i64 ((m.length : Int) + (1 : Int))))) > (8 : Int) then (IntKind.wrap .i64 ((4 : Int) * (IntKind.wrap .i64 ((m.length : Int) + (1 : Int))))) else (8 : Int)) = (N : Int) := by
    rw [i64_in ((m.length : Int) + 1) (by omega), i64_in _ (by omega)]; split <;> omega
  repeat (first | with_reducible refine nilck_some ?_ | ((with_reducible refine atLd ?_); first | refine ld_b hs ?_ | refine ld_b (x := ⟨_, _, _⟩) hs ?_ | refine ld_r0 hs ?_ | refine ld_r1 hs ?_ | refine ld_r2 hs ?_ | refine ld_r3 hs ?_ | refine ld_r4 hs ?_ | refine ld_rd0 ha_ hs ?_ | refine ld_rd1 ha_ hs ?_ | refine ld_rd2 ha_ hs ?_ | refine ld_rd3 ha_ hs ?_ | refine ld_rd4 ha_ hs ?_ | refine ld_rd5 ha_ hs ?_ | fail) | ((with_reducible refine isSt ?_); first | refine st_b hs fun w hs => ?_ | refine st_rec5 hs fun w hs => ?_ | refine st_rec4 hs fun w hs => ?_ | refine st_rec3 hs fun w hs => ?_ | refine st_rec2 hs fun w hs => ?_ | refine st_r0 hs fun w hs => ?_ | refine st_r1 hs fun w hs => ?_ | fail) | ((with_reducible refine isIdx ?_); first | refine idx_s hs fun b_ o_ hs => ?_ | refine idx_a hs ?_ | refine idx_rd hs fun b_ o_ ha_ => ?_ | fail) | ((with_reducible refine isNew ?_); first | refine newB_at hs fun b_ w hs => ?_ | fail) | ((with_reducible refine isLdS ?_); first | refine ldS_b ?_ | refine ldS_b (x := ⟨_, _, _⟩) ?_ | refine ldS_r0 ?_ | refine ldS_r1 ?_ | refine ldS_r2 ?_ | refine ldS_r3 ?_ | refine ldS_rs0 hs ?_ | refine ldS_rs1 hs ?_ | refine ldS_rs2 hs ?_ | refine ldS_rs3 hs ?_ | refine ldS_rd0 ha_ ?_ | refine ldS_rd1 ha_ ?_ | refine ldS_rd2 ha_ ?_ | refine ldS_rd3 ha_ ?_ | refine ldS_rd4 ha_ ?_ | refine ldS_rd5 ha_ ?_ | fail) | ((with_reducible refine isKeep ?_); first | refine keep_of hs ?_ | refine keep_imp hs ?_ | fail) | ((with_reducible refine isWhen ?_); first | refine when_om ?_ | fail) | ((with_reducible refine isDraw ?_); first | refine drawW_sat hs fun w hs => ?_ | fail))
  rw [e1]
  refine make_at (sz := 3) hs rfl (by omega) (by omega) (by omega) (by omega) fun s2 w hn2 _ _ hs => ?_
  rw [Int.toNat_natCast] at hs hn2
  have hs : Sat W w (recs (plR (Rec.int .i64)) s2 (List.replicate N ⟨0, str_empty, 0⟩) :: blk b [.int .u64 seed, .slice s.a s.n s.c, .int .i64 (m.length : Int), .int .i64 u1] :: recs (plR (Rec.int .i64)) s ps :: M) := by
    have e := zrow_replicate (plR (Rec.int .i64)) ⟨0, str_empty, 0⟩ N
    unfold recs
    rw [← e]; exact hs
  repeat (first | with_reducible refine nilck_some ?_ | ((with_reducible refine atLd ?_); first | refine ld_b hs ?_ | refine ld_b (x := ⟨_, _, _⟩) hs ?_ | refine ld_r0 hs ?_ | refine ld_r1 hs ?_ | refine ld_r2 hs ?_ | refine ld_r3 hs ?_ | refine ld_r4 hs ?_ | refine ld_rd0 ha_ hs ?_ | refine ld_rd1 ha_ hs ?_ | refine ld_rd2 ha_ hs ?_ | refine ld_rd3 ha_ hs ?_ | refine ld_rd4 ha_ hs ?_ | refine ld_rd5 ha_ hs ?_ | fail) | ((with_reducible refine isSt ?_); first | refine st_b hs fun w hs => ?_ | refine st_rec5 hs fun w hs => ?_ | refine st_rec4 hs fun w hs => ?_ | refine st_rec3 hs fun w hs => ?_ | refine st_rec2 hs fun w hs => ?_ | refine st_r0 hs fun w hs => ?_ | refine st_r1 hs fun w hs => ?_ | fail) | ((with_reducible refine isIdx ?_); first | refine idx_s hs fun b_ o_ hs => ?_ | refine idx_a hs ?_ | refine idx_rd hs fun b_ o_ ha_ => ?_ | fail) | ((with_reducible refine isNew ?_); first | refine newB_at hs fun b_ w hs => ?_ | fail) | ((with_reducible refine isLdS ?_); first | refine ldS_b ?_ | refine ldS_b (x := ⟨_, _, _⟩) ?_ | refine ldS_r0 ?_ | refine ldS_r1 ?_ | refine ldS_r2 ?_ | refine ldS_r3 ?_ | refine ldS_rs0 hs ?_ | refine ldS_rs1 hs ?_ | refine ldS_rs2 hs ?_ | refine ldS_rs3 hs ?_ | refine ldS_rd0 ha_ ?_ | refine ldS_rd1 ha_ ?_ | refine ldS_rd2 ha_ ?_ | refine ldS_rd3 ha_ ?_ | refine ldS_rd4 ha_ ?_ | refine ldS_rd5 ha_ ?_ | fail) | ((with_reducible refine isKeep ?_); first | refine keep_of hs ?_ | refine keep_imp hs ?_ | fail) | ((with_reducible refine isWhen ?_); first | refine when_om ?_ | fail) | ((with_reducible refine isDraw ?_); first | refine drawW_sat hs fun w hs => ?_ | fail))
  have hinv := IxInv.new (st := startV seed N) (n := N) (z := (⟨0, str_empty, 0⟩ : Pl Int)) rfl (by omega) (by omega) (startV_lt (by omega))
  have hdist : (fullP ps).map (·.1) |>.Nodup := (hi.perm.map (·.1)).nodup_iff.2 hi.nodup
  have hlen : (fullP ps).length = m.length := hi.perm.length_eq
  have loop : ∀ (f i : Nat) (w : World) (ps2 : List (Pl Int)) (mi : List (ByteArray × Int)), i + f = ps.length → ps2.length = N → IxInv (startV seed N) ps2 mi → mi.Perm (fullP (ps.take i)) → usedP ps2 ≤ mi.length →
      Sat W w (blk b [.int .u64 seed, .slice s2.a s2.n s2.c, .int .i64 (mi.length : Int), .int .i64 (usedP ps2 : Int)] :: recs (plR (Rec.int .i64)) s2 ps2 :: recs (plR (Rec.int .i64)) s ps :: M) →
      index_Index_int_grows_l1 idJ (fun v w' => v = .tuple #[] ∧ Sat W w' (ixr (Rec.int .i64) b seed m :: M)) (f + 1) (some ⟨b, 0, none⟩) s (s.n : Int) (i : Int) w := by
    intro f
    induction f with
    | zero =>
      intro i w ps2 mi hif hpl hiv hp hu hs
      rw [index_Index_int_grows_l1_raw]
      refine ite_false (decide_eq_false (by omega)) ⟨rfl, ?_⟩
      rw [List.take_of_length_le (by omega)] at hp
      have hpm := hp.trans hi.perm
      refine ixr_shut s2 (ps := ps2) (n := (mi.length : Int)) ?_ ?_ (by rw [hpm.length_eq]) rfl (by exact Sat.fin hs)
      · rw [hpl]; exact hiv.perm' hpm
      · rw [hpl]; have := hpm.length_eq; omega
    | succ f ih =>
      intro i w ps2 mi hif hpl hiv hp hu hs
      rw [index_Index_int_grows_l1_raw]
      refine ite_true (decide_eq_true (by omega)) ?_
      repeat (first | with_reducible refine nilck_some ?_ | ((with_reducible refine atLd ?_); first | refine ld_b hs ?_ | refine ld_b (x := ⟨_, _, _⟩) hs ?_ | refine ld_r0 hs ?_ | refine ld_r1 hs ?_ | refine ld_r2 hs ?_ | refine ld_r3 hs ?_ | refine ld_r4 hs ?_ | refine ld_rd0 ha_ hs ?_ | refine ld_rd1 ha_ hs ?_ | refine ld_rd2 ha_ hs ?_ | refine ld_rd3 ha_ hs ?_ | refine ld_rd4 ha_ hs ?_ | refine ld_rd5 ha_ hs ?_ | fail) | ((with_reducible refine isSt ?_); first | refine st_b hs fun w hs => ?_ | refine st_rec5 hs fun w hs => ?_ | refine st_rec4 hs fun w hs => ?_ | refine st_rec3 hs fun w hs => ?_ | refine st_rec2 hs fun w hs => ?_ | refine st_r0 hs fun w hs => ?_ | refine st_r1 hs fun w hs => ?_ | fail) | ((with_reducible refine isIdx ?_); first | refine idx_s hs fun b_ o_ hs => ?_ | refine idx_a hs ?_ | refine idx_rd hs fun b_ o_ ha_ => ?_ | fail) | ((with_reducible refine isNew ?_); first | refine newB_at hs fun b_ w hs => ?_ | fail) | ((with_reducible refine isLdS ?_); first | refine ldS_b ?_ | refine ldS_b (x := ⟨_, _, _⟩) ?_ | refine ldS_r0 ?_ | refine ldS_r1 ?_ | refine ldS_r2 ?_ | refine ldS_r3 ?_ | refine ldS_rs0 hs ?_ | refine ldS_rs1 hs ?_ | refine ldS_rs2 hs ?_ | refine ldS_rs3 hs ?_ | refine ldS_rd0 ha_ ?_ | refine ldS_rd1 ha_ ?_ | refine ldS_rd2 ha_ ?_ | refine ldS_rd3 ha_ ?_ | refine ldS_rd4 ha_ ?_ | refine ldS_rd5 ha_ ?_ | fail) | ((with_reducible refine isKeep ?_); first | refine keep_of hs ?_ | refine keep_imp hs ?_ | fail) | ((with_reducible refine isWhen ?_); first | refine when_om ?_ | fail) | ((with_reducible refine isDraw ?_); first | refine drawW_sat hs fun w hs => ?_ | fail))
      simp only [Int.toNat_natCast] at hs ⊢
      have hil : i < ps.length := by omega
      have hft : fullP (ps.take (i + 1)) = fullP (ps.take i) ++ optP (ps.getD i default) := by
        rw [take_snoc hil, fullP_append]; simp [fullP]
      (first | with_reducible refine ite_ltI (fun h1 => ?_) (fun h1 => ?_) | with_reducible refine ite_leI (fun h1 => ?_) (fun h1 => ?_) | with_reducible refine ite_gtI (fun h1 => ?_) (fun h1 => ?_) | with_reducible refine ite_geI (fun h1 => ?_) (fun h1 => ?_) | with_reducible refine ite_eqI (fun h1 => ?_) (fun h1 => ?_) | with_reducible refine ite_neI (fun h1 => ?_) (fun h1 => ?_) | with_reducible refine ite_eqS (fun h1 => ?_) (fun h1 => ?_) | with_reducible refine ite_neS (fun h1 => ?_) (fun h1 => ?_) | with_reducible refine ite_dec (fun h1 => ?_) (fun h1 => ?_) | with_reducible refine ite_ndec (fun h1 => ?_) (fun h1 => ?_) | with_reducible refine ite_some (fun i_ h1 => ?_) (fun h1 => ?_) | with_reducible refine ite_nsome (fun h1 => ?_) (fun i_ h1 => ?_) | with_reducible refine ite_cases (fun h1 => ?_) (fun h1 => ?_))
      · have hop : optP (ps.getD i default) = [((ps.getD i default).key, (ps.getD i default).v)] := optP_pos h1
        rw [hop] at hft
        have hsub : (fullP (ps.take (i + 1))).Sublist (fullP ps) := by
          conv => rhs; rw [← List.take_append_drop (i + 1) ps, fullP_append]
          exact List.sublist_append_left _ _
        have hmem : ((ps.getD i default).key, (ps.getD i default).v) ∈ m := hi.perm.subset (hsub.subset (by rw [hft]; simp))
        have hnd := hdist.sublist (hsub.map (·.1))
        rw [hft, List.map_append] at hnd
        have hno : mGet mi (ps.getD i default).key = none := by
          rw [mGet_none]
          intro e he hk
          rw [List.nodup_append] at hnd
          exact hnd.2.2 _ (List.mem_map_of_mem (f := (·.1)) (hp.subset he)) _ (by simp) hk
        have hlt : mi.length + 1 ≤ m.length := by
          have := hsub.length_le
          rw [hft, List.length_append, ← hp.length_eq] at this
          simp only [List.length_cons, List.length_nil] at this; omega
        repeat (first | with_reducible refine nilck_some ?_ | ((with_reducible refine atLd ?_); first | refine ld_b hs ?_ | refine ld_b (x := ⟨_, _, _⟩) hs ?_ | refine ld_r0 hs ?_ | refine ld_r1 hs ?_ | refine ld_r2 hs ?_ | refine ld_r3 hs ?_ | refine ld_r4 hs ?_ | refine ld_rd0 ha_ hs ?_ | refine ld_rd1 ha_ hs ?_ | refine ld_rd2 ha_ hs ?_ | refine ld_rd3 ha_ hs ?_ | refine ld_rd4 ha_ hs ?_ | refine ld_rd5 ha_ hs ?_ | fail) | ((with_reducible refine isSt ?_); first | refine st_b hs fun w hs => ?_ | refine st_rec5 hs fun w hs => ?_ | refine st_rec4 hs fun w hs => ?_ | refine st_rec3 hs fun w hs => ?_ | refine st_rec2 hs fun w hs => ?_ | refine st_r0 hs fun w hs => ?_ | refine st_r1 hs fun w hs => ?_ | fail) | ((with_reducible refine isIdx ?_); first | refine idx_s hs fun b_ o_ hs => ?_ | refine idx_a hs ?_ | refine idx_rd hs fun b_ o_ ha_ => ?_ | fail) | ((with_reducible refine isNew ?_); first | refine newB_at hs fun b_ w hs => ?_ | fail) | ((with_reducible refine isLdS ?_); first | refine ldS_b ?_ | refine ldS_b (x := ⟨_, _, _⟩) ?_ | refine ldS_r0 ?_ | refine ldS_r1 ?_ | refine ldS_r2 ?_ | refine ldS_r3 ?_ | refine ldS_rs0 hs ?_ | refine ldS_rs1 hs ?_ | refine ldS_rs2 hs ?_ | refine ldS_rs3 hs ?_ | refine ldS_rd0 ha_ ?_ | refine ldS_rd1 ha_ ?_ | refine ldS_rd2 ha_ ?_ | refine ldS_rd3 ha_ ?_ | refine ldS_rd4 ha_ ?_ | refine ldS_rd5 ha_ ?_ | fail) | ((with_reducible refine isKeep ?_); first | refine keep_of hs ?_ | refine keep_imp hs ?_ | fail) | ((with_reducible refine isWhen ?_); first | refine when_om ?_ | fail) | ((with_reducible refine isDraw ?_); first | refine drawW_sat hs fun w hs => ?_ | fail))
        have hs : Sat W w (blk b [.int .u64 seed, .slice s2.a s2.n s2.c, .int .i64 (mi.length : Int), .int .i64 (usedP ps2 : Int)] :: recs (plR (Rec.int .i64)) s2 ps2 :: blk b_ [.int .i64 (ps.getD i default).is_, .string (ps.getD i default).key, .int .i64 (ps.getD i default).v] :: recs (plR (Rec.int .i64)) s ps :: M) := by exact Sat.fin hs
        refine call2_of (int_find_in (st := startV seed N) (by rw [hpl]) (hkz _ hmem) (by omega) (hiv.stop _) hs) fun e w ⟨he, hs⟩ => ⟨_, _, he, ?_⟩
        have hfm : (findI (startV seed N) ps2 (ps.getD i default).key).2 = false := by
          cases hb : (findI (startV seed N) ps2 (ps.getD i default).key).2 with
          | false => rfl
          | true => have := (hiv.hit hb).2.2; rw [hno] at this; cases this
        obtain ⟨hj, hj2, _, hjr⟩ := hiv.miss hfm
        repeat (first | with_reducible refine nilck_some ?_ | ((with_reducible refine atLd ?_); first | refine ld_b hs ?_ | refine ld_b (x := ⟨_, _, _⟩) hs ?_ | refine ld_r0 hs ?_ | refine ld_r1 hs ?_ | refine ld_r2 hs ?_ | refine ld_r3 hs ?_ | refine ld_r4 hs ?_ | refine ld_rd0 ha_ hs ?_ | refine ld_rd1 ha_ hs ?_ | refine ld_rd2 ha_ hs ?_ | refine ld_rd3 ha_ hs ?_ | refine ld_rd4 ha_ hs ?_ | refine ld_rd5 ha_ hs ?_ | fail) | ((with_reducible refine isSt ?_); first | refine st_b hs fun w hs => ?_ | refine st_rec5 hs fun w hs => ?_ | refine st_rec4 hs fun w hs => ?_ | refine st_rec3 hs fun w hs => ?_ | refine st_rec2 hs fun w hs => ?_ | refine st_r0 hs fun w hs => ?_ | refine st_r1 hs fun w hs => ?_ | fail) | ((with_reducible refine isIdx ?_); first | refine idx_s hs fun b_ o_ hs => ?_ | refine idx_a hs ?_ | refine idx_rd hs fun b_ o_ ha_ => ?_ | fail) | ((with_reducible refine isNew ?_); first | refine newB_at hs fun b_ w hs => ?_ | fail) | ((with_reducible refine isLdS ?_); first | refine ldS_b ?_ | refine ldS_b (x := ⟨_, _, _⟩) ?_ | refine ldS_r0 ?_ | refine ldS_r1 ?_ | refine ldS_r2 ?_ | refine ldS_r3 ?_ | refine ldS_rs0 hs ?_ | refine ldS_rs1 hs ?_ | refine ldS_rs2 hs ?_ | refine ldS_rs3 hs ?_ | refine ldS_rd0 ha_ ?_ | refine ldS_rd1 ha_ ?_ | refine ldS_rd2 ha_ ?_ | refine ldS_rd3 ha_ ?_ | refine ldS_rd4 ha_ ?_ | refine ldS_rd5 ha_ ?_ | fail) | ((with_reducible refine isKeep ?_); first | refine keep_of hs ?_ | refine keep_imp hs ?_ | fail) | ((with_reducible refine isWhen ?_); first | refine when_om ?_ | fail) | ((with_reducible refine isDraw ?_); first | refine drawW_sat hs fun w hs => ?_ | fail))
        refine call0_of (int_lays_in (v := (ps.getD i default).v) hj (by omega) rfl (by omega) hs) fun e w ⟨he, hs⟩ => ⟨he, ?_⟩
        rw [i64_in _ (by omega)]
        have hus := usedP_set hj (⟨2, (ps.getD i default).key, (ps.getD i default).v⟩ : Pl Int) (by show (2 : Int) ≠ 0; decide)
        have hus2 : usedP (ps2.set (findI (startV seed N) ps2 (ps.getD i default).key).1 ⟨2, (ps.getD i default).key, (ps.getD i default).v⟩) ≤ usedP ps2 + 1 := by rw [hus]; split <;> omega
        refine ih (i + 1) w _ (((ps.getD i default).key, (ps.getD i default).v) :: mi) (by omega) (by rw [List.length_set]; exact hpl) (hiv.add hj hj2 hno hjr (by omega)) ?_ (by simp only [List.length_cons]; omega) ?_
        · rw [hft]
          exact ((List.Perm.cons _ hp).trans (List.perm_append_comm (l₁ := [_])))
        · simp only [List.length_cons, Int.natCast_add]
          exact Sat.fin hs
      · have hop : optP (ps.getD i default) = [] := optP_neg h1
        rw [hop, List.append_nil] at hft
        rw [i64_in _ (by omega)]
        exact ih (i + 1) w ps2 mi (by omega) hpl hiv (by rw [hft]; exact hp) hu (by exact Sat.fin hs)
  refine ⟨ps.length + 1, ?_⟩
  refine loop ps.length 0 w (List.replicate N ⟨0, str_empty, 0⟩) [] (by omega) (by simp) hinv (by simp [fullP]) ?_ ?_
  · have : usedP (List.replicate N (⟨0, str_empty, 0⟩ : Pl Int)) = 0 := by
      unfold usedP; rw [List.countP_eq_zero]; intro a ha; rw [List.eq_of_mem_replicate ha]; simp
    rw [this]; exact Nat.zero_le _
  · have : usedP (List.replicate N (⟨0, str_empty, 0⟩ : Pl Int)) = 0 := by
      unfold usedP; rw [List.countP_eq_zero]; intro a ha; rw [List.eq_of_mem_replicate ha]; simp
    rw [this]
    exact Sat.fin hs
end
section
variable {W w : World} {L M : List HP} {F : HP → List HP} {b : Nat} {seed : Int} {m : List (ByteArray × Int)} {k : ByteArray}
theorem int_New (hs : Sat W w L) : Calls Try.prog id_index_New_int #[.int .u64 seed] w fun e w' => ∃ b, e = .returned (.pointer (some ⟨b, 0, none⟩)) ∧ Sat W w' (ixr (Rec.int .i64) b seed [] :: L) := by
  refine (index_New_int_calls (Q := fun v w' => ∃ b, v = .pointer (some ⟨b, 0, none⟩) ∧ Sat W w' (ixr (Rec.int .i64) b seed [] :: L)) ?_).mono fun e w' ⟨v, he, b, hv, hs⟩ => ⟨b, by rw [he, hv], hs⟩
  rw [index_New_int_def, index_New_int_raw]
  refine make_at (sz := 3) hs rfl (by omega) (by omega) (by omega) (by omega) fun s2 w hn2 _ _ hs => ?_
  have hs : Sat W w (recs (plR (Rec.int .i64)) s2 (List.replicate 8 ⟨0, str_empty, 0⟩) :: L) := hs
  repeat (first | with_reducible refine nilck_some ?_ | ((with_reducible refine atLd ?_); first | refine ld_b hs ?_ | refine ld_b (x := ⟨_, _, _⟩) hs ?_ | refine ld_r0 hs ?_ | refine ld_r1 hs ?_ | refine ld_r2 hs ?_ | refine ld_r3 hs ?_ | refine ld_r4 hs ?_ | refine ld_rd0 ha_ hs ?_ | refine ld_rd1 ha_ hs ?_ | refine ld_rd2 ha_ hs ?_ | refine ld_rd3 ha_ hs ?_ | refine ld_rd4 ha_ hs ?_ | refine ld_rd5 ha_ hs ?_ | fail) | ((with_reducible refine isSt ?_); first | refine st_b hs fun w hs => ?_ | refine st_rec5 hs fun w hs => ?_ | refine st_rec4 hs fun w hs => ?_ | refine st_rec3 hs fun w hs => ?_ | refine st_rec2 hs fun w hs => ?_ | refine st_r0 hs fun w hs => ?_ | refine st_r1 hs fun w hs => ?_ | fail) | ((with_reducible refine isIdx ?_); first | refine idx_s hs fun b_ o_ hs => ?_ | refine idx_a hs ?_ | refine idx_rd hs fun b_ o_ ha_ => ?_ | fail) | ((with_reducible refine isNew ?_); first | refine newB_at hs fun b_ w hs => ?_ | fail) | ((with_reducible refine isLdS ?_); first | refine ldS_b ?_ | refine ldS_b (x := ⟨_, _, _⟩) ?_ | refine ldS_r0 ?_ | refine ldS_r1 ?_ | refine ldS_r2 ?_ | refine ldS_r3 ?_ | refine ldS_rs0 hs ?_ | refine ldS_rs1 hs ?_ | refine ldS_rs2 hs ?_ | refine ldS_rs3 hs ?_ | refine ldS_rd0 ha_ ?_ | refine ldS_rd1 ha_ ?_ | refine ldS_rd2 ha_ ?_ | refine ldS_rd3 ha_ ?_ | refine ldS_rd4 ha_ ?_ | refine ldS_rd5 ha_ ?_ | fail) | ((with_reducible refine isKeep ?_); first | refine keep_of hs ?_ | refine keep_imp hs ?_ | fail) | ((with_reducible refine isWhen ?_); first | refine when_om ?_ | fail) | ((with_reducible refine isDraw ?_); first | refine drawW_sat hs fun w hs => ?_ | fail))
  refine ⟨_, rfl, ixr_shut s2 (ps := List.replicate 8 ⟨0, str_empty, 0⟩) (n := 0) (u := 0) (IxInv.new (n := 8) rfl (by omega) (by omega) (startV_lt (by simp))) (by decide +revert) rfl rfl (by exact Sat.fin hs)⟩
theorem int_Get (h : Sat W w L) [hA : At L b (ixr (Rec.int .i64) b seed m) F] (hz : k.size < 4611686018427387904) : Calls Try.prog id_index_Index_int_Get #[.pointer (some ⟨b, 0, none⟩), .string k] w fun e w' => e = .returned (.tuple #[.int .i64 ((mGet m k).getD 0), .bool (mGet m k).isSome]) ∧ Sat W w' (F (ixr (Rec.int .i64) b seed m)) := by
  refine At.call1 (hA := hA) h fun M hs => ?_
  clear h hA
  refine c1 (index_Index_int_Get_calls ?_)
  rw [index_Index_int_Get_def, index_Index_int_Get_raw]
  refine ite_true rfl ?_
  obtain ⟨s, ps, hi, h2, hn, hs⟩ := ixr_open hs
  have hsm := hi.small
  have hbg := hi.big
  refine call2_of (int_find_in (st := startV seed ps.length) rfl hz (by omega) (hi.stop _) hs) fun e w ⟨he, hs⟩ => ⟨_, _, he, ?_⟩
  refine ite_cases (fun hb => ?_) (fun hb => ?_)
  · obtain ⟨hj, _, hg⟩ := hi.hit hb
    rw [hg]
    repeat (first | with_reducible refine nilck_some ?_ | ((with_reducible refine atLd ?_); first | refine ld_b hs ?_ | refine ld_b (x := ⟨_, _, _⟩) hs ?_ | refine ld_r0 hs ?_ | refine ld_r1 hs ?_ | refine ld_r2 hs ?_ | refine ld_r3 hs ?_ | refine ld_r4 hs ?_ | refine ld_rd0 ha_ hs ?_ | refine ld_rd1 ha_ hs ?_ | refine ld_rd2 ha_ hs ?_ | refine ld_rd3 ha_ hs ?_ | refine ld_rd4 ha_ hs ?_ | refine ld_rd5 ha_ hs ?_ | fail) | ((with_reducible refine isSt ?_); first | refine st_b hs fun w hs => ?_ | refine st_rec5 hs fun w hs => ?_ | refine st_rec4 hs fun w hs => ?_ | refine st_rec3 hs fun w hs => ?_ | refine st_rec2 hs fun w hs => ?_ | refine st_r0 hs fun w hs => ?_ | refine st_r1 hs fun w hs => ?_ | fail) | ((with_reducible refine isIdx ?_); first | refine idx_s hs fun b_ o_ hs => ?_ | refine idx_a hs ?_ | refine idx_rd hs fun b_ o_ ha_ => ?_ | fail) | ((with_reducible refine isNew ?_); first | refine newB_at hs fun b_ w hs => ?_ | fail) | ((with_reducible refine isLdS ?_); first | refine ldS_b ?_ | refine ldS_b (x := ⟨_, _, _⟩) ?_ | refine ldS_r0 ?_ | refine ldS_r1 ?_ | refine ldS_r2 ?_ | refine ldS_r3 ?_ | refine ldS_rs0 hs ?_ | refine ldS_rs1 hs ?_ | refine ldS_rs2 hs ?_ | refine ldS_rs3 hs ?_ | refine ldS_rd0 ha_ ?_ | refine ldS_rd1 ha_ ?_ | refine ldS_rd2 ha_ ?_ | refine ldS_rd3 ha_ ?_ | refine ldS_rd4 ha_ ?_ | refine ldS_rd5 ha_ ?_ | fail) | ((with_reducible refine isKeep ?_); first | refine keep_of hs ?_ | refine keep_imp hs ?_ | fail) | ((with_reducible refine isWhen ?_); first | refine when_om ?_ | fail) | ((with_reducible refine isDraw ?_); first | refine drawW_sat hs fun w hs => ?_ | fail))
    simp only [Int.toNat_natCast]
    exact ⟨rfl, ixr_shut s hi h2 rfl rfl (by exact Sat.fin hs)⟩
  · rw [(hi.miss hb).2.2.1]
    exact ⟨rfl, ixr_shut s hi h2 rfl rfl hs⟩
theorem int_Len (h : Sat W w L) [hA : At L b (ixr (Rec.int .i64) b seed m) F] : Calls Try.prog id_index_Index_int_Len #[.pointer (some ⟨b, 0, none⟩)] w fun e w' => e = .returned (.int .i64 (m.length : Int)) ∧ Sat W w' (F (ixr (Rec.int .i64) b seed m)) := by
  refine At.call1 (hA := hA) h fun M hs => ?_
  clear h hA
  refine c1 (index_Index_int_Len_calls ?_)
  rw [index_Index_int_Len_def, index_Index_int_Len_raw]
  refine ite_false rfl ?_
  obtain ⟨s, ps, hi, h2, hn, hs⟩ := ixr_open hs
  repeat (first | with_reducible refine nilck_some ?_ | ((with_reducible refine atLd ?_); first | refine ld_b hs ?_ | refine ld_b (x := ⟨_, _, _⟩) hs ?_ | refine ld_r0 hs ?_ | refine ld_r1 hs ?_ | refine ld_r2 hs ?_ | refine ld_r3 hs ?_ | refine ld_r4 hs ?_ | refine ld_rd0 ha_ hs ?_ | refine ld_rd1 ha_ hs ?_ | refine ld_rd2 ha_ hs ?_ | refine ld_rd3 ha_ hs ?_ | refine ld_rd4 ha_ hs ?_ | refine ld_rd5 ha_ hs ?_ | fail) | ((with_reducible refine isSt ?_); first | refine st_b hs fun w hs => ?_ | refine st_rec5 hs fun w hs => ?_ | refine st_rec4 hs fun w hs => ?_ | refine st_rec3 hs fun w hs => ?_ | refine st_rec2 hs fun w hs => ?_ | refine st_r0 hs fun w hs => ?_ | refine st_r1 hs fun w hs => ?_ | fail) | ((with_reducible refine isIdx ?_); first | refine idx_s hs fun b_ o_ hs => ?_ | refine idx_a hs ?_ | refine idx_rd hs fun b_ o_ ha_ => ?_ | fail) | ((with_reducible refine isNew ?_); first | refine newB_at hs fun b_ w hs => ?_ | fail) | ((with_reducible refine isLdS ?_); first | refine ldS_b ?_ | refine ldS_b (x := ⟨_, _, _⟩) ?_ | refine ldS_r0 ?_ | refine ldS_r1 ?_ | refine ldS_r2 ?_ | refine ldS_r3 ?_ | refine ldS_rs0 hs ?_ | refine ldS_rs1 hs ?_ | refine ldS_rs2 hs ?_ | refine ldS_rs3 hs ?_ | refine ldS_rd0 ha_ ?_ | refine ldS_rd1 ha_ ?_ | refine ldS_rd2 ha_ ?_ | refine ldS_rd3 ha_ ?_ | refine ldS_rd4 ha_ ?_ | refine ldS_rd5 ha_ ?_ | fail) | ((with_reducible refine isKeep ?_); first | refine keep_of hs ?_ | refine keep_imp hs ?_ | fail) | ((with_reducible refine isWhen ?_); first | refine when_om ?_ | fail) | ((with_reducible refine isDraw ?_); first | refine drawW_sat hs fun w hs => ?_ | fail))
  exact ⟨rfl, ixr_shut s hi h2 rfl rfl hs⟩
theorem int_Put (h : Sat W w L) [hA : At L b (ixr (Rec.int .i64) b seed m) F] {v : Int} (hz : k.size < 4611686018427387904) (hkz : ∀ e ∈ m, e.1.size < 4611686018427387904) (hm : m.length < 900000000) : Calls Try.prog id_index_Index_int_Put #[.pointer (some ⟨b, 0, none⟩), .string k, .int .i64 v] w fun e w' => e = .returned (.bool (mGet m k).isNone) ∧ Sat W w' (F (ixr (Rec.int .i64) b seed (mPut m k v))) := by
  refine At.call1 (hA := hA) h fun M hs => ?_
  clear h hA
  refine c1 (index_Index_int_Put_calls ?_)
  rw [index_Index_int_Put_def, index_Index_int_Put_raw]
  refine ite_false rfl ?_
  obtain ⟨s, ps, hi, h2, hn, hs⟩ := ixr_open hs
  have hsm := hi.small
  have hbg := hi.big
  refine call2_of (int_find_in (st := startV seed ps.length) rfl hz (by omega) (hi.stop _) hs) fun e w ⟨he, hs⟩ => ⟨_, _, he, ?_⟩
  refine ite_cases (fun hb => ?_) (fun hb => ?_)
  · obtain ⟨hj, hit, hg⟩ := hi.hit hb
    have hp : mPut m k v = mSet m k v := by unfold mPut; rw [hg]
    rw [hg, hp]
    repeat (first | with_reducible refine nilck_some ?_ | ((with_reducible refine atLd ?_); first | refine ld_b hs ?_ | refine ld_b (x := ⟨_, _, _⟩) hs ?_ | refine ld_r0 hs ?_ | refine ld_r1 hs ?_ | refine ld_r2 hs ?_ | refine ld_r3 hs ?_ | refine ld_r4 hs ?_ | refine ld_rd0 ha_ hs ?_ | refine ld_rd1 ha_ hs ?_ | refine ld_rd2 ha_ hs ?_ | refine ld_rd3 ha_ hs ?_ | refine ld_rd4 ha_ hs ?_ | refine ld_rd5 ha_ hs ?_ | fail) | ((with_reducible refine isSt ?_); first | refine st_b hs fun w hs => ?_ | refine st_rec5 hs fun w hs => ?_ | refine st_rec4 hs fun w hs => ?_ | refine st_rec3 hs fun w hs => ?_ | refine st_rec2 hs fun w hs => ?_ | refine st_r0 hs fun w hs => ?_ | refine st_r1 hs fun w hs => ?_ | fail) | ((with_reducible refine isIdx ?_); first | refine idx_s hs fun b_ o_ hs => ?_ | refine idx_a hs ?_ | refine idx_rd hs fun b_ o_ ha_ => ?_ | fail) | ((with_reducible refine isNew ?_); first | refine newB_at hs fun b_ w hs => ?_ | fail) | ((with_reducible refine isLdS ?_); first | refine ldS_b ?_ | refine ldS_b (x := ⟨_, _, _⟩) ?_ | refine ldS_r0 ?_ | refine ldS_r1 ?_ | refine ldS_r2 ?_ | refine ldS_r3 ?_ | refine ldS_rs0 hs ?_ | refine ldS_rs1 hs ?_ | refine ldS_rs2 hs ?_ | refine ldS_rs3 hs ?_ | refine ldS_rd0 ha_ ?_ | refine ldS_rd1 ha_ ?_ | refine ldS_rd2 ha_ ?_ | refine ldS_rd3 ha_ ?_ | refine ldS_rd4 ha_ ?_ | refine ldS_rd5 ha_ ?_ | fail) | ((with_reducible refine isKeep ?_); first | refine keep_of hs ?_ | refine keep_imp hs ?_ | fail) | ((with_reducible refine isWhen ?_); first | refine when_om ?_ | fail) | ((with_reducible refine isDraw ?_); first | refine drawW_sat hs fun w hs => ?_ | fail))
    simp only [Int.toNat_natCast] at hs
    have hset := hi.set (v := v) hj hit
    have hus : usedP (ps.set (findI (startV seed ps.length) ps k).1 { ps.getD (findI (startV seed ps.length) ps k).1 default with v := v }) = usedP ps := by
      rw [usedP_set hj _ (by show isAt ps _ ≠ 0; rw [hit.1]; decide), if_neg (by rw [hit.1]; decide)]; rfl
    refine ⟨rfl, ixr_shut s (n := (m.length : Int)) (u := (usedP ps : Int)) (by rw [List.length_set]; exact hset) (by rw [hus, List.length_set]; exact h2) (by simp [mSet]) (by rw [hus]) (by exact Sat.fin hs)⟩
  · obtain ⟨hj, hj2, hg, hr⟩ := hi.miss hb
    have hp : mPut m k v = (k, v) :: m := by unfold mPut; rw [hg]
    rw [hg, hp]
    refine call0_of (int_lays_in (v := v) hj (by omega) rfl (by omega) hs) fun e w ⟨he, hs⟩ => ⟨he, ?_⟩
    have hus := usedP_set hj (⟨2, k, v⟩ : Pl Int) (by show (2 : Int) ≠ 0; decide)
    have hus2 : usedP (ps.set (findI (startV seed ps.length) ps k).1 ⟨2, k, v⟩) ≤ usedP ps + 1 := by rw [hus]; split <;> omega
    have hadd := hi.add (v := v) hj hj2 hg hr (by omega)
    have hsl : (ps.set (findI (startV seed ps.length) ps k).1 ⟨2, k, v⟩).length = ps.length := by simp
    generalize hps2 : ps.set (findI (startV seed ps.length) ps k).1 ⟨2, k, v⟩ = ps2 at hs hus2 hadd hsl
    repeat (first | with_reducible refine nilck_some ?_ | ((with_reducible refine atLd ?_); first | refine ld_b hs ?_ | refine ld_b (x := ⟨_, _, _⟩) hs ?_ | refine ld_r0 hs ?_ | refine ld_r1 hs ?_ | refine ld_r2 hs ?_ | refine ld_r3 hs ?_ | refine ld_r4 hs ?_ | refine ld_rd0 ha_ hs ?_ | refine ld_rd1 ha_ hs ?_ | refine ld_rd2 ha_ hs ?_ | refine ld_rd3 ha_ hs ?_ | refine ld_rd4 ha_ hs ?_ | refine ld_rd5 ha_ hs ?_ | fail) | ((with_reducible refine isSt ?_); first | refine st_b hs fun w hs => ?_ | refine st_rec5 hs fun w hs => ?_ | refine st_rec4 hs fun w hs => ?_ | refine st_rec3 hs fun w hs => ?_ | refine st_rec2 hs fun w hs => ?_ | refine st_r0 hs fun w hs => ?_ | refine st_r1 hs fun w hs => ?_ | fail) | ((with_reducible refine isIdx ?_); first | refine idx_s hs fun b_ o_ hs => ?_ | refine idx_a hs ?_ | refine idx_rd hs fun b_ o_ ha_ => ?_ | fail) | ((with_reducible refine isNew ?_); first | refine newB_at hs fun b_ w hs => ?_ | fail) | ((with_reducible refine isLdS ?_); first | refine ldS_b ?_ | refine ldS_b (x := ⟨_, _, _⟩) ?_ | refine ldS_r0 ?_ | refine ldS_r1 ?_ | refine ldS_r2 ?_ | refine ldS_r3 ?_ | refine ldS_rs0 hs ?_ | refine ldS_rs1 hs ?_ | refine ldS_rs2 hs ?_ | refine ldS_rs3 hs ?_ | refine ldS_rd0 ha_ ?_ | refine ldS_rd1 ha_ ?_ | refine ldS_rd2 ha_ ?_ | refine ldS_rd3 ha_ ?_ | refine ldS_rd4 ha_ ?_ | refine ldS_rd5 ha_ ?_ | fail) | ((with_reducible refine isKeep ?_); first | refine keep_of hs ?_ | refine keep_imp hs ?_ | fail) | ((with_reducible refine isWhen ?_); first | refine when_om ?_ | fail) | ((with_reducible refine isDraw ?_); first | refine drawW_sat hs fun w hs => ?_ | fail))
    rw [i64_in _ (by omega), hn]
    (first | with_reducible refine ite_ltI (fun h9 => ?_) (fun h9 => ?_) | with_reducible refine ite_leI (fun h9 => ?_) (fun h9 => ?_) | with_reducible refine ite_gtI (fun h9 => ?_) (fun h9 => ?_) | with_reducible refine ite_geI (fun h9 => ?_) (fun h9 => ?_) | with_reducible refine ite_eqI (fun h9 => ?_) (fun h9 => ?_) | with_reducible refine ite_neI (fun h9 => ?_) (fun h9 => ?_) | with_reducible refine ite_eqS (fun h9 => ?_) (fun h9 => ?_) | with_reducible refine ite_neS (fun h9 => ?_) (fun h9 => ?_) | with_reducible refine ite_dec (fun h9 => ?_) (fun h9 => ?_) | with_reducible refine ite_ndec (fun h9 => ?_) (fun h9 => ?_) | with_reducible refine ite_some (fun i_ h9 => ?_) (fun h9 => ?_) | with_reducible refine ite_nsome (fun h9 => ?_) (fun i_ h9 => ?_) | with_reducible refine ite_cases (fun h9 => ?_) (fun h9 => ?_))
    · have hkz2 : ∀ e ∈ (k, v) :: m, e.1.size < 4611686018427387904 := by
        intro e he
        rcases List.mem_cons.1 he with rfl | he
        · exact hz
        · exact hkz e he
      have hs2 : Sat W w (blk b [.int .u64 seed, .slice s.a s.n s.c, .int .i64 (((k, v) :: m).length : Int), .int .i64 (usedP ps2 : Int)] :: recs (plR (Rec.int .i64)) s ps2 :: M) := by
        simp only [List.length_cons, Int.natCast_add]; exact hs
      refine call0_of (int_grows_in hadd hkz2 (by simp; omega) hs2) fun e w ⟨he, hs⟩ => ⟨he, ?_⟩
      exact ⟨rfl, hs⟩
    · exact ⟨rfl, ixr_shut s (n := (m.length : Int) + 1) (by rw [hsl]; exact hadd) (by omega) (by simp) rfl (by exact Sat.fin hs)⟩
theorem int_Delete (h : Sat W w L) [hA : At L b (ixr (Rec.int .i64) b seed m) F] (hz : k.size < 4611686018427387904) (hm : m.length < 900000000) : Calls Try.prog id_index_Index_int_Delete #[.pointer (some ⟨b, 0, none⟩), .string k] w fun e w' => e = .returned (.tuple #[.int .i64 ((mGet m k).getD 0), .bool (mGet m k).isSome]) ∧ Sat W w' (F (ixr (Rec.int .i64) b seed (mDel m k))) := by
  refine At.call1 (hA := hA) h fun M hs => ?_
  clear h hA
  refine c1 (index_Index_int_Delete_calls ?_)
  rw [index_Index_int_Delete_def, index_Index_int_Delete_raw]
  refine call2_of (int_Get hs hz) fun e w ⟨he, hs⟩ => ⟨_, _, he, ?_⟩
  refine ite_some (fun v hg => ?_) (fun hg => ?_)
  · obtain ⟨s, ps, hi, h2, hn, hs⟩ := ixr_open hs
    have hsm := hi.small
    have hbg := hi.big
    refine call2_of (int_find_in (st := startV seed ps.length) rfl hz (by omega) (hi.stop _) hs) fun e w ⟨he, hs⟩ => ⟨_, _, he, ?_⟩
    have hb : (findI (startV seed ps.length) ps k).2 = true := by
      cases hb : (findI (startV seed ps.length) ps k).2 with
      | true => rfl
      | false => have := (hi.miss hb).2.2.1; rw [hg] at this; cases this
    obtain ⟨hj, hit, _⟩ := hi.hit hb
    repeat (first | with_reducible refine nilck_some ?_ | ((with_reducible refine atLd ?_); first | refine ld_b hs ?_ | refine ld_b (x := ⟨_, _, _⟩) hs ?_ | refine ld_r0 hs ?_ | refine ld_r1 hs ?_ | refine ld_r2 hs ?_ | refine ld_r3 hs ?_ | refine ld_r4 hs ?_ | refine ld_rd0 ha_ hs ?_ | refine ld_rd1 ha_ hs ?_ | refine ld_rd2 ha_ hs ?_ | refine ld_rd3 ha_ hs ?_ | refine ld_rd4 ha_ hs ?_ | refine ld_rd5 ha_ hs ?_ | fail) | ((with_reducible refine isSt ?_); first | refine st_b hs fun w hs => ?_ | refine st_rec5 hs fun w hs => ?_ | refine st_rec4 hs fun w hs => ?_ | refine st_rec3 hs fun w hs => ?_ | refine st_rec2 hs fun w hs => ?_ | refine st_r0 hs fun w hs => ?_ | refine st_r1 hs fun w hs => ?_ | fail) | ((with_reducible refine isIdx ?_); first | refine idx_s hs fun b_ o_ hs => ?_ | refine idx_a hs ?_ | refine idx_rd hs fun b_ o_ ha_ => ?_ | fail) | ((with_reducible refine isNew ?_); first | refine newB_at hs fun b_ w hs => ?_ | fail) | ((with_reducible refine isLdS ?_); first | refine ldS_b ?_ | refine ldS_b (x := ⟨_, _, _⟩) ?_ | refine ldS_r0 ?_ | refine ldS_r1 ?_ | refine ldS_r2 ?_ | refine ldS_r3 ?_ | refine ldS_rs0 hs ?_ | refine ldS_rs1 hs ?_ | refine ldS_rs2 hs ?_ | refine ldS_rs3 hs ?_ | refine ldS_rd0 ha_ ?_ | refine ldS_rd1 ha_ ?_ | refine ldS_rd2 ha_ ?_ | refine ldS_rd3 ha_ ?_ | refine ldS_rd4 ha_ ?_ | refine ldS_rd5 ha_ ?_ | fail) | ((with_reducible refine isKeep ?_); first | refine keep_of hs ?_ | refine keep_imp hs ?_ | fail) | ((with_reducible refine isWhen ?_); first | refine when_om ?_ | fail) | ((with_reducible refine isDraw ?_); first | refine drawW_sat hs fun w hs => ?_ | fail))
    rw [i64_in _ (by omega)] at hs
    simp only [Int.toNat_natCast] at hs
    have hdel := hi.del (z := (⟨1, str_empty, 0⟩ : Pl Int)) hj hit rfl
    have hus : usedP (ps.set (findI (startV seed ps.length) ps k).1 (⟨1, str_empty, 0⟩ : Pl Int)) = usedP ps := by
      rw [usedP_set hj _ (by show (1 : Int) ≠ 0; decide), if_neg (by rw [hit.1]; decide)]; rfl
    have hl := mDel_len hi.nodup hg
    refine ⟨by trivial, ixr_shut s (n := (m.length : Int) - 1) (u := (usedP ps : Int)) (by rw [List.length_set]; exact hdel) (by rw [hus, List.length_set]; exact h2) (by omega) (by rw [hus]) (by exact Sat.fin hs)⟩
  · have : mDel m k = m := by
      unfold mDel
      rw [List.filter_eq_self]
      intro e he
      simpa using mGet_none.1 hg e he
    rw [this]
    exact ⟨by trivial, by exact Sat.fin hs⟩
theorem int_Keys (h : Sat W w L) [hA : At L b (ixr (Rec.int .i64) b seed m) F] (hm : m.length < 900000000) : Calls Try.prog id_index_Index_int_Keys #[.pointer (some ⟨b, 0, none⟩)] w fun e w' => ∃ l : Sl, e = .returned (.slice l.a l.n l.c) ∧ Sat W w' (recs Rec.str l (sortK (m.map (·.1))) :: F (ixr (Rec.int .i64) b seed m)) := by
  refine At.oneX (hA := hA) h fun M hs hb => ?_
  refine (index_Index_int_Keys_calls (Q := fun v w' => ∃ l : Sl, v = .slice l.a l.n l.c ∧ Sat W w' (ixr (Rec.int .i64) b seed m :: recs Rec.str l (sortK (m.map (·.1))) :: M)) ?_).mono fun e w' ⟨v, he, l, hv, hs⟩ => ⟨l, by rw [he, hv], ?_⟩
  · rw [index_Index_int_Keys_def, index_Index_int_Keys_raw]
    refine ite_false rfl ?_
    obtain ⟨s, ps, hi, h2, hn, hs⟩ := ixr_open hs
    have hsm := hi.small
    have hfl : (fullP ps).length = m.length := hi.perm.length_eq
    repeat (first | with_reducible refine nilck_some ?_ | ((with_reducible refine atLd ?_); first | refine ld_b hs ?_ | refine ld_b (x := ⟨_, _, _⟩) hs ?_ | refine ld_r0 hs ?_ | refine ld_r1 hs ?_ | refine ld_r2 hs ?_ | refine ld_r3 hs ?_ | refine ld_r4 hs ?_ | refine ld_rd0 ha_ hs ?_ | refine ld_rd1 ha_ hs ?_ | refine ld_rd2 ha_ hs ?_ | refine ld_rd3 ha_ hs ?_ | refine ld_rd4 ha_ hs ?_ | refine ld_rd5 ha_ hs ?_ | fail) | ((with_reducible refine isSt ?_); first | refine st_b hs fun w hs => ?_ | refine st_rec5 hs fun w hs => ?_ | refine st_rec4 hs fun w hs => ?_ | refine st_rec3 hs fun w hs => ?_ | refine st_rec2 hs fun w hs => ?_ | refine st_r0 hs fun w hs => ?_ | refine st_r1 hs fun w hs => ?_ | fail) | ((with_reducible refine isIdx ?_); first | refine idx_s hs fun b_ o_ hs => ?_ | refine idx_a hs ?_ | refine idx_rd hs fun b_ o_ ha_ => ?_ | fail) | ((with_reducible refine isNew ?_); first | refine newB_at hs fun b_ w hs => ?_ | fail) | ((with_reducible refine isLdS ?_); first | refine ldS_b ?_ | refine ldS_b (x := ⟨_, _, _⟩) ?_ | refine ldS_r0 ?_ | refine ldS_r1 ?_ | refine ldS_r2 ?_ | refine ldS_r3 ?_ | refine ldS_rs0 hs ?_ | refine ldS_rs1 hs ?_ | refine ldS_rs2 hs ?_ | refine ldS_rs3 hs ?_ | refine ldS_rd0 ha_ ?_ | refine ldS_rd1 ha_ ?_ | refine ldS_rd2 ha_ ?_ | refine ldS_rd3 ha_ ?_ | refine ldS_rd4 ha_ ?_ | refine ldS_rd5 ha_ ?_ | fail) | ((with_reducible refine isKeep ?_); first | refine keep_of hs ?_ | refine keep_imp hs ?_ | fail) | ((with_reducible refine isWhen ?_); first | refine when_om ?_ | fail) | ((with_reducible refine isDraw ?_); first | refine drawW_sat hs fun w hs => ?_ | fail))
    have hs := Sat.nilR Rec.str hs
    have loop : ∀ (f i : Nat) (w : World) (acc : Sl), i + f = ps.length → Sat W w (recs Rec.str acc ((fullP (ps.take i)).map (·.1)) :: blk b [.int .u64 seed, .slice s.a s.n s.c, .int .i64 (m.length : Int), .int .i64 (usedP ps : Int)] :: recs (plR (Rec.int .i64)) s ps :: M) →
        index_Index_int_Keys_l1 idJ (fun v w' => ∃ l : Sl, v = .slice l.a l.n l.c ∧ Sat W w' (ixr (Rec.int .i64) b seed m :: recs Rec.str l (sortK (m.map (·.1))) :: M)) (f + 1) acc s (s.n : Int) (i : Int) w := by
      intro f
      induction f with
      | zero =>
        intro i w acc hif hs
        rw [index_Index_int_Keys_l1_raw]
        refine ite_false (decide_eq_false (by omega)) ?_
        rw [index_Index_int_Keys_j2_def, index_Index_int_Keys_j2_raw]
        rw [List.take_of_length_le (by omega)] at hs
        refine call0_of (sort_at (s := acc) hs (by simp; omega)) fun e w ⟨he, hs⟩ => ⟨he, acc, rfl, ?_⟩
        have e1 : sortK ((fullP ps).map (·.1)) = sortK (m.map (·.1)) :=
          perm_rising_eq (sortK_sorted _) (sortK_sorted _) ((sortK_perm _).trans ((hi.perm.map _).trans (sortK_perm _).symm))
        rw [e1] at hs
        exact ixr_shut s hi h2 rfl rfl (by exact Sat.fin hs)
      | succ f ih =>
        intro i w acc hif hs
        have hil : i < ps.length := by omega
        have hft : fullP (ps.take (i + 1)) = fullP (ps.take i) ++ optP (ps.getD i default) := by
          rw [take_snoc hil, fullP_append]; simp [fullP]
        have hle : (fullP (ps.take i)).length ≤ m.length := by
          rw [← hfl]
          conv => rhs; rw [← List.take_append_drop i ps, fullP_append]
          simp
        rw [index_Index_int_Keys_l1_raw]
        refine ite_true (decide_eq_true (by omega)) ?_
        repeat (first | with_reducible refine nilck_some ?_ | ((with_reducible refine atLd ?_); first | refine ld_b hs ?_ | refine ld_b (x := ⟨_, _, _⟩) hs ?_ | refine ld_r0 hs ?_ | refine ld_r1 hs ?_ | refine ld_r2 hs ?_ | refine ld_r3 hs ?_ | refine ld_r4 hs ?_ | refine ld_rd0 ha_ hs ?_ | refine ld_rd1 ha_ hs ?_ | refine ld_rd2 ha_ hs ?_ | refine ld_rd3 ha_ hs ?_ | refine ld_rd4 ha_ hs ?_ | refine ld_rd5 ha_ hs ?_ | fail) | ((with_reducible refine isSt ?_); first | refine st_b hs fun w hs => ?_ | refine st_rec5 hs fun w hs => ?_ | refine st_rec4 hs fun w hs => ?_ | refine st_rec3 hs fun w hs => ?_ | refine st_rec2 hs fun w hs => ?_ | refine st_r0 hs fun w hs => ?_ | refine st_r1 hs fun w hs => ?_ | fail) | ((with_reducible refine isIdx ?_); first | refine idx_s hs fun b_ o_ hs => ?_ | refine idx_a hs ?_ | refine idx_rd hs fun b_ o_ ha_ => ?_ | fail) | ((with_reducible refine isNew ?_); first | refine newB_at hs fun b_ w hs => ?_ | fail) | ((with_reducible refine isLdS ?_); first | refine ldS_b ?_ | refine ldS_b (x := ⟨_, _, _⟩) ?_ | refine ldS_r0 ?_ | refine ldS_r1 ?_ | refine ldS_r2 ?_ | refine ldS_r3 ?_ | refine ldS_rs0 hs ?_ | refine ldS_rs1 hs ?_ | refine ldS_rs2 hs ?_ | refine ldS_rs3 hs ?_ | refine ldS_rd0 ha_ ?_ | refine ldS_rd1 ha_ ?_ | refine ldS_rd2 ha_ ?_ | refine ldS_rd3 ha_ ?_ | refine ldS_rd4 ha_ ?_ | refine ldS_rd5 ha_ ?_ | fail) | ((with_reducible refine isKeep ?_); first | refine keep_of hs ?_ | refine keep_imp hs ?_ | fail) | ((with_reducible refine isWhen ?_); first | refine when_om ?_ | fail) | ((with_reducible refine isDraw ?_); first | refine drawW_sat hs fun w hs => ?_ | fail))
        simp only [Int.toNat_natCast] at hs ⊢
        (first | with_reducible refine ite_ltI (fun h1 => ?_) (fun h1 => ?_) | with_reducible refine ite_leI (fun h1 => ?_) (fun h1 => ?_) | with_reducible refine ite_gtI (fun h1 => ?_) (fun h1 => ?_) | with_reducible refine ite_geI (fun h1 => ?_) (fun h1 => ?_) | with_reducible refine ite_eqI (fun h1 => ?_) (fun h1 => ?_) | with_reducible refine ite_neI (fun h1 => ?_) (fun h1 => ?_) | with_reducible refine ite_eqS (fun h1 => ?_) (fun h1 => ?_) | with_reducible refine ite_neS (fun h1 => ?_) (fun h1 => ?_) | with_reducible refine ite_dec (fun h1 => ?_) (fun h1 => ?_) | with_reducible refine ite_ndec (fun h1 => ?_) (fun h1 => ?_) | with_reducible refine ite_some (fun i_ h1 => ?_) (fun h1 => ?_) | with_reducible refine ite_nsome (fun h1 => ?_) (fun i_ h1 => ?_) | with_reducible refine ite_cases (fun h1 => ?_) (fun h1 => ?_))
        · have hop : optP (ps.getD i default) = [((ps.getD i default).key, (ps.getD i default).v)] := optP_pos h1
          rw [hop] at hft
          repeat (first | with_reducible refine nilck_some ?_ | ((with_reducible refine atLd ?_); first | refine ld_b hs ?_ | refine ld_b (x := ⟨_, _, _⟩) hs ?_ | refine ld_r0 hs ?_ | refine ld_r1 hs ?_ | refine ld_r2 hs ?_ | refine ld_r3 hs ?_ | refine ld_r4 hs ?_ | refine ld_rd0 ha_ hs ?_ | refine ld_rd1 ha_ hs ?_ | refine ld_rd2 ha_ hs ?_ | refine ld_rd3 ha_ hs ?_ | refine ld_rd4 ha_ hs ?_ | refine ld_rd5 ha_ hs ?_ | fail) | ((with_reducible refine isSt ?_); first | refine st_b hs fun w hs => ?_ | refine st_rec5 hs fun w hs => ?_ | refine st_rec4 hs fun w hs => ?_ | refine st_rec3 hs fun w hs => ?_ | refine st_rec2 hs fun w hs => ?_ | refine st_r0 hs fun w hs => ?_ | refine st_r1 hs fun w hs => ?_ | fail) | ((with_reducible refine isIdx ?_); first | refine idx_s hs fun b_ o_ hs => ?_ | refine idx_a hs ?_ | refine idx_rd hs fun b_ o_ ha_ => ?_ | fail) | ((with_reducible refine isNew ?_); first | refine newB_at hs fun b_ w hs => ?_ | fail) | ((with_reducible refine isLdS ?_); first | refine ldS_b ?_ | refine ldS_b (x := ⟨_, _, _⟩) ?_ | refine ldS_r0 ?_ | refine ldS_r1 ?_ | refine ldS_r2 ?_ | refine ldS_r3 ?_ | refine ldS_rs0 hs ?_ | refine ldS_rs1 hs ?_ | refine ldS_rs2 hs ?_ | refine ldS_rs3 hs ?_ | refine ldS_rd0 ha_ ?_ | refine ldS_rd1 ha_ ?_ | refine ldS_rd2 ha_ ?_ | refine ldS_rd3 ha_ ?_ | refine ldS_rd4 ha_ ?_ | refine ldS_rd5 ha_ ?_ | fail) | ((with_reducible refine isKeep ?_); first | refine keep_of hs ?_ | refine keep_imp hs ?_ | fail) | ((with_reducible refine isWhen ?_); first | refine when_om ?_ | fail) | ((with_reducible refine isDraw ?_); first | refine drawW_sat hs fun w hs => ?_ | fail))
          refine app_one (s := acc) (a := (ps.getD i default).key) hs rfl rfl rfl rfl (by decide) (by simp; omega) fun s4 w hs4 hs => ?_
          rw [i64_in _ (by omega)]
          refine ih (i + 1) w s4 (by omega) ?_
          rw [hft, List.map_append]
          exact Sat.fin hs
        · have hop : optP (ps.getD i default) = [] := optP_neg h1
          rw [hop, List.append_nil] at hft
          rw [i64_in _ (by omega)]
          refine ih (i + 1) w acc (by omega) ?_
          rw [hft]
          exact Sat.fin hs
    refine ⟨ps.length + 1, ?_⟩
    exact loop ps.length 0 w ⟨none, 0, 0⟩ (by omega) hs
  · exact hb _ _ [recs Rec.str l (sortK (m.map (·.1)))] hs
end
end Go.Proofs.Ytcpmmojpgngaaaa
