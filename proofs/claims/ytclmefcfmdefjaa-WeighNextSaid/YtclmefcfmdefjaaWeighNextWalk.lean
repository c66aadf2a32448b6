/- WeighNext, walked. -/
import Derived.Test.YtclmefcfmdefjaaWeigh4
import Derived.Test.YtclmefcfmdefjaaWeighIs
set_option linter.unusedVariables false
namespace Go.Proofs.Ytclmefcfmdefjaa
open Go.Hb Go.IntWalk
section
variable {W : World}
theorem weighNext_walk {a b c d e : Nat} (ua : a < 18446744073709551616) (ub : b < 18446744073709551616) (uc : c < 18446744073709551616) (ud : d < 18446744073709551616) (ue : e < 18446744073709551616) (g0 g1 g2 g3 g4 all : Int) : Calls Try.prog id_hoardlaw19_WeighNext #[.agg #[.int .u64 (a : Int), .int .u64 (b : Int), .int .u64 (c : Int), .int .u64 (d : Int), .int .u64 (e : Int)], .agg #[.int .i64 g0, .int .i64 g1, .int .i64 g2, .int .i64 g3, .int .i64 g4], .int .i64 all] W fun e w' => e = .returned (.bool true) ∧ KeptH W w' := by
  have h := Sat.begin W
  refine (c1 (S := fun w' => Sat W w' [old W]) (hoardlaw19_WeighNext_calls ?_)).mono fun e w' ⟨he, hs⟩ => ⟨he, hs.kept (q := 0) rfl⟩
  rw [hoardlaw19_WeighNext_def, hoardlaw19_WeighNext_raw]
  refine newB_at h fun b1 w h => newB_at h fun b2 w h => ?_
  refine ld_at 1 (x := (a : Int)) h rfl rfl (ld_at 1 (x := (b : Int)) h rfl rfl (ld_at 1 (x := (c : Int)) h rfl rfl (ld_at 1 (x := (d : Int)) h rfl rfl (ld_at 1 (x := (e : Int)) h rfl rfl ?_))))
  refine ld_at 0 (x := g0) h rfl rfl (ld_at 0 (x := g1) h rfl rfl (ld_at 0 (x := g2) h rfl rfl (ld_at 0 (x := g3) h rfl rfl (ld_at 0 (x := g4) h rfl rfl ?_))))
  have hn := next_at h ua ub uc ud ue g0 g1 g2 g3 g4 all
  have hr : ∀ (w : World) (M : List HP), Sat W w M → Calls Try.prog id_hoardref19_Next #[.agg #[.int .u64 (a : Int), .int .u64 (b : Int), .int .u64 (c : Int), .int .u64 (d : Int), .int .u64 (e : Int)], .agg #[.int .i64 g0, .int .i64 g1, .int .i64 g2, .int .i64 g3, .int .i64 g4], .int .i64 all] w fun e' w' => e' = .returned (agg5 (nextL a b c d e g0 g1 g2 g3 g4 all)) ∧ Sat W w' M := fun w M h => rnext_at h ua ub uc ud ue g0 g1 g2 g3 g4 all
  have his := nextL_is a b c d e g0 g1 g2 g3 g4 all
  generalize nextL a b c d e g0 g1 g2 g3 g4 all = ws at *
  refine hn.mono fun e' w ⟨he, h⟩ => ⟨_, _, _, _, _, he, ?_⟩
  refine newB_at h fun b3 w h => ?_
  refine st_at 0 h rfl (by simp) fun w h => st_at 0 h rfl (by simp) fun w h => st_at 0 h rfl (by simp) fun w h => st_at 0 h rfl (by simp) fun w h => st_at 0 h rfl (by simp) fun w h => ?_
  have h : Sat W w [blk b3 [.int .u64 (ws.getD 0 0), .int .u64 (ws.getD 1 0), .int .u64 (ws.getD 2 0), .int .u64 (ws.getD 3 0), .int .u64 (ws.getD 4 0)], blk b2 [.int .i64 g0, .int .i64 g1, .int .i64 g2, .int .i64 g3, .int .i64 g4], blk b1 [.int .u64 (a : Int), .int .u64 (b : Int), .int .u64 (c : Int), .int .u64 (d : Int), .int .u64 (e : Int)], old W] := h
  refine drawW_by (fun w' => Sat W w' [blk b3 [.int .u64 (ws.getD 0 0), .int .u64 (ws.getD 1 0), .int .u64 (ws.getD 2 0), .int .u64 (ws.getD 3 0), .int .u64 (ws.getD 4 0)], blk b2 [.int .i64 g0, .int .i64 g1, .int .i64 g2, .int .i64 g3, .int .i64 g4], blk b1 [.int .u64 (a : Int), .int .u64 (b : Int), .int .u64 (c : Int), .int .u64 (d : Int), .int .u64 (e : Int)], old W]) h.drew ?_
  have h := h.drew
  refine ldS_by (ws.getD 0 0) (fun w' h' => h'.cell (q := 0) rfl) ?_
  refine ldS_by (ws.getD 1 0) (fun w' h' => h'.cell (q := 0) rfl) ?_
  refine ldS_by (ws.getD 2 0) (fun w' h' => h'.cell (q := 0) rfl) ?_
  refine ldS_by (ws.getD 3 0) (fun w' h' => h'.cell (q := 0) rfl) ?_
  refine ldS_by (ws.getD 4 0) (fun w' h' => h'.cell (q := 0) rfl) ?_
  refine ldS_by ((a : Int)) (fun w' h' => h'.cell (q := 2) rfl) ?_
  refine ldS_by ((b : Int)) (fun w' h' => h'.cell (q := 2) rfl) ?_
  refine ldS_by ((c : Int)) (fun w' h' => h'.cell (q := 2) rfl) ?_
  refine ldS_by ((d : Int)) (fun w' h' => h'.cell (q := 2) rfl) ?_
  refine ldS_by ((e : Int)) (fun w' h' => h'.cell (q := 2) rfl) ?_
  refine ld_at 1 (x := g0) h rfl rfl (ld_at 1 (x := g1) h rfl rfl (ld_at 1 (x := g2) h rfl rfl (ld_at 1 (x := g3) h rfl rfl (ld_at 1 (x := g4) h rfl rfl ?_))))
  refine keep_of h ?_
  refine (hr _ _ h).mono fun e' w ⟨he, h⟩ => ⟨_, _, _, _, _, he, keep_of h ?_⟩
  refine ite_true (by simp) ?_
  refine ld_at 0 (x := ws.getD 0 0) h rfl rfl (ld_at 0 (x := ws.getD 1 0) h rfl rfl (ld_at 0 (x := ws.getD 2 0) h rfl rfl (ld_at 0 (x := ws.getD 3 0) h rfl rfl (ld_at 0 (x := ws.getD 4 0) h rfl rfl ?_))))
  refine call1_of (is_at h _ _ _ _ _) fun e' w ⟨he, h⟩ => ⟨_, he, ?_⟩
  refine ite_true his ?_
  exact call1_of (wknown_at h) fun e' w ⟨he, h⟩ => ⟨_, he, rfl, h.drop.drop.drop⟩
theorem weighNext_all {a b c d e : Int} (hw : ∀ n ∈ [a, b, c, d, e], (Lit.int .u64 n).wf = true) (g0 g1 g2 g3 g4 all : Int) :
    Calls Try.prog id_hoardlaw19_WeighNext #[.agg #[.int .u64 a, .int .u64 b, .int .u64 c, .int .u64 d, .int .u64 e], .agg #[.int .i64 g0, .int .i64 g1, .int .i64 g2, .int .i64 g3, .int .i64 g4], .int .i64 all] W fun e w' => e = .returned (.bool true) ∧ KeptH W w' := by
  obtain ⟨a, rfl, ua⟩ := wf_u64 (hw a (by simp))
  obtain ⟨b, rfl, ub⟩ := wf_u64 (hw b (by simp))
  obtain ⟨c, rfl, uc⟩ := wf_u64 (hw c (by simp))
  obtain ⟨d, rfl, ud⟩ := wf_u64 (hw d (by simp))
  obtain ⟨e, rfl, ue⟩ := wf_u64 (hw e (by simp))
  exact weighNext_walk ua ub uc ud ue g0 g1 g2 g3 g4 all
end
end Go.Proofs.Ytclmefcfmdefjaa
