/- ArcOfNothing: the walk. -/
import Derived.Test.YtchlicgjdlkidaaDoorArc10
import Derived.Test.YtchlicgjdlkidaaDoorShalArcOfNothing
set_option linter.unusedVariables false
set_option linter.unusedSimpArgs false
set_option linter.unnecessarySimpa false
set_option linter.unusedSectionVars false
namespace Go.Proofs.YtchlicgjdlkidaaDoor
open Go.Hb Go.IntWalk
section
variable {W w : World} {L M : List HP} {F : HP → List HP}
/-! a nil engine -/
theorem anil_Access (hs : Sat W w L) {k : ByteArray} : Calls Tryd.prog id_arc_Engine_Access #[.pointer none, .string k] w fun e w' => e = .returned (.tuple #[.bool false, .slice none 0 0]) ∧ Sat W w' L := by
  refine c1 (arc_Engine_Access_calls ?_)
  rw [arc_Engine_Access_def, arc_Engine_Access_raw]
  exact ite_true rfl ⟨rfl, hs⟩
theorem anil_Len (hs : Sat W w L) : Calls Tryd.prog id_arc_Engine_Len #[.pointer none] w fun e w' => e = .returned (.int .i64 0) ∧ Sat W w' L := by
  refine c1 (arc_Engine_Len_calls ?_)
  rw [arc_Engine_Len_def, arc_Engine_Len_raw]
  exact ite_true rfl ⟨rfl, hs⟩
theorem anil_Has (hs : Sat W w L) {k : ByteArray} : Calls Tryd.prog id_arc_Engine_Has #[.pointer none, .string k] w fun e w' => e = .returned (.bool false) ∧ Sat W w' L := by
  refine c1 (arc_Engine_Has_calls ?_)
  rw [arc_Engine_Has_def, arc_Engine_Has_raw]
  exact ite_true rfl ⟨rfl, hs⟩
theorem anil_Evict (hs : Sat W w L) : Calls Tryd.prog id_arc_Engine_Evict #[.pointer none] w fun e w' => e = .returned (.tuple #[.string str_empty, .bool false]) ∧ Sat W w' L := by
  refine c1 (arc_Engine_Evict_calls ?_)
  rw [arc_Engine_Evict_def, arc_Engine_Evict_raw]
  exact call1_of (anil_Len hs) fun e w ⟨he, hs⟩ => ⟨_, he, ite_true rfl ⟨rfl, hs⟩⟩
theorem anil_Remove (hs : Sat W w L) {k : ByteArray} : Calls Tryd.prog id_arc_Engine_Remove #[.pointer none, .string k] w fun e w' => e = .returned (.bool false) ∧ Sat W w' L := by
  refine c1 (arc_Engine_Remove_calls ?_)
  rw [arc_Engine_Remove_def, arc_Engine_Remove_raw]
  exact call1_of (anil_Has hs) fun e w ⟨he, hs⟩ => ⟨_, he, ite_true rfl ⟨rfl, hs⟩⟩
theorem anil_Load (hs : Sat W w L) {k : ByteArray} : Calls Tryd.prog id_arc_Engine_Load #[.pointer none, .string k] w fun e w' => e = .returned (.bool false) ∧ Sat W w' L := by
  refine c1 (arc_Engine_Load_calls ?_)
  rw [arc_Engine_Load_def, arc_Engine_Load_raw]
  refine drawW_only L hs fun w hs => ?_
  refine ite_true rfl (keep_imp hs (keep_imp hs ⟨rfl, hs⟩))
theorem anil_Keys (hs : Sat W w L) : Calls Tryd.prog id_arc_Engine_Keys #[.pointer none] w fun e w' => e = .returned (.slice none 0 0) ∧ Sat W w' L := by
  refine c1 (arc_Engine_Keys_calls ?_)
  rw [arc_Engine_Keys_def, arc_Engine_Keys_raw]
  exact ite_true rfl ⟨rfl, hs⟩
theorem anil_Ghosts (hs : Sat W w L) : Calls Tryd.prog id_arc_Engine_Ghosts #[.pointer none] w fun e w' => e = .returned (.slice none 0 0) ∧ Sat W w' L := by
  refine c1 (arc_Engine_Ghosts_calls ?_)
  rw [arc_Engine_Ghosts_def, arc_Engine_Ghosts_raw]
  exact ite_true rfl ⟨rfl, hs⟩
theorem anil_State (hs : Sat W w L) : Calls Tryd.prog id_arc_Engine_State #[.pointer none] w fun e w' => e = .returned (.string str_empty) ∧ Sat W w' L := by
  refine c1 (arc_Engine_State_calls ?_)
  rw [arc_Engine_State_def, arc_Engine_State_raw]
  exact ite_true rfl ⟨rfl, hs⟩
theorem anil_Room (hs : Sat W w L) : Calls Tryd.prog id_arc_Engine_Room #[.pointer none] w fun e w' => e = .returned (.int .i64 0) ∧ Sat W w' L := by
  refine c1 (arc_Engine_Room_calls ?_)
  rw [arc_Engine_Room_def, arc_Engine_Room_raw]
  exact ite_true rfl ⟨rfl, hs⟩

theorem anothing_walk {s : ByteArray} (hT : TabW W) : Calls Tryd.prog id_hoardlaw10_ArcOfNothing #[.string s] W fun e w' => e = .returned (.bool true) ∧ KeptH W w' := by
  have hs := Sat.begin W
  refine law_of (hoardlaw10_ArcOfNothing_calls ?_)
  rw [hoardlaw10_ArcOfNothing_def, hoardlaw10_ArcOfNothing_raw]
  with_reducible refine ite_by (fun h1 => ?_) (fun h1 => ?_)
  · exact ⟨rfl, hs⟩
  refine call2_of (anil_Access hs) fun e w ⟨he, hs⟩ => ⟨_, ⟨none, 0, 0⟩, he, ?_⟩
  refine call2_of (anil_Evict hs) fun e w ⟨he, hs⟩ => ⟨_, _, he, ite_true rfl (ite_true rfl ?_)⟩
  refine call1_of (anil_Load hs) fun e w ⟨he, hs⟩ => ⟨_, he, ite_true rfl ?_⟩
  refine call1_of (anil_Remove hs) fun e w ⟨he, hs⟩ => ⟨_, he, ite_true rfl (ite_true (by rw [sEq_eq]; simp) (ite_true rfl ?_))⟩
  refine call1_of (anil_Has hs) fun e w ⟨he, hs⟩ => ⟨_, he, ite_true rfl ?_⟩
  refine (anil_Keys hs).mono fun e w ⟨he, hs⟩ => ⟨⟨none, 0, 0⟩, he, ite_true rfl ?_⟩
  refine (anil_Ghosts hs).mono fun e w ⟨he, hs⟩ => ⟨⟨none, 0, 0⟩, he, ite_true rfl ?_⟩
  refine call1_of (anil_State hs) fun e w ⟨he, hs⟩ => ⟨_, he, ite_true (by rw [sEq_eq]; simp) ?_⟩
  refine call1_of (anil_Len hs) fun e w ⟨he, hs⟩ => ⟨_, he, ite_true rfl ?_⟩
  refine call1_of (anil_Room hs) fun e w ⟨he, hs⟩ => ⟨_, he, ite_true rfl ?_⟩
  exact call1_of (known10 hs hT) fun e w ⟨he, hs⟩ => ⟨_, he, rfl, hs⟩

end
end Go.Proofs.YtchlicgjdlkidaaDoor
