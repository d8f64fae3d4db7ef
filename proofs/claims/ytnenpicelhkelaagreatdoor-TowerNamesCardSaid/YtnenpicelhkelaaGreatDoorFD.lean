/-
  The row holds: for every start, the law returns true.
-/
import Derived.Test.YtnenpicelhkelaaGreatDoorFC
import Derived.Test.YtnenpicelhkelaaGreatDoorR
namespace Go.Proofs.YtnenpicelhkelaaGreatDoor
open Go
set_option maxRecDepth 100000
theorem h_named : Tryz.pinned.checked.prog.funcNamed Rows.towerNamesRow.func = some 3 := by kernel_rfl
theorem h_inst : Tryz.f3.isInstance Tryz.pinned.checked.prog Rows.towerNamesRow.origin Rows.towerNamesRow.targs := of_decide_eq_true (by kernel_rfl)
theorem h_wrap : Tryz.f3.isWrapper Tryz.pinned.checked.prog Rows.towerNamesRow.wrapper Rows.towerNamesRow.mainSum := by unfold Func.isWrapper; first | (rw [if_pos (by decide +kernel)]; kernel_rfl) | (rw [if_neg (by decide +kernel)]; exact ⟨rfl, rfl⟩)
theorem holds : Rows.TowerNamesSaid :=
  OpenClaim.holds_of_wide 3 Tryz.f3 rfl rfl rfl rfl rfl rfl rfl ⟨rfl, rfl, rfl, rfl, rfl⟩ rfl rfl rfl rfl rfl h_named Tryz.func3 joined h_inst h_wrap
    (fun os started H enc _ => lifted os started H enc)
end Go.Proofs.YtnenpicelhkelaaGreatDoor
