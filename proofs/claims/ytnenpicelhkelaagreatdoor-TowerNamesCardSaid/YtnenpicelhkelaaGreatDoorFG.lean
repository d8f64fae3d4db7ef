/-
  The closed facts of the card.
-/
import Derived.Test.YtnenpicelhkelaaGreatDoorFE
import Derived.Test.YtnenpicelhkelaaGreatDoorFD
import Derived.Test.YtnenpicelhkelaaGreatDoorCards
namespace Go.Proofs.YtnenpicelhkelaaGreatDoor
open Go
set_option maxRecDepth 100000
theorem pinFits : Tryz.pinned.checked.prog.pinnedFits "unicode/utf8.first" = true := by kernel_rfl
theorem noOwnUnsafe : Tryz.pinned.checked.prog.headLifts.contains "ownunsafe" = false := by kernel_rfl
theorem fits1 : Tryz.pinned.checked.prog.listedFits Rows.towerNamesRow.laid = true := by
  unfold Program.listedFits
  rw [noOwnUnsafe]
  kernel_rfl
theorem row_tie : Rows.towerNamesRow.laidByTextAt .later Tryz.pinned [.pinned, .data, .data, .data, .data] true :=
  OpenClaim.laidByTextAt_pinned rfl rfl tied rfl rfl rfl rfl (fun y hy _e => by
    simp only [Rows.towerNamesRow, List.zip_cons_cons, List.zip_nil_right, List.mem_cons, List.mem_nil_iff, or_false] at hy
    rcases hy with rfl | rfl | rfl | rfl | rfl
    · exact ⟨pinFits, by kernel_rfl⟩
    · cases _e
    · cases _e
    · cases _e
    · cases _e) fits1
theorem c_wf : Rows.towerNamesRow.wfByText (OpenSpec.ofChange Rows.towerNamesSpec) = true := by kernel_rfl
theorem c_main : Tryz.pinned.checked.prog.mainIs = some (true, "815d6e6dfb0831ea6a2a49b4a43cc64acb27943f3a082394a5605732e0a524a8".toList) := by kernel_rfl
theorem c_looks : true = Tryz.pinned.checked.prog.looks [] := by kernel_rfl
theorem c_goes : false = Rows.towerNamesRow.goesBy Tryz.pinned.checked.prog := Go.Ae.goesBy_of rfl h_named noGoes
end Go.Proofs.YtnenpicelhkelaaGreatDoor
