/-
  The rows of the types, span by span, by the kernel.
-/
import Derived.Test.YtnenpicelhkelaaGreatDoorAeClos
import Derived.Test.YtnenpicelhkelaaGreatDoorRows
import Derived.ProofKit
import Derived.OpenShut
import Derived.LaidMore
import Derived.Lay
import Derived.SevenTiedAt
import Derived.Stop.Joined
namespace Go.Proofs.YtnenpicelhkelaaGreatDoor
open Go Go.Ae
set_option maxRecDepth 100000
theorem types0 : rowsAt Tryz.pinned.checked.prog 100 0 = true := by kernel_rfl
theorem types1 : rowsAt Tryz.pinned.checked.prog 100 100 = true := by kernel_rfl
theorem types2 : rowsAt Tryz.pinned.checked.prog 100 200 = true := by kernel_rfl
theorem types3 : rowsAt Tryz.pinned.checked.prog 100 300 = true := by kernel_rfl
theorem types4 : rowsAt Tryz.pinned.checked.prog 100 400 = true := by kernel_rfl
theorem types5 : rowsAt Tryz.pinned.checked.prog 100 500 = true := by kernel_rfl
theorem types6 : rowsAt Tryz.pinned.checked.prog 100 600 = true := by kernel_rfl
theorem types7 : rowsAt Tryz.pinned.checked.prog 83 700 = true := by kernel_rfl
theorem laidOut : laidOutB Tryz.pinned.checked.prog = true := laidOut_of (N := 783) (rows_join (rows_join (rows_join (rows_join (rows_join (rows_join (rows_join (rowsAt_ok _ _ types0) (rowsAt_ok _ _ types1)) (rowsAt_ok _ _ types2)) (rowsAt_ok _ _ types3)) (rowsAt_ok _ _ types4)) (rowsAt_ok _ _ types5)) (rowsAt_ok _ _ types6)) (rowsAt_ok _ _ types7)) (by kernel_rfl) (by kernel_rfl) (by kernel_rfl)
theorem still0 : goesL 60 (Tryz.pinned.checked.prog.funcs.toList.drop 0) = true := by kernel_rfl
theorem still1 : goesL 60 (Tryz.pinned.checked.prog.funcs.toList.drop 60) = true := by kernel_rfl
theorem still2 : goesL 60 (Tryz.pinned.checked.prog.funcs.toList.drop 120) = true := by kernel_rfl
theorem still3 : goesL 60 (Tryz.pinned.checked.prog.funcs.toList.drop 180) = true := by kernel_rfl
theorem still4 : goesL 60 (Tryz.pinned.checked.prog.funcs.toList.drop 240) = true := by kernel_rfl
theorem still5 : goesL 60 (Tryz.pinned.checked.prog.funcs.toList.drop 300) = true := by kernel_rfl
theorem still6 : goesL 60 (Tryz.pinned.checked.prog.funcs.toList.drop 360) = true := by kernel_rfl
theorem still7 : goesL 60 (Tryz.pinned.checked.prog.funcs.toList.drop 420) = true := by kernel_rfl
theorem still8 : goesL 60 (Tryz.pinned.checked.prog.funcs.toList.drop 480) = true := by kernel_rfl
theorem still9 : goesL 60 (Tryz.pinned.checked.prog.funcs.toList.drop 540) = true := by kernel_rfl
theorem still10 : goesL 60 (Tryz.pinned.checked.prog.funcs.toList.drop 600) = true := by kernel_rfl
theorem still11 : goesL 46 (Tryz.pinned.checked.prog.funcs.toList.drop 660) = true := by kernel_rfl
theorem noGoes : Tryz.pinned.checked.prog.goes 3 = false := goes_of (N := 706) (Calm1.join (Calm1.join (Calm1.join (Calm1.join (Calm1.join (Calm1.join (Calm1.join (Calm1.join (Calm1.join (Calm1.join (Calm1.join (calm1 still0) (calm1 still1)) (calm1 still2)) (calm1 still3)) (calm1 still4)) (calm1 still5)) (calm1 still6)) (calm1 still7)) (calm1 still8)) (calm1 still9)) (calm1 still10)) (calm1 still11)) (by kernel_rfl) 3

end Go.Proofs.YtnenpicelhkelaaGreatDoor
