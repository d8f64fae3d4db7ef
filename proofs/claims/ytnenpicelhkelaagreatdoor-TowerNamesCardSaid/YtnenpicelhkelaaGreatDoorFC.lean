/-
  The closed facts of the row, joined.
-/
import Derived.Test.YtnenpicelhkelaaGreatDoorFA
import Derived.Test.YtnenpicelhkelaaGreatDoorFB
namespace Go.Proofs.YtnenpicelhkelaaGreatDoor
open Go
set_option maxRecDepth 100000
theorem mapsIs : mapsRowed Tryz.pinned.checked.prog = true := by kernel_rfl
theorem joined : joinedFacts Tryz.pinned.checked.prog 3 Tryz.f3 Rows.towerNamesSpec Rows.towerNamesRow = true := by
  unfold joinedFacts
  rw [laidOut, mapsIs, inPlaceIs, unfIs, recIs, namedIs]
  kernel_rfl
end Go.Proofs.YtnenpicelhkelaaGreatDoor
