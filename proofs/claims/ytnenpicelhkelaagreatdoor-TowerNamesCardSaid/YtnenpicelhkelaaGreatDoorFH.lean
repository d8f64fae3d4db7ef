/-
  TowerNames returns true for every start, and leaves all as it was: the tied card holds; its conditions are those of the given statement alone.
-/
import Derived.Test.YtnenpicelhkelaaGreatDoorFG
namespace Go.Proofs.YtnenpicelhkelaaGreatDoor
open Go
set_option maxRecDepth 100000
theorem card_holds : Rows.TowerNamesCardSaid :=
  Claim7.holds_tied_plain_at .later [] [.pinned, .data, .data, .data, .data] true (true, "815d6e6dfb0831ea6a2a49b4a43cc64acb27943f3a082394a5605732e0a524a8") true holds (fun _ h => by cases h) c_wf (fun _ h => by cases h) row_tie rfl ⟨rfl, rfl⟩ c_main rfl
    (fun f fn hf hfn => by
      obtain rfl : f = 3 := Option.some.inj (h_named.symm.trans hf) |>.symm
      obtain rfl : fn = Tryz.f3 := (Option.some.inj (Tryz.func3.symm.trans hfn)).symm
      exact ⟨c_looks, fun j t ht => by
        rw [Tryz.params3] at ht
        simp at ht⟩)
    c_goes
#print axioms card_holds
end Go.Proofs.YtnenpicelhkelaaGreatDoor
