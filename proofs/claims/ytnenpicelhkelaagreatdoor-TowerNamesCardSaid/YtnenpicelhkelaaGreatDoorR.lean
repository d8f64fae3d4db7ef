/-
  The law's call, from every start that the row lets in, returns true and leaves all as it was.
-/
import Derived.Test.YtnenpicelhkelaaGreatDoorW5
import Derived.Test.YtnenpicelhkelaaGreatDoorRows
import Derived.ProofKit
import Derived.OpenShut
import Derived.LaidMore
import Derived.Lay
import Derived.SevenTiedAt
import Derived.Stop.Joined
namespace Go.Proofs.YtnenpicelhkelaaGreatDoor
open Go.ChangeShapes Go.WideShapes Go.ChangeAt Go.RowKit
open Go.Ae (Kept)

theorem own : ownKnob Tryz.prog.godebug = none := by kernel_rfl
theorem keptBut_none {w w' : World} (k : Kept w w') : w.keptBut w' (· ∈ ([] : List MemPlace)) := by
  refine ⟨k.os, k.output, fun i hi => ?_⟩
  rw [k.same i hi]
  cases w.heap[i]? with
  | none => rfl
  | some o => cases o <;> simp

set_option maxRecDepth 100000 in
theorem lifted (os : Os) (started : os.Started) (H : Type) (enc : TypeId × Value → H) :
    ReturnsInHanded {} Tryz.checked os 3 .any (fun w args => (Rows.towerNamesSpec.pre enc Tryz.prog Tryz.f3 Rows.towerNamesRow.domain false w args ∧ laidMetH Tryz.prog Rows.towerNamesRow.laid w) ∧ sizedMet enc Tryz.prog Tryz.f3 (OpenSpec.ofChange Rows.towerNamesSpec) false w args)
      (Rows.towerNamesSpec.post enc Tryz.prog Tryz.f3 false true false false) := by
  refine returnsInHanded_of_change_and (C := Tryz.checked) (X := fun w _ => laidMetH Tryz.prog Rows.towerNamesRow.laid w) (fun _ _ _ hh h => h.of_heap hh) own started (by kernel_rfl) Tryz.func3
    (ChangeSpec.witness_shaped (enc := enc) (C := Tryz.checked) (os := os) (X := fun w _ => laidMetH Tryz.prog Rows.towerNamesRow.laid w) false (World.laidAll Tryz.prog os Rows.towerNamesRow.laid) #[] 8 (World.laidAll_os _ _ _)
      (World.shaped_of_ZipB (by kernel_rfl) (by kernel_rfl)) (by kernel_rfl) (by kernel_rfl) (by kernel_rfl)
      (by rw [MakeChecks.laidMetH_plain _ _ _ (by kernel_rfl)]; exact laidMet_laidAll _ (by kernel_rfl) (by kernel_rfl))) ?_
  intro W base args ds gs before hval0 hW hc _ hL _
  have hW' := hW
  obtain ⟨p, q, hA0, hV, rfl, _, _⟩ := hW
  have hA : DataW.TrodAll enc Tryz.prog W 0 (fun _ => true) true Tryz.f3.params.toList args.toList ds p := hA0
  rw [Tryz.params3] at hA
  obtain ⟨rfl, rfl, rfl⟩ := trodAll_none hA
  obtain ⟨rfl, rfl⟩ := trodVars_none hV
  simp only [List.append_nil] at hW'
  refine (Go.Ae.law_calls W).mono fun e W' ⟨he, hk⟩ => ?_
  subst he
  refine ⟨_, rfl, [], [], [], [], [], [], hW', ?_, trodAll_mk0, rfl, World.keptBut_mono (fun p hp => by cases hp) (keptBut_none hk), fun h => by cases h⟩
  exact trodAll_mk1 (shut_bool Tryz.underlying4 _)

end Go.Proofs.YtnenpicelhkelaaGreatDoor
