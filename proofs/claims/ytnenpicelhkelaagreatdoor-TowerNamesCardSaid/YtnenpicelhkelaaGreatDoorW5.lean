/-
  The law's call answers true, whatever the memory.
-/
import Derived.Test.YtnenpicelhkelaaGreatDoorW4
namespace Go.Ae
open Go.Proofs
set_option linter.unusedVariables false
set_option linter.unusedSimpArgs false
noncomputable def fnL (f : FuncId) (args : List AV) (H : Hp) : Option (AV × Hp) :=
  match Nat.beq f 4, args with
  | true, [] => some (.bool true, H)
  | _, _ => fnZ f args H
noncomputable def K3 : Hook where
  ext := K1.ext
  fn := fnL
  dfr := K1.dfr
theorem fnL_ok (f : FuncId) (args : List AV) (H : Hp) (v : AV) (H' : Hp) (h : fnL f args H = some (v, H')) : CallOk Tryz.prog f args H v H' := by
  unfold fnL at h
  split at h
  · rename_i hf
    have hf' : f = 4 := by simpa using hf
    subst hf'
    simp only [Option.some.injEq, Prod.mk.injEq] at h
    obtain ⟨rfl, rfl⟩ := h
    exact lives_ok H
  · exact fnZ_ok _ _ _ _ _ h
theorem hookOk3 : HookOk Tryz.prog K3 := ⟨ext_ok, fnL_ok, dfr_ok⟩
set_option maxRecDepth 100000
theorem lawRun : okB ((run Tryz.prog K3 100000).call 3 [] hp0) = true := by kernel_rfl
theorem law_calls (w : World) : Calls Tryz.prog 3 #[] w fun e w' => e = .returned (.bool true) ∧ Kept w w' := law_run mixed hookOk3 lawRun w
end Go.Ae
