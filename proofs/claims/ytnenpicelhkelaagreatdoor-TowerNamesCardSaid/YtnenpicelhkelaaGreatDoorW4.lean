/-
  The chapter's examples hold: the call answers true, whatever the memory.
-/
import Derived.Test.YtnenpicelhkelaaGreatDoorW3
namespace Go.Ae
open Go.Proofs
set_option linter.unusedVariables false
set_option linter.unusedSimpArgs false
/-- A sector of zeros. -/
noncomputable def zeroAt (H : Hp) (b : Nat) : Bool := match H.get b with
  | some (.cells e false c) => (match Nat.beq e 132 with | true => zchk c 512 | false => false)
  | _ => false
theorem zeroAt_eq {H : Hp} {b : Nat} (h : zeroAt H b = true) : H.get b = some (.cells 132 false (List.replicate 512 zB)) := by
  unfold zeroAt at h
  split at h
  · rename_i e c hg
    split at h
    · rename_i he
      have he' : e = 132 := by simpa using he
      subst he'
      rw [zchk_eq _ _ h] at hg
      exact hg
    · cases h
  · cases h
noncomputable def fnZ (f : FuncId) (args : List AV) (H : Hp) : Option (AV × Hp) :=
  match Nat.beq f 90, args with
  | true, [.slice b 0 512 (.known 512), .func (.func 46) [] []] => (match zeroAt H b with
    | true => some (.int .i64 (.negSucc 0), H)
    | false => none)
  | _, _ => none
noncomputable def K2 : Hook where
  ext := K1.ext
  fn := fnZ
  dfr := K1.dfr
theorem fnZ_ok (f : FuncId) (args : List AV) (H : Hp) (v : AV) (H' : Hp) (h : fnZ f args H = some (v, H')) : CallOk Tryz.prog f args H v H' := by
  unfold fnZ at h
  split at h
  · rename_i b hf
    have hf' : f = 90 := by simpa using hf
    subst hf'
    split at h
    · rename_i hz
      simp only [Option.some.injEq, Prod.mk.injEq] at h
      obtain ⟨rfl, rfl⟩ := h
      exact zsect H b (zeroAt_eq hz)
    · cases h
  · cases h
theorem hookOk2 : HookOk Tryz.prog K2 := ⟨ext_ok, fnZ_ok, dfr_ok⟩
set_option maxRecDepth 100000
theorem livesRun : okB ((run Tryz.prog K2 100000).call 4 [] hp0) = true := by kernel_rfl
theorem lives_ok (H : Hp) : CallOk Tryz.prog 4 [] H (.bool true) H := by
  obtain ⟨H', h⟩ := okB_some livesRun
  exact closed_call mixed hookOk2 h (by rfl) (by rfl) H
end Go.Ae
