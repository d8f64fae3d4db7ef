/-
  A sector of zeros has no byte that is not zero, as the program looks for one.
-/
import Derived.Test.YtnenpicelhkelaaGreatDoorW2
namespace Go.Ae
open Go.Proofs
set_option linter.unusedVariables false
set_option linter.unusedSimpArgs false
noncomputable def okZ : Option (AV × Hp) → Bool
  | some (.int .i64 (.negSucc 0), H) => (match H.get 0 with
    | some (.cells e false c) => (match Nat.beq e 132 with | true => zchk c 512 | false => false)
    | _ => false)
  | _ => false
noncomputable def zargs (b : Nat) : List AV := [.slice b 0 512 (.known 512), .func (.func 46) [] []]
set_option maxRecDepth 100000
theorem zrun : okZ ((run Tryz.prog K1 100000).call 90 (zargs 0) (hp1 (.cells 132 false (List.replicate 512 zB)))) = true := by kernel_rfl
theorem zsect (H : Hp) (b : Nat) (hb : H.get b = some (.cells 132 false (List.replicate 512 zB))) : CallOk Tryz.prog 90 (zargs b) H (.int .i64 (.negSucc 0)) H := by
  have h := zrun
  unfold okZ at h
  split at h
  · rename_i H' hr
    split at h
    · rename_i e c hg
      split at h
      · rename_i he
        have he' : e = 132 := by simpa using he
        subst he'
        have hc := zchk_eq _ _ h
        subst hc
        exact frame1 mixed hookOk1 hr hg (plainL_rep 512) (by rfl) (by rfl) H hb
      · cases h
    · cases h
  · cases h
end Go.Ae
