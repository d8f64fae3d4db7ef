/-
  Answers of functions that the evaluator does not go through.
-/
import Derived.Test.YtnenpicelhkelaaGreatDoorW1
import Derived.Test.YtnenpicelhkelaaGreatDoorAeFrame
namespace Go.Ae
open Go.Proofs
set_option linter.unusedVariables false
set_option linter.unusedSimpArgs false

def zB : AV := .int .u8 (.ofNat 0)
def zchk : List AV → Nat → Bool
  | [], 0 => true
  | .int .u8 (.ofNat 0) :: l, n + 1 => zchk l n
  | _, _ => false
theorem zchk_eq : ∀ (l : List AV) (n : Nat), zchk l n = true → l = List.replicate n zB
  | [], 0, _ => rfl
  | [], n + 1, h => by simp [zchk] at h
  | a :: l, 0, h => by simp [zchk] at h
  | a :: l, n + 1, h => by
    unfold zchk at h
    split at h
    · rename_i h1 h2
      cases h2
    · rename_i l' n' h1 h2
      cases h1; cases h2
      rw [zchk_eq _ _ h]; rfl
    · cases h
theorem plainL_rep : ∀ n, plainL (List.replicate n zB) = true
  | 0 => rfl
  | n + 1 => by
    rw [List.replicate_succ]
    simp only [plainL, zB, plainA]
    exact plainL_rep n

theorem mixed : Tryz.prog.follows .mixedOrders = true := by kernel_rfl

/-- Without the zero sectors. -/
noncomputable def K1 : Hook where
  ext f args := match Nat.beq f 215, args with
    | true, [.str s, .int .u8 (.ofNat c)] => (match Nat.blt c 256 with | true => some (.int .i64 (indexByteA c s 0)) | false => none)
    | _, _ => none
  fn f args H := none
  dfr f args H := match Nat.beq f 91, args with
      | true, [a, b] => some H
      | _, _ => none
theorem ext_ok (f : FuncId) (args : List AV) (v : AV) (h : K1.ext f args = some v) (fn : Func) (hf : Tryz.prog.funcs[f]? = some fn) (hb : fn.body = none) (φ : Phi) (ARGS : List Value) (hA : cvL φ args = some ARGS) :
    ∃ V, cv φ v = some V ∧ ∀ w, (callFunc f ARGS.toArray).run Tryz.prog w = .ok (.value V) w := by
  simp only [K1] at h
  split at h
  · rename_i s c hc
    have hf' : f = 215 := by simpa using hc
    subst hf'
    split at h
    · rename_i hlt
      have hlt' : c < 256 := by simpa using hlt
      simp only [Option.some.injEq] at h
      subst h
      exact indexByte_ext Tryz.func215 (by rfl) (by rfl) (by rfl) (by rfl) hlt' φ hA
    · cases h
  · cases h
theorem dfr_ok (f : FuncId) (args : List AV) (H H' : Hp) (h : K1.dfr f args H = some H') : DeferOk Tryz.prog f args H H' := by
  simp only [K1] at h
  split at h
  · rename_i a b hf
    have hf' : f = 91 := by simpa using hf
    subst hf'
    simp only [Option.some.injEq] at h
    subst h
    exact read_dfr a b H
  · cases h
theorem hookOk1 : HookOk Tryz.prog K1 := ⟨ext_ok, fun f args H v H' h => by simp [K1] at h, dfr_ok⟩
end Go.Ae
