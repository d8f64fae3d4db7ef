/-
  The deferred function of record.Read, where nothing panics: it does nothing.
-/
import Derived.Test.YtnenpicelhkelaaGreatDoorAeHook
import Derived.RecoverIn
import Derived.Tactics
import Derived.Test.YtnenpicelhkelaaGreatDoorProg
namespace Go.Ae
open Go.Proofs
theorem wide_fn (f : FuncId) : Fence.wide.fn f := trivial
theorem nilEq (w : World) : (Go.binOp BinOp.eql 20 Value.nilIface Value.nilIface).run Tryz.prog w = Result.ok (Value.bool true) w := by
  obtain ⟨V, hV, hr⟩ := bin_sound (P := Tryz.prog) (op := .eql) (t := 20) (a := .nili) (b := .nili) (v := .bool true) (by kernel_rfl) (φ := fun _ => none) (A := .nilIface) (B := .nilIface) rfl rfl
  have hV2 : V = Value.bool true := by simp [cv] at hV; exact hV.symm
  subst hV2
  exact hr w
theorem read_dfr (a b : AV) (H : Hp) : DeferOk Tryz.prog 91 [a, b] H H := by
  intro φ w ARGS hH hA Rp hq
  obtain ⟨A, r, _, hr, rfl⟩ := cvL_cons.1 hA
  obtain ⟨B, r2, _, hr2, rfl⟩ := cvL_cons.1 hr
  simp [cvL] at hr2; subst hr2
  refine callsDIn_of_wpSIn Tryz.func91 rfl (by simp [Fence.wide]) fun c₀ cs hu => ?_
  apply wpSIn_seq
  apply wpSIn_region
  simp [wpOpsSIn, go_sem, recoverD, hu, Tryz.ntmps91, Exit.thenS, wide_fn]
  apply wpSIn_seq
  apply wpSIn_seq
  apply wpSIn_region
  simp [wpOpsSIn, go_sem, Exit.thenS, wide_fn, nilEq]
  refine wpSIn_cond (t := true) (by simp [Act.eval]) ?_
  simp only [if_true]
  refine wpSIn_of_wpIn rfl (wpIn_ret ?_)
  cases c₀
  simp_all [bodyPostS, results, Tryz.results91, Exit.thenS]
  exact hq φ w _ (Post.refl hH)
end Go.Ae
