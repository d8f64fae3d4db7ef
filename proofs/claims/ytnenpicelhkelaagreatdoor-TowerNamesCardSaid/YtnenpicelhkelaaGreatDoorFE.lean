/-
  The listed variables are tied to the program's text: the closed facts, each by the kernel.
-/
import Derived.Test.YtnenpicelhkelaaGreatDoorRows
import Derived.LaidByTextLater
import Derived.SevenTiedAt
namespace Go.Proofs.YtnenpicelhkelaaGreatDoor
open Go
set_option maxRecDepth 100000
noncomputable def tl : List (String × DataW Unit) := [("unicode/utf8.acceptRanges", Rows.laid_unicode_utf8_acceptRanges), ("internal/strconv.uint64pow10", Rows.laid_internal_strconv_uint64pow10), ("math/bits.deBruijn32tab", Rows.laid_math_bits_deBruijn32tab), ("math/bits.deBruijn64tab", Rows.laid_math_bits_deBruijn64tab)]
def tk : List LaidKind := [.data, .data, .data, .data]
theorem vNamed : Tryz.prog.funcNamed "gosem.cut.vars" = some 705 := by kernel_rfl
theorem vId : varsId Tryz.prog = 705 := by unfold varsId; rw [vNamed]; rfl
theorem tie0 : Tryz.prog.worded (varsWordLater true) = true := by kernel_rfl
theorem tie1 : Tryz.prog.worded (varsWordLater !true) = false := by kernel_rfl
theorem tie2 : Tryz.prog.worded rootWordLater = true := by kernel_rfl
theorem tie3 : tl.map (fun x => Tryz.prog.kindOfLater x.1) = tk.map some := by kernel_rfl
theorem tie4 : (Tryz.prog.funcNamed "gosem.cut.vars").isSome = true := by rw [vNamed]; rfl
theorem tie5 : varsNamedLaterB Tryz.prog (varsId Tryz.prog) tl = true := by rw [vId]; kernel_rfl
theorem tie6 : ∀ os tape, varsDone Tryz.prog 400 (varsId Tryz.prog) os tape = true := fun _ _ => by rw [vId]; kernel_rfl
theorem tie7 : ∀ os tape, (DataW.laidRun Tryz.prog (varsWorld Tryz.prog 400 (varsId Tryz.prog) os tape).memory 8 (tl.map (·.1))).map (·.1) = some tl := fun _ _ => by rw [vId]; kernel_rfl
theorem tie8 : ∀ os tape, (DataW.laidRun Tryz.prog (varsWorld Tryz.prog 400 (varsId Tryz.prog) os tape).memory 8 (tl.map (·.1))).map (fun x => decide x.2.Nodup && laidRowsB Tryz.prog (varsWorld Tryz.prog 400 (varsId Tryz.prog) os tape).memory x.2) = some true := fun _ _ => by rw [vId]; kernel_rfl
theorem tied : Tryz.prog.laidByTextLater tl tk true := Program.laidByTextLater_by_run 400 8 tie0 tie1 tie2 tie3 tie4 tie5 tie6 tie7 tie8
end Go.Proofs.YtnenpicelhkelaaGreatDoor
