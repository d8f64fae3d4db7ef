/-
  A part of an evaluator of translated programs, and of the proof that what it answers is what the model says; no condition.
-/
import Derived.Test.YtnenpicelhkelaaGreatDoorAeLaw
import Derived.Laws.Externs
namespace Go.Ae
set_option linter.unusedVariables false
set_option linter.unusedSimpArgs false

def indexByteA (c : Nat) : List Nat → Nat → Int
  | [], _ => -1
  | a :: l, i => match Nat.beq a c with | true => Int.ofNat i | false => indexByteA c l (i + 1)
theorem indexByte_find (c : Nat) (hc : c < 256) : ∀ (s : List Nat) (i : Nat), (∀ n ∈ s, n < 256) →
    indexByteA c s i = match (List.range s.length).find? (fun j => (s.map UInt8.ofNat)[j]! == c.toUInt8) with | some j => ((i + j : Nat) : Int) | none => -1
  | [], i, _ => by simp [indexByteA]
  | a :: l, i, h => by
    have ha := h a (by simp)
    have e0 : (UInt8.ofNat a == c.toUInt8) = decide (a = c) := by
      by_cases e : a = c
      · subst e; simp [Nat.toUInt8]
      · have : UInt8.ofNat a ≠ c.toUInt8 := by
          intro h
          have := congrArg UInt8.toNat h
          simp [Nat.toUInt8] at this
          omega
        simp [this, e]
    simp only [indexByteA, beq_dec, List.length_cons, List.range_succ_eq_map, List.find?_cons]
    have e1 : (((a :: l).map UInt8.ofNat)[0]! == c.toUInt8) = decide (a = c) := by simpa using e0
    rw [e1]
    by_cases e : a = c
    · simp [e]
    · simp only [e, decide_false, List.find?_map]
      rw [indexByte_find c hc l (i + 1) (fun n hn => h n (by simp [hn]))]
      have e2 : ((fun j => ((a :: l).map UInt8.ofNat)[j]! == c.toUInt8) ∘ Nat.succ) = fun j => (l.map UInt8.ofNat)[j]! == c.toUInt8 := by
        funext j; simp
      rw [e2]
      cases (List.range l.length).find? (fun j => (l.map UInt8.ofNat)[j]! == c.toUInt8) with
      | none => rfl
      | some j => exact congrArg Int.ofNat (show i + 1 + j = i + (j + 1) by omega)
theorem bytes_bang (s : List Nat) (i : Nat) : (toBytes s)[i]! = (s.map UInt8.ofNat)[i]! := by
  have h : (toBytes s).data.toList = s.map UInt8.ofNat := toBytes_list s
  have hz : (toBytes s).size = s.length := toBytes_size s
  rw [← h]
  by_cases hi : i < s.length
  · have h1 : i < (toBytes s).size := by omega
    have h2 : i < (toBytes s).data.toList.length := by rw [h]; simpa using hi
    rw [getElem!_pos (toBytes s) i h1, getElem!_pos _ i h2]
    rfl
  · have h1 : ¬ i < (toBytes s).size := by omega
    have h2 : ¬ i < (toBytes s).data.toList.length := by rw [h]; simpa using hi
    rw [getElem!_neg (toBytes s) i h1, getElem!_neg _ i h2]
theorem indexByte_ext {P : Program} {f : FuncId} {fn : Func} (hf : P.funcs[f]? = some fn) (hname : (fn.name == "runtime.NumGoroutine") = false)
    (hb : fn.body.isNone = true) (hn : Extern.findNext fn = none) (he : Extern.find fn = some Extern.BytealgIndexByte.indexByte) {s : List Nat} {c : Nat} (hc : c < 256) (φ : Phi) {ARGS : List Value} (hA : cvL φ [.str s, .int .u8 (.ofNat c)] = some ARGS) :
    ∃ V, cv φ (.int .i64 (indexByteA c s 0)) = some V ∧ ∀ w, (callFunc f ARGS.toArray).run P w = .ok (.value V) w := by
  obtain ⟨S, r, hS, hr, rfl⟩ := cvL_cons.1 hA
  obtain ⟨C, r2, hC, hr2, rfl⟩ := cvL_cons.1 hr
  simp [cvL] at hr2; subst hr2
  obtain ⟨rfl, hs⟩ := cv_str hS
  obtain rfl := cv_int hC
  refine ⟨_, rfl, fun w => ?_⟩
  rw [run_callFunc_extern hf hname hb hn he]
  rw [run_indexByte_string, Result.andThen_ok]
  congr 3
  unfold firstIdx
  rw [indexByte_find c hc s 0 hs, toBytes_size]
  have : (fun i : Nat => (toBytes s)[i]! == (Int.ofNat c).toNat.toUInt8) = fun j : Nat => (s.map UInt8.ofNat)[j]! == c.toUInt8 := by
    funext i
    rw [bytes_bang]
    rfl
  rw [this]
  cases (List.range s.length).find? (fun j => (s.map UInt8.ofNat)[j]! == c.toUInt8) with
  | none => rfl
  | some j => simp
end Go.Ae
