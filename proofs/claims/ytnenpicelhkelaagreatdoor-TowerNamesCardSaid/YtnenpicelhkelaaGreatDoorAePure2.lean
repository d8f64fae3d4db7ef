/-
  A part of an evaluator of translated programs, and of the proof that what it answers is what the model says; no condition.
-/
import Derived.Test.YtnenpicelhkelaaGreatDoorAePure
namespace Go.Ae
set_option linter.unusedVariables false
set_option linter.unusedSimpArgs false

theorem val_run {P : Program} {s : Sem Value} {w w' : World} {V : Value} (h : s.run P w = .ok V w') : (do let x ← s; pure (Next.value x) : Sem Next).run P w = .ok (.value V) w' := by
  simp [h]
theorem skip_run {P : Program} {s : Sem Unit} {w w' : World} (h : s.run P w = .ok () w') : (do s; pure Next.skip : Sem Next).run P w = .ok .skip w' := by
  simp [h]

theorem cells_sound {φ : Phi} {v : AV} {V : Value} (h : cv φ v = some V) : cvL φ (cellsA v) = some V.cells.toList := by
  cases v with
  | agg l => obtain ⟨L, hL, rfl⟩ := cv_agg h; simpa [cellsA, Value.cells] using hL
  | bool b => obtain rfl := cv_bool h; simp [cellsA, cvL, cv, Value.cells]
  | int k n => obtain rfl := cv_int h; simp [cellsA, cvL, cv, Value.cells]
  | str s => obtain ⟨rfl, hs⟩ := cv_str h; simp [cellsA, cvL, h, Value.cells]
  | nilp => simp [cv] at h; subst h; simp [cellsA, cvL, cv, Value.cells]
  | ptr b o => obtain ⟨n, N, s, _, rfl⟩ := cv_ptr h; simp [cellsA, cvL, h, Value.cells]
  | nils => simp [cv] at h; subst h; simp [cellsA, cvL, cv, Value.cells]
  | slice b o l c => obtain ⟨n, N, s, _, rfl⟩ := cv_slice h; simp [cellsA, cvL, h, Value.cells]
  | nilm => simp [cv] at h; subst h; simp [cellsA, cvL, cv, Value.cells]
  | map b => obtain ⟨n, x, _, rfl⟩ := cv_map h; simp [cellsA, cvL, h, Value.cells]
  | nilc => simp [cv] at h; subst h; simp [cellsA, cvL, cv, Value.cells]
  | chan b =>
    have h' := h
    simp only [cv] at h'
    cases hb : φ b with
    | none => rw [hb] at h'; simp at h'
    | some x => rw [hb] at h'; simp at h'; subst h'; simp [cellsA, cvL, h, Value.cells]
  | func fn a b => obtain ⟨A, B, _, _, rfl⟩ := cv_func h; simp [cellsA, cvL, h, Value.cells]
  | yieldf l =>
    have h' := h
    simp only [cv] at h'
    cases hb : φ l with
    | none => rw [hb] at h'; simp at h'
    | some x => rw [hb] at h'; simp at h'; subst h'; simp [cellsA, cvL, h, Value.cells]
  | nilf => simp [cv] at h; subst h; simp [cellsA, cvL, cv, Value.cells]
  | iface t v => obtain ⟨X, _, rfl⟩ := cv_iface h; simp [cellsA, cvL, h, Value.cells]
  | nili => simp [cv] at h; subst h; simp [cellsA, cvL, cv, Value.cells]
  | tup l => obtain ⟨L, _, rfl⟩ := cv_tup h; simp [cellsA, cvL, h, Value.cells]

/-! ### composite values -/
theorem foldl_size : ∀ (vs : List Value) (k off : Nat) (A : Array Value),
    ((vs.zipIdx k).foldl (fun (cs : Array Value) (x : Value × Nat) => cs.setIfInBounds (off + x.2) x.1) A).size = A.size
  | [], k, off, A => by simp
  | v :: vs, k, off, A => by
    simp only [List.zipIdx_cons, List.foldl_cons]
    rw [foldl_size vs (k + 1) off _]; simp
theorem foldl_get : ∀ (vs : List Value) (k off : Nat) (A : Array Value), off + k + vs.length ≤ A.size → ∀ i,
    ((vs.zipIdx k).foldl (fun (cs : Array Value) (x : Value × Nat) => cs.setIfInBounds (off + x.2) x.1) A)[i]? = if off + k ≤ i ∧ i < off + k + vs.length then vs[i - (off + k)]? else A[i]?
  | [], k, off, A, h, i => by
    simp only [List.zipIdx_nil, List.foldl_nil, List.length_nil]
    rw [if_neg (by omega)]
  | v :: vs, k, off, A, h, i => by
    simp only [List.length_cons] at h
    simp only [List.zipIdx_cons, List.foldl_cons]
    rw [foldl_get vs (k + 1) off _ (by simp; omega) i]
    simp only [Array.getElem?_setIfInBounds, List.length_cons]
    by_cases h1 : i = off + k
    · subst h1
      rw [if_neg (by omega), if_pos rfl, if_pos (by omega), if_pos (by omega)]; simp
    · by_cases h2 : off + (k + 1) ≤ i ∧ i < off + (k + 1) + vs.length
      · rw [if_pos h2, if_pos (by omega)]
        obtain ⟨j, rfl⟩ : ∃ j, i = off + (k + 1) + j := ⟨i - (off + (k + 1)), by omega⟩
        rw [show off + (k + 1) + j - (off + (k + 1)) = j from by omega, show off + (k + 1) + j - (off + k) = j + 1 from by omega]
        simp
      · rw [if_neg h2, if_neg (fun e => h1 e.symm), if_neg (by omega)]
theorem foldl_splice (vs : List Value) (off : Nat) (A : Array Value) (h : off + vs.length ≤ A.size) :
    ((vs.zipIdx 0).foldl (fun (cs : Array Value) (x : Value × Nat) => cs.setIfInBounds (off + x.2) x.1) A) = (A.toList.take off ++ vs ++ A.toList.drop (off + vs.length)).toArray := by
  apply Array.ext_getElem?
  intro i
  rw [foldl_get vs 0 off A (by omega) i]
  simp only [List.getElem?_toArray, List.append_assoc, List.getElem?_append, List.length_take, Array.length_toList, List.getElem?_take, List.getElem?_drop, Array.getElem?_toList]
  rw [show min off A.size = off from by omega]
  by_cases h1 : i < off
  · rw [if_neg (by omega), if_pos h1, if_pos h1]
  · rw [if_neg h1]
    by_cases h2 : i - off < vs.length
    · rw [if_pos (by omega), if_pos h2]; simp
    · rw [if_neg (by omega), if_neg h2]
      congr 1; omega
theorem fill_sound {φ : Phi} {place : Nat → Option (Nat × Nat)} : ∀ {ps : List (Nat × AV)} {PS : List (Nat × Value)} {cells cs : List AV} {C : List Value},
    fillA place cells ps = some cs → cvL φ cells = some C → PS.map Prod.fst = ps.map Prod.fst → cvL φ (ps.map Prod.snd) = some (PS.map Prod.snd) →
    ∃ CS, cvL φ cs = some CS ∧ Instr.fill place C.toArray PS = some CS.toArray
  | [], PS, cells, cs, C, h, hc, h1, h2 => by
    simp at h1; subst h1
    simp [fillA] at h; subst h
    exact ⟨C, hc, rfl⟩
  | (i, v) :: ps, PS, cells, cs, C, h, hc, h1, h2 => by
    cases PS with
    | nil => simp at h1
    | cons p PS =>
      obtain ⟨i', V⟩ := p
      simp only [List.map_cons, List.cons.injEq] at h1
      obtain ⟨rfl, h1⟩ := h1
      simp only [List.map_cons] at h2
      obtain ⟨a, r, hv, hr, e⟩ := cvL_cons.1 h2
      simp only [List.cons.injEq] at e
      obtain ⟨rfl, rfl⟩ := e
      simp only [fillA] at h
      cases hp : place i' with
      | none => rw [hp] at h; simp at h
      | some x =>
        obtain ⟨off, size⟩ := x
        rw [hp] at h
        simp only at h
        cases hb : Nat.beq (cellsA v).length size with
        | false => rw [hb] at h; simp at h
        | true =>
          rw [hb] at h
          simp only at h
          have hsz := Nat.eq_of_beq_eq_true hb
          cases hs : splice (cellsA v) off cells with
          | none => rw [hs] at h; simp at h
          | some cs1 =>
            rw [hs] at h
            simp only at h
            obtain ⟨e, hl⟩ := splice_some _ _ _ _ hs
            have hcv := cells_sound hv
            have hlen := cvL_length hcv
            have hlc := cvL_length hc
            have hcs1 : cvL φ cs1 = some (C.take off ++ V.cells.toList ++ C.drop (off + (cellsA v).length)) := by
              rw [e]
              exact cvL_append (cvL_append (cvL_take off hc) hcv) (cvL_drop _ hc)
            obtain ⟨CS, hCS, hf⟩ := fill_sound h hcs1 h1 hr
            refine ⟨CS, hCS, ?_⟩
            have hVs : V.cells.size = size := by rw [← hsz, ← hlen]; simp
            simp only [Instr.fill, hp]
            rw [if_neg (by
              have : off + V.cells.size ≤ C.length := by rw [hVs]; omega
              simp [hVs]; omega)]
            rw [← hf]
            congr 1
            rw [← Array.foldl_toList, Array.toList_zipIdx, foldl_splice _ _ _ (by simp; omega)]
            simp [hVs, hsz]
end Go.Ae
