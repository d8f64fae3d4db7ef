/-
  A part of an evaluator of translated programs, and of the proof that what it answers is what the model says; no condition.
-/
import Derived.Test.YtnenpicelhkelaaGreatDoorAeEff
namespace Go.Ae
set_option linter.unusedVariables false
set_option linter.unusedSimpArgs false

section
variable {P : Program} {φ : Phi} {H : Hp} {w : World} (hH : HRel φ H w)
include hH
theorem newCells_sound {z : Nat} {x : AV} {X : Value} {n : Nat} {new : List AV} (h : newCells H z x = some (n, new)) (hx : cv φ x = some X) :
    ∃ NEW, cvL φ new = some NEW ∧ NEW.length = n * z ∧ ∀ w1 : World, w1.heap = w.heap → (Builtin.lenOf X).run P w1 = .ok n w1 ∧ (Builtin.firstCells z n X).run P w1 = .ok NEW.toArray w1 := by
  unfold newCells at h
  split at h
  · simp only [Option.some.injEq, Prod.mk.injEq] at h
    obtain ⟨rfl, rfl⟩ := h
    simp [cv] at hx; subst hx
    exact ⟨[], rfl, by simp, fun w1 _ => ⟨rfl, rfl⟩⟩
  · rename_i b off m c
    obtain ⟨mb, N, s, hb, rfl⟩ := cv_slice hx
    cases hr : rowA H b off (m * z) with
    | none => rw [hr] at h; simp at h
    | some l =>
      rw [hr] at h
      simp only [Option.some.injEq, Prod.mk.injEq] at h
      obtain ⟨rfl, rfl⟩ := h
      obtain ⟨L, hL, hlen, _⟩ := row_sound (P := P) hH hr hb
      refine ⟨L, hL, hlen, fun w1 hw => ⟨rfl, ?_⟩⟩
      obtain ⟨L', hL', _, r⟩ := row_sound (P := P) (hH.drew hw) hr hb
      rw [hL] at hL'
      simp only [Option.some.injEq] at hL'
      subst hL'
      simpa [Builtin.firstCells] using r
  · rename_i s
    obtain ⟨rfl, hs⟩ := cv_str hx
    simp only [beq_dec] at h
    split at h
    · rename_i g
      simp only [decide_eq_true_eq] at g
      subst g
      simp only [Option.some.injEq, Prod.mk.injEq] at h
      obtain ⟨rfl, rfl⟩ := h
      have hcl : ∀ (l : List Nat), (∀ n ∈ l, n < 256) → cvL φ (l.map fun n => AV.int .u8 (Int.ofNat n)) = some (((toBytes l).data.map fun b => Value.int .u8 b.toNat).toList) := by
        intro l hl
        simp only [Array.toList_map, toBytes_list, List.map_map]
        induction l with
        | nil => rfl
        | cons n l ih =>
          simp only [List.map_cons]
          refine cvL_mk ?_ (ih (fun m hm => hl m (by simp [hm])))
          have := hl n (by simp)
          simp [cv, Nat.mod_eq_of_lt this]
      refine ⟨_, hcl s hs, by simp [toBytes], fun w1 _ => ⟨?_, ?_⟩⟩
      · simp [Builtin.lenOf, toBytes_size]
      · simp only [Builtin.firstCells, Sem.run_pure]
        have : (toBytes s).extract 0 s.length = toBytes s := by
          have := take_bytes s 0 s.length (Nat.le_refl _) (Nat.zero_le _)
          simpa using this
        rw [this]
    · simp at h
  · simp at h
end

theorem append_room_run {P : Program} {w w' : World} {ts : Array TypeId} {ty t t' e : TypeId} {d' : TypeDesc} {i : TypeInfo} (h0 : ts[0]? = some t) (h1 : ts[1]? = some t') (hu : P.underlying t = some (.slice e)) (hu' : P.underlying t' = some d')
    (hd : (∃ e', d' = .slice e') ∨ d' = .string) (hi : P.info? e = some i) {base : Option Addr} {sLen sCap n : Nat} {X : Value} {NEW : List Value} (hlen : (Builtin.lenOf X).run P w = .ok n w) (hf : (Builtin.firstCells i.size n X).run P w = .ok NEW.toArray w)
    (hroom : sLen + n ≤ sCap) (hst : match base with | some a => (storeCells (a.add (sLen * i.size)) NEW).run P w = .ok () w' | none => w' = w) :
    (Builtin.append_ ts ty #[.slice base sLen sCap, X]).run P w = .ok (.slice base (sLen + n) sCap) w' := by
  have hsz : sizeA P e = some i.size := by simp [sizeA, hi]
  simp only [Builtin.append_, h0, h1, Sem.run_bind, run_underlying1 w hu, Result.andThen_ok, run_size1 w hsz]
  simp only [List.getElem?_toArray, List.getElem?_cons_zero, List.getElem?_cons_succ, Sem.run_bind, run_underlying1 w hu, run_size1 w hsz, Result.andThen_ok]
  rcases hd with ⟨e', rfl⟩ | rfl
  all_goals
   simp only [Sem.run_bind, run_underlying1 w hu', Sem.run_pure, Result.andThen_ok, Bool.false_eq_true, if_false, hlen, hroom, if_true, Bool.not_false, Sem.run_bind, hf]
   cases base with
   | none => simp only at hst; subst hst; simp
   | some a => simp only at hst; simp [hst]
theorem append_grow_run {P : Program} {w : World} {ts : Array TypeId} {ty t t' e : TypeId} {d' : TypeDesc} {i : TypeInfo} {z : Value} (h0 : ts[0]? = some t) (h1 : ts[1]? = some t') (hu : P.underlying t = some (.slice e)) (hu' : P.underlying t' = some d')
    (hd : (∃ e', d' = .slice e') ∨ d' = .string) (hi : P.info? e = some i) (hz0 : i.zero = some z) {base : Option Addr} {sLen sCap n : Nat} {X : Value} {OLD NEW : List Value} (hlen : (Builtin.lenOf X).run P w = .ok n w)
    (hf : (Builtin.firstCells i.size n X).run P w.drew = .ok NEW.toArray w.drew) (ho : (Builtin.firstCells i.size sLen (.slice base sLen sCap)).run P w.drew = .ok OLD.toArray w.drew)
    (hroom : sCap < sLen + n) (hfit : (sLen + n) * i.bytes ≤ 1073741824) (hm : sLen + n ≤ 1048576) :
    (Builtin.append_ ts ty #[.slice base sLen sCap, X]).run P w = .ok (.slice (some ⟨w.heap.size, 0, none⟩) (sLen + n) (grownCap w (sLen + n) sCap e))
      { w with heap := w.heap.push (.cells (OLD.toArray ++ NEW.toArray ++ Builtin.zeroCells z.cells (grownCap w (sLen + n) sCap e - (sLen + n))) e), drawn := w.drawn + 1 } := by
  have hsz : sizeA P e = some i.size := by simp [sizeA, hi]
  have hn : ¬ (sLen + n ≤ sCap) := by omega
  have h63 : ¬ (IntKind.i64.max < ((sLen + n : Nat) : Int)) := by simp only [IntKind.max, IntKind.signed, IntKind.bits]; simp; omega
  have h48 : ¬ (Builtin.nextslicecap (sLen + n) sCap * i.bytes > 2 ^ 48) := by
    have := growslice_fits (bytes := i.bytes) hroom (by omega)
    simp; omega
  have hdr : ({ w with drawn := w.drawn + 1 } : World) = w.drew := rfl
  simp only [Builtin.append_, h0, h1, Sem.run_bind, run_underlying1 w hu, Result.andThen_ok, run_size1 w hsz]
  simp only [List.getElem?_toArray, List.getElem?_cons_zero, List.getElem?_cons_succ, Sem.run_bind, run_underlying1 w hu, run_size1 w hsz, Result.andThen_ok]
  have ht : ∀ w, (typeInfo e).run P w = .ok i w := fun w => run_typeInfo1 w hi
  have hd2 : (w.drew).heap = w.heap := rfl
  rcases hd with ⟨e', rfl⟩ | rfl
  all_goals
   simp only [Sem.run_bind, run_underlying1 w hu', Sem.run_pure, Result.andThen_ok, Bool.false_eq_true, if_false, hlen, hn, Bool.not_false, Sem.run_bind, Sem.run_ite, ht, h63, h48, false_and, gt_iff_lt, false_or]
   simp only [Sem.run_pure, Result.andThen_ok, Sem.run_bind, run_choose, Question.forced, Bool.false_eq_true, if_false, ht, run_askRoom, hdr, ho, hf, if_true]
   simp only [zeroValue, Sem.run_bind, ht, hz0, Result.andThen_ok, Sem.run_pure, newRow, run_newObj]
   rfl
end Go.Ae
