/-
  A part of an evaluator of translated programs, and of the proof that what it answers is what the model says; no condition.
-/
import Derived.Test.YtnenpicelhkelaaGreatDoorAePure5
namespace Go.Ae
set_option linter.unusedVariables false
set_option linter.unusedSimpArgs false

section
variable {P : Program} {φ : Phi} {H : Hp} {w : World} (hH : HRel φ H w)
include hH
theorem live_cells {b : Nat} {e : TypeId} {o : Bool} {c : List AV} (hb : H.get b = some (.cells e o c)) :
    ∃ n N s C fz Pre L R, φ b = some (n, N, s) ∧ w.heap[n]? = some (.cells C e fz) ∧ C.size = N ∧ cvL φ c = some L ∧ C.toList = Pre ++ (L ++ R) ∧ Pre.length = s ∧ (o = false → R = [] ∧ s = 0) ∧ ∀ i, i < N → ¬ (fz.1 ≤ i ∧ i < fz.2) := by
  obtain ⟨n, N, s, h1, C, fz, Pre, L, R, h2, h3, h4, h5, h6, h7, h8⟩ := hH.live b _ hb
  exact ⟨n, N, s, C, fz, Pre, L, R, h1, h2, h3, h4, h5, h6, h7, h8⟩
theorem cell_live {b : Nat} {e : TypeId} {o : Bool} {c : List AV} (hb : H.get b = some (.cells e o c)) {n N s : Nat} (hn : φ b = some (n, N, s)) {L : List Value} (hL : cvL φ c = some L) {i : Nat} {V : Value} (hi : L[i]? = some V) :
    w.cell? ⟨n, i + s, none⟩ = some V := by
  obtain ⟨n', N', s', C, fz, Pre, L', R, h1, h2, h3, h4, h5, h6, h7, h8⟩ := live_cells hH hb
  rw [hn] at h1
  simp only [Option.some.injEq, Prod.mk.injEq] at h1
  obtain ⟨rfl, rfl, rfl⟩ := h1
  rw [hL] at h4
  simp only [Option.some.injEq] at h4
  subst h4
  simp only [World.cell?, h2]
  show C[i + s]? = some V
  rw [← Array.getElem?_toList, h5, ← h6, List.getElem?_append_right (by omega), Nat.add_sub_cancel]
  rw [List.getElem?_append_left (List.getElem?_eq_some_iff.1 hi).1]
  exact hi
theorem row_sound {b off n : Nat} {l : List AV} (h : rowA H b off n = some l) {m N s : Nat} (hm : φ b = some (m, N, s)) :
    ∃ L, cvL φ l = some L ∧ L.length = n ∧ (loadCells ⟨m, off + s, none⟩ n).run P w = .ok L.toArray w := by
  unfold rowA at h
  cases hc : cellsOf H b with
  | none => rw [hc] at h; simp at h
  | some c =>
    rw [hc] at h
    simp only [dropA_eq] at h
    obtain ⟨e, hl⟩ := takeN_some _ _ _ h
    subst e
    unfold cellsOf at hc
    split at hc
    · rename_i e o c' hb
      simp at hc; subst hc
      obtain ⟨n', N', s', C, fz, Pre, L, R, h1, h2, h3, h4, h5, h6, h7, h8⟩ := live_cells hH hb
      have hcv := cvL_take n (cvL_drop off h4)
      have hlen : ((L.drop off).take n).length = n := by
        rw [cvL_length hcv]; simp at hl ⊢; omega
      refine ⟨_, hcv, hlen, ?_⟩
      have := run_loadCells_list (P := P) w ⟨m, off + s, none⟩ ((L.drop off).take n) (fun j v hj => by
        rw [addr_add]
        refine cell_live hH hb hm h4 ?_
        have hj' := (List.getElem?_eq_some_iff.1 hj).1
        rw [List.getElem?_take, if_pos (by omega), List.getElem?_drop] at hj
        exact hj)
      rw [hlen] at this
      exact this
    · simp at hc
theorem load_sound {t : TypeId} {b off : Nat} {v : AV} (h : loadA P H t b off = some v) {m N s : Nat} (hm : φ b = some (m, N, s)) :
    ∃ V, cv φ v = some V ∧ (loadVar t ⟨m, off + s, none⟩).run P w = .ok V w := by
  unfold loadA at h
  cases ha : isAggA P t with
  | none => rw [ha] at h; simp at h
  | some g =>
    cases hs : sizeA P t with
    | none => rw [ha, hs] at h; cases g <;> simp at h
    | some n =>
      rw [ha, hs] at h
      cases g with
      | true =>
        simp only at h
        cases hr : rowA H b off n with
        | none => rw [hr] at h; simp at h
        | some l =>
          rw [hr] at h; simp at h; subst h
          obtain ⟨L, hL, _, r⟩ := row_sound (P := P) hH hr hm
          refine ⟨.agg L.toArray, by simp [cv, hL], ?_⟩
          simp [loadVar, run_isAgg1 w ha, run_size1 w hs, r]
      | false =>
        simp only at h
        unfold cellsOf at h
        cases hb : H.get b with
        | none => rw [hb] at h; simp at h
        | some ob =>
          rw [hb] at h
          cases ob <;> simp only [reduceCtorEq] at h
          rename_i e o c
          rw [lget_eq] at h
          obtain ⟨n', N', s', C, fz, Pre, L, R, h1, h2, h3, h4, h5, h6, h7, h8⟩ := live_cells hH hb
          obtain ⟨V, hV, hi⟩ := cvL_get h4 h
          refine ⟨V, hV, ?_⟩
          have := cell_live hH hb hm h4 hi
          simp [loadVar, run_isAgg1 w ha, this]
end

theorem bytes_sound {φ : Phi} : ∀ {l : List AV} {s : List Nat} {L : List Value}, bytesA l = some s → cvL φ l = some L → L = s.map (fun n => Value.int .u8 (Int.ofNat n)) ∧ ∀ n ∈ s, n < 256
  | [], s, L, h, hl => by
    simp [bytesA] at h; subst h
    simp [cvL] at hl; subst hl
    exact ⟨rfl, by simp⟩
  | x :: l, s, L, h, hl => by
    obtain ⟨X, M, hx, hm, rfl⟩ := cvL_cons.1 hl
    unfold bytesA at h
    split at h
    · rename_i e; cases e
    · rename_i n l' e
      injection e with e1 e2
      subst e1; subst e2
      obtain rfl := cv_int hx
      split at h
      · rename_i r hb hr
        simp at h; subst h
        rw [blt_dec] at hb
        obtain ⟨q1, q2⟩ := bytes_sound hr hm
        subst q1
        refine ⟨rfl, fun m hm => ?_⟩
        rcases List.mem_cons.1 hm with rfl | hm
        · simpa using hb
        · exact q2 m hm
      · simp at h
    · simp at h
def FoundOk (φ : Phi) (r : Option AV) (R : Option (Nat × Value)) : Prop := match r with
  | none => R = none
  | some v => ∃ j V, R = some (j, V) ∧ cv φ v = some V
theorem find_sound {P : Program} {φ : Phi} {kt : TypeId} {kd : TypeDesc} (hkd : P.underlying kt = some kd) {k : AV} {K : Value} (hk : cv φ k = some K) (hp : plainKey kd k = true) (w : World) :
    ∀ {es : List En} {r : Option AV} {ES : List MapEntry} (i : Nat), findA P kt k es = some r → cvEs φ es = some ES →
      ∃ R, Instr.findNow kd K ES i = some R ∧ FoundOk φ r R
  | [], r, ES, i, h, he => by
    simp [findA] at h; subst h
    simp [cvEs] at he; subst he
    exact ⟨none, rfl, rfl⟩
  | e :: es, r, ES, i, h, he => by
    obtain ⟨k', v', M, hk', hv', hm, rfl⟩ := cvEs_cons.1 he
    simp only [findA] at h
    cases hq : aeq P 60 kt k e.key with
    | none => rw [hq] at h; simp at h
    | some b =>
      rw [hq] at h
      have hsame : Instr.sameNow kd K k' = some b := by
        simp only [aeq, hkd] at hq
        cases kd <;> cases k <;> simp only [plainKey, reduceCtorEq] at hp
        case int.int kk a x =>
          obtain rfl := cv_int hk
          cases hkey : e.key <;> rw [hkey] at hq hk' <;> simp only [reduceCtorEq] at hq
          rename_i a' y
          obtain rfl := cv_int hk'
          cases hkq : keq a a' with
          | false => rw [hkq] at hq; simp at hq
          | true =>
            rw [hkq] at hq
            obtain rfl := (keq_iff _ _).1 hkq
            simp at hq; subst hq
            simp only [Instr.sameNow, if_true, ieq_eq]
            congr 1
        case string.str s =>
          obtain ⟨rfl, hs⟩ := cv_str hk
          cases hkey : e.key <;> rw [hkey] at hq hk' <;> simp only [reduceCtorEq] at hq
          rename_i s'
          obtain ⟨rfl, hs'⟩ := cv_str hk'
          simp at hq; subst hq
          simp only [Instr.sameNow]
          rw [beq_toListBytes, bytes_eq hs hs']
      simp only [Instr.findNow, hsame]
      cases b with
      | true =>
        simp at h; subst h
        exact ⟨_, rfl, _, _, rfl, hv'⟩
      | false => exact find_sound hkd hk hp w (i + 1) h hm
theorem findKey_sound {P : Program} {φ : Phi} {kt : TypeId} {kd : TypeDesc} (hkd : P.underlying kt = some kd) {k : AV} {K : Value} (hk : cv φ k = some K) (hp : plainKey kd k = true) (w : World)
    {es : List En} {r : Option AV} {ES : List MapEntry} (h : findA P kt k es = some r) (he : cvEs φ es = some ES) :
      ∃ R, (Instr.findKey kt K ES).run P w = .ok R w ∧ FoundOk φ r R := by
  obtain ⟨R, h1, h2⟩ := find_sound hkd hk hp w 0 h he
  exact ⟨R, by simp [Instr.findKey, run_underlying1 w hkd, h1], h2⟩
theorem checkKey_any {P : Program} {φ : Phi} {kt : TypeId} {kd : TypeDesc} (hkd : P.underlying kt = some kd) {k : AV} {K : Value} (hk : cv φ k = some K) (hp : plainKey kd k = true) (e : Bool) (n : Nat) (w : World) :
    (Instr.checkKey e (n + 1) kt K).run P w = .ok () w := by
  cases kd <;> cases k <;> simp only [plainKey, reduceCtorEq] at hp
  case int.int => obtain rfl := cv_int hk; simp [Instr.checkKey, run_underlying1 w hkd]
  case string.str => obtain ⟨rfl, _⟩ := cv_str hk; simp [Instr.checkKey, run_underlying1 w hkd]
theorem checkKey_plain {P : Program} {φ : Phi} {kt : TypeId} {kd : TypeDesc} (hkd : P.underlying kt = some kd) {k : AV} {K : Value} (hk : cv φ k = some K) (hp : plainKey kd k = true) (e : Bool) (w : World) :
    (Instr.checkKey e 10000 kt K).run P w = .ok () w := checkKey_any hkd hk hp e 9999 w
end Go.Ae
