/-
  A part of an evaluator of translated programs, and of the proof that what it answers is what the model says; no condition.
-/
import Derived.Test.YtnenpicelhkelaaGreatDoorAeNew
namespace Go.Ae
set_option linter.unusedVariables false
set_option linter.unusedSimpArgs false

theorem one_cell {φ : Phi} {v : AV} {V : Value} (h : cv φ v = some V) (ha : atom v = true) : V.oneCell' = true := by
  cases V with
  | agg C => obtain ⟨l, rfl⟩ := inv_agg h; simp [atom] at ha
  | tuple C =>
    cases v <;> simp [atom] at ha <;> simp [cv] at h
    all_goals first
      | (have := (cv_str (by simpa [cv] using h)).1; simp at this; done)
      | (try split at h) <;> simp at h
  | _ => rfl
theorem one_cells {φ : Phi} : ∀ {l : List AV} {L : List Value}, cvL φ l = some L → atoms l = true → ∀ V ∈ L, V.oneCell' = true
  | [], L, h, _, V, hV => by simp [cvL] at h; subst h; simp at hV
  | v :: l, L, h, ha, V, hV => by
    obtain ⟨X, M, hx, hm, rfl⟩ := cvL_cons.1 h
    simp only [atoms] at ha
    cases hv : atom v with
    | false => rw [hv] at ha; simp at ha
    | true =>
      rw [hv] at ha
      rcases List.mem_cons.1 hV with rfl | hV
      · exact one_cell hx hv
      · exact one_cells hm ha V hV

/-- Stores of cells, one behind the other. -/
theorem store_run {P : Program} (g : Nat) (t : TypeId) (fz : Nat × Nat) : ∀ (vs : List Value) (o i : Nat) (cur : Array Value) (w : World), w.heap[g]? = some (.cells cur t fz) → o + i + vs.length ≤ cur.size →
    (∀ j, j < cur.size → ¬ (fz.1 ≤ j ∧ j < fz.2)) → (∀ v ∈ vs, v.oneCell' = true) →
    ∃ w', (storeCells ⟨g, o, none⟩ vs i).run P w = .ok () w' ∧ (∀ j, w'.heap[j]? = if j = g then some (.cells (cur.toList.take (o + i) ++ vs ++ cur.toList.drop (o + i + vs.length)).toArray t fz) else w.heap[j]?) ∧
      w'.heap.size = w.heap.size ∧ w'.os = w.os ∧ w'.tape = w.tape ∧ w'.output = w.output
  | [], o, i, cur, w, hg, _, _, _ => by
    refine ⟨w, rfl, fun j => ?_, rfl, rfl, rfl, rfl⟩
    by_cases e : j = g
    · subst e; simp [hg]
    · simp [e]
  | v :: vs, o, i, cur, w, hg, hl, hf, h1 => by
    simp only [List.length_cons] at hl
    have hadd : (⟨g, o, none⟩ : Addr).add i = ⟨g, o + i, none⟩ := by unfold Addr.add; split <;> simp_all
    have hlt : o + i < cur.size := by omega
    have hc : w.cell? ⟨g, o + i, none⟩ = some cur[o + i] := by simp [World.cell?, hg, hlt]
    have hfr : w.frozen? ⟨g, o + i, none⟩ = false := by
      have := hf (o + i) hlt
      simp only [World.frozen?, hg]
      simpa using this
    have hst : (store ((⟨g, o, none⟩ : Addr).add i) v).run P w = .ok () (w.setCell ⟨g, o + i, none⟩ v) := by
      rw [hadd, run_store P w _ v _ (h1 v (by simp))]
      simp [hc, hfr]
    have hg' : (w.setCell ⟨g, o + i, none⟩ v).heap[g]? = some (.cells (cur.setIfInBounds (o + i) v) t fz) := by
      simp only [World.setCell]
      rw [Array.getElem?_modify, if_pos rfl, hg]
      rfl
    obtain ⟨w', r, hh, hs, ho, ht, hq⟩ := store_run (P := P) g t fz vs o (i + 1) (cur.setIfInBounds (o + i) v) (w.setCell ⟨g, o + i, none⟩ v) hg' (by simp; omega) (by simpa using hf) (fun u hu => h1 u (by simp [hu]))
    refine ⟨w', ?_, fun j => ?_, ?_, ?_, ?_, ?_⟩
    · simp only [storeCells, Sem.run_bind, hst, Result.andThen_ok, r]
    · rw [hh j]
      by_cases e : j = g
      · rw [if_pos e, if_pos e]
        congr 2
        apply Array.ext_getElem?
        intro q
        simp only [Array.toList_setIfInBounds, List.getElem?_toArray, List.append_assoc, List.getElem?_append, List.length_take, List.length_set, Array.length_toList, List.getElem?_take, List.getElem?_drop, List.getElem?_set, List.length_cons]
        have m1 : min (o + (i + 1)) cur.size = o + i + 1 := by omega
        have m2 : min (o + i) cur.size = o + i := by omega
        rw [m1, m2]
        by_cases q1 : q < o + i
        · rw [if_pos (by omega), if_pos (by omega), if_pos q1, if_pos q1, if_neg (by omega)]
        · by_cases q2 : q = o + i
          · subst q2
            rw [if_pos (by omega), if_pos (by omega), if_neg q1, if_pos rfl, if_pos (by simpa using hlt)]
            simp
          · rw [if_neg (by omega), if_neg q1]
            obtain ⟨d, rfl⟩ : ∃ d, q = o + i + 1 + d := ⟨q - (o + i + 1), by omega⟩
            rw [show o + i + 1 + d - (o + i + 1) = d from by omega, show o + i + 1 + d - (o + i) = d + 1 from by omega]
            by_cases q3 : d < vs.length
            · rw [if_pos q3, if_pos (by omega)]; simp
            · rw [if_neg q3, if_neg (by omega), if_neg (by omega)]
              congr 1; omega
      · rw [if_neg e, if_neg e]
        simp only [World.setCell]
        rw [Array.getElem?_modify, if_neg (fun h => e h.symm)]
    · rw [hs]; simp [World.setCell]
    · rw [ho]; rfl
    · rw [ht]; rfl
    · rw [hq]; rfl

section
variable {P : Program} {φ : Phi} {H : Hp} {w : World} (hH : HRel φ H w)
include hH
/-- New cells over a live block's. -/
theorem splice_store {b off : Nat} {e : TypeId} {o : Bool} {c c' new : List AV} {NEW : List Value} (hb : H.get b = some (.cells e o c)) (hs : splice new off c = some c') (hN : cvL φ new = some NEW) (ha : atoms new = true)
    {n N s : Nat} (hn : φ b = some (n, N, s)) : ∃ w', (storeCells ⟨n, off + s, none⟩ NEW).run P w = .ok () w' ∧ Post φ H w φ (H.put b (.cells e o c')) w' := by
  obtain ⟨n', N', s', C, fz, Pre, L, R, h1, h2, h3, h4, h5, h6, h7, h8⟩ := live_cells hH hb
  rw [hn] at h1
  simp only [Option.some.injEq, Prod.mk.injEq] at h1
  obtain ⟨rfl, rfl, rfl⟩ := h1
  obtain ⟨e1, e2⟩ := splice_some _ _ _ _ hs
  have hlN := cvL_length hN
  have hlL := cvL_length h4
  have hCl : C.toList.length = Pre.length + (L.length + R.length) := by rw [h5]; simp
  have hCs : C.size = Pre.length + (L.length + R.length) := by rw [← hCl]; simp
  obtain ⟨w', r, hh, hsz, ho, ht, hq⟩ := store_run (P := P) n e fz NEW (off + s) 0 C w h2 (by omega) (by rw [h3]; exact h8) (one_cells hN ha)
  refine ⟨w', r, HRel.update hH hb hn hh ?_ ho ht hq hsz⟩
  have hL' : cvL φ c' = some (L.take off ++ NEW ++ L.drop (off + new.length)) := by
    rw [e1]
    exact cvL_append (cvL_append (cvL_take off h4) hN) (cvL_drop _ h4)
  refine ⟨_, fz, Pre, _, R, rfl, ?_, hL', ?_, h6, h7, h8⟩
  · simp only [List.size_toArray, List.length_append, List.length_take, List.length_drop, Array.length_toList]
    omega
  · simp only [h5, Nat.add_zero]
    subst h6
    have t1 : (Pre ++ (L ++ R)).take (off + Pre.length) = Pre ++ L.take off := by
      rw [List.take_append, List.take_of_length_le (by omega)]
      rw [show off + Pre.length - Pre.length = off from by omega, List.take_append_of_le_length (by omega)]
    have t2 : (Pre ++ (L ++ R)).drop (off + Pre.length + NEW.length) = L.drop (off + new.length) ++ R := by
      rw [List.drop_append, List.drop_of_length_le (by omega), List.nil_append]
      rw [show off + Pre.length + NEW.length - Pre.length = off + new.length from by omega, List.drop_append_of_le_length (by omega)]
    rw [t1, t2]
    simp [List.append_assoc]
theorem store_sound {t : TypeId} {b off : Nat} {v : AV} {V : Value} {H' : Hp} (h : storeA P H t b off v = some H') (hv : cv φ v = some V) {n N s : Nat} (hn : φ b = some (n, N, s)) :
    ∃ w', (storeVar t ⟨n, off + s, none⟩ V).run P w = .ok () w' ∧ Post φ H w φ H' w' := by
  unfold storeA at h
  cases hz : sizeA P t with
  | none => rw [hz] at h; simp at h
  | some z =>
    cases hb : H.get b with
    | none => rw [hz, hb] at h; simp at h
    | some ob =>
      rw [hz, hb] at h
      cases ob <;> (try simp only [reduceCtorEq] at h)
      rename_i e o c
      simp only [beq_dec] at h
      split at h
      · rename_i g1 g2
        simp only [decide_eq_true_eq] at g1
        cases hs : splice (cellsA v) off c with
        | none => rw [hs] at h; simp at h
        | some c' =>
          rw [hs] at h; simp at h; subst h
          have hcv := cells_sound hv
          obtain ⟨w', r, post⟩ := splice_store (P := P) hH hb hs hcv g2 hn
          refine ⟨w', ?_, post⟩
          have hl : V.cells.size = z := by
            have := cvL_length hcv
            simp at this; omega
          simp [storeVar, run_size1 w hz, hl, r]
      · simp at h
end

/-! ### maps -/
theorem setEn_sound {P : Program} {φ : Phi} {kt : TypeId} {kd : TypeDesc} (hkd : P.underlying kt = some kd) {k v : AV} {K V : Value} (hk : cv φ k = some K) (hv : cv φ v = some V) (hp : plainKey kd k = true) {clock : Nat} :
    ∀ {es es' : List En} {ES : List MapEntry} {c' : Nat} (i : Nat), setEn P kt k v clock es = some (es', c') → cvEs φ es = some ES →
      ∃ ES', cvEs φ es' = some ES' ∧ ((Instr.findNow kd K ES i = some none ∧ ES' = ES ++ [⟨K, V, clock⟩] ∧ c' = clock + 1) ∨
        (∃ j old u, Instr.findNow kd K ES i = some (some (i + j, u)) ∧ ES[j]? = some old ∧ Instr.sameNow kd K old.key = some true ∧ ES' = ES.set j { old with key := K, val := V } ∧ c' = clock))
  | [], es', ES, c', i, h, he => by
    simp [cvEs] at he; subst he
    simp [setEn] at h
    obtain ⟨rfl, rfl⟩ := h
    exact ⟨[⟨K, V, clock⟩], by simp [cvEs, cvEn, hk, hv], .inl ⟨rfl, rfl, rfl⟩⟩
  | e :: es, es', ES, c', i, h, he => by
    obtain ⟨k', v', M, hk', hv', hm, rfl⟩ := cvEs_cons.1 he
    simp only [setEn] at h
    cases hq : aeq P 60 kt k e.key with
    | none => rw [hq] at h; simp at h
    | some b =>
      rw [hq] at h
      have hsame : Instr.sameNow kd K k' = some b := by
        simp only [aeq, hkd] at hq
        cases kd <;> cases k <;> simp only [plainKey, reduceCtorEq] at hp
        case int.int kk a x =>
          obtain rfl := cv_int hk
          cases hkey : e.key <;> rw [hkey] at hq hk' <;> simp only [reduceCtorEq] at hq
          rename_i a' y
          obtain rfl := cv_int hk'
          cases hkq : keq a a' with
          | false => rw [hkq] at hq; simp at hq
          | true =>
            rw [hkq] at hq
            obtain rfl := (keq_iff _ _).1 hkq
            simp at hq; subst hq
            simp only [Instr.sameNow, if_true, ieq_eq]
            congr 1
        case string.str s =>
          obtain ⟨rfl, hs⟩ := cv_str hk
          cases hkey : e.key <;> rw [hkey] at hq hk' <;> simp only [reduceCtorEq] at hq
          rename_i s'
          obtain ⟨rfl, hs'⟩ := cv_str hk'
          simp at hq; subst hq
          simp only [Instr.sameNow]
          rw [beq_toListBytes, bytes_eq hs hs']
      cases b with
      | true =>
        simp at h
        obtain ⟨rfl, rfl⟩ := h
        refine ⟨⟨K, V, e.born⟩ :: M, by simp [cvEs, cvEn, hk, hv, hm], .inr ⟨0, ⟨k', v', e.born⟩, v', ?_, rfl, hsame, rfl, rfl⟩⟩
        simp [Instr.findNow, hsame]
      | false =>
        simp only at h
        cases hr : setEn P kt k v clock es with
        | none => rw [hr] at h; simp at h
        | some x =>
          obtain ⟨r, c⟩ := x
          rw [hr] at h
          simp only [Option.some.injEq, Prod.mk.injEq] at h
          obtain ⟨rfl, rfl⟩ := h
          obtain ⟨ES', h1, h2⟩ := setEn_sound hkd hk hv hp (i + 1) hr hm
          refine ⟨⟨k', v', e.born⟩ :: ES', by simp [cvEs, cvEn, hk', hv', h1], ?_⟩
          rcases h2 with ⟨g1, g2, g3⟩ | ⟨j, old, u, g1, g2, g3, g4, g5⟩
          · refine .inl ⟨by simp only [Instr.findNow, hsame]; exact g1, by rw [g2]; rfl, g3⟩
          · refine .inr ⟨j + 1, old, u, by simp only [Instr.findNow, hsame]; rw [g1]; congr 3; omega, by simpa using g2, g3, by rw [g4]; rfl, g5⟩
theorem sameBits_now {kd : TypeDesc} {K k : Value} (h : Instr.sameNow kd K k = some true) : Instr.sameBits 10000 k K = true := by
  unfold Instr.sameNow at h
  split at h
  · split at h
    · rename_i e; subst e; simp at h; subst h; simp [Instr.sameBits]
    · simp at h
  · simp only [Option.some.injEq] at h
    rename_i a b
    have e : a = b := by
      rw [beq_toListBytes, ByteArray.toList_eq, ByteArray.toList_eq] at h
      have : a.data.toList = b.data.toList := by simpa using h
      exact ByteArray.ext (Array.toList_inj.1 this)
    subst e
    simp only [Instr.sameBits]
    rw [beq_toListBytes]; simp
  · simp at h; subst h; simp [Instr.sameBits]
  · simp at h
theorem update_sound {P : Program} {φ : Phi} {H : Hp} {w : World} (hH : HRel φ H w) {t kt et : TypeId} (hu : P.underlying t = some (.map kt et)) {kd : TypeDesc} (hkd : P.underlying kt = some kd) {b n clk c' : Nat} {x : Nat × Nat} {es es' : List En} {k v : AV} {K V : Value}
    (hb : φ b = some (n, x)) (hg : H.get b = some (.map es clk)) (hk : cv φ k = some K) (hv : cv φ v = some V) (hp : plainKey kd k = true) (hs : setEn P kt k v clk es = some (es', c')) :
    ∃ w', (Instr.mapUpdate t (.map (some n)) K V).run P w = .ok () w' ∧ Post φ H w φ (H.put b (.map es' c')) w' := by
  obtain ⟨n', N, s, r1, ES, r2, r3⟩ := hH.live b _ hg
  rw [hb] at r1
  simp only [Option.some.injEq, Prod.mk.injEq] at r1
  obtain ⟨rfl, rfl⟩ := r1
  obtain ⟨ES', h1, h2⟩ := setEn_sound hkd hk hv hp 0 hs r2
  have hlt : n < w.heap.size := (Array.getElem?_eq_some_iff.1 r3).1
  have hgo : (getObj n).run P w = .ok (.map ES.toArray clk) w := by simp [getObj, Sem.run, r3]
  have hck := checkKey_plain (P := P) hkd hk hp false w
  have fin : ∀ (obj : Obj), obj = .map ES'.toArray c' → (Instr.mapUpdate t (.map (some n)) K V).run P w = .ok () { w with heap := w.heap.setIfInBounds n obj } →
      ∃ w', (Instr.mapUpdate t (.map (some n)) K V).run P w = .ok () w' ∧ Post φ H w φ (H.put b (.map es' c')) w' := by
    intro obj hobj hr
    refine ⟨_, hr, HRel.update (obj := obj) hH hg hb (fun j => ?_) ⟨ES', h1, congrArg some hobj⟩ rfl rfl rfl (by simp)⟩
    simp only [Array.getElem?_setIfInBounds]
    by_cases e : n = j
    · subst e; simp [hlt]
    · rw [if_neg e, if_neg (fun h => e h.symm)]
  rcases h2 with ⟨g1, g2, g3⟩ | ⟨j, old, u, g1, g2, g3, g4, g5⟩
  · refine fin (.map (ES.toArray.push ⟨K, V, clk⟩) (clk + 1)) (by rw [g2, g3]; simp) ?_
    have hf : (Instr.findKey kt K ES).run P w = .ok none w := by simp [Instr.findKey, run_underlying1 w hkd, g1]
    simp only [Instr.mapUpdate, Sem.run_bind, run_underlying1 w hu, Result.andThen_ok, hgo, hck, hf]
    simp [setObj, Sem.run, r3]
  · have hf : (Instr.findKey kt K ES).run P w = .ok (some (j, u)) w := by
      have g1' : Instr.findNow kd K ES 0 = some (some (j, u)) := by rw [g1]; simp
      simp [Instr.findKey, run_underlying1 w hkd, g1']
    have hstay : (Instr.keyThatStays (((ES.toArray[j]?).map (·.key)).getD K) K).run P w = .ok K w := by
      simp only [List.getElem?_toArray, g2, Option.map_some, Option.getD_some, Instr.keyThatStays, sameBits_now g3, if_true, Sem.run_pure]
    refine fin (.map (ES.toArray.modify j fun e => { e with key := K, val := V }) clk) ?_ ?_
    · rw [g4, g5]
      congr 1
      apply Array.ext_getElem?
      intro q
      rw [Array.getElem?_modify]
      simp only [List.getElem?_toArray, List.getElem?_set]
      have hj : j < ES.length := (List.getElem?_eq_some_iff.1 g2).1
      by_cases e : j = q
      · subst e
        have e1 : ES[j] = old := (List.getElem?_eq_some_iff.1 g2).2
        simp [hj, e1]
      · simp [e]
    · simp only [Instr.mapUpdate, Sem.run_bind, run_underlying1 w hu, Result.andThen_ok, hgo, hck, hf, hstay]
      simp [setObj, Sem.run, r3]
end Go.Ae
