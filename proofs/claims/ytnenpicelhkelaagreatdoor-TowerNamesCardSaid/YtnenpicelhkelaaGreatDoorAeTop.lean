/-
  A part of an evaluator of translated programs, and of the proof that what it answers is what the model says; no condition.
-/
import Derived.Test.YtnenpicelhkelaaGreatDoorAeCode2
namespace Go.Ae
set_option linter.unusedVariables false
set_option linter.unusedSimpArgs false

theorem leave_sound {P : Program} {K : Hook} (hK : HookOk P K) {fn : Func} {tmps : Array Value} {Rp : Ending → World → Prop} : ∀ {D : List ADef} {ds : List Deferred} {H H' : Hp} {φ : Phi} {w : World}, leaveA P K D H = some H' → DRel φ D ds → HRel φ H w →
    (∀ φ' w', Post φ H w φ' H' w' → ∃ v, (results fn tmps).run P w' = .ok v w' ∧ Rp (.returned v) w') → LeavesInM Fence.wide 0 P fn tmps Rp ds .returning w
  | [], ds, H, H', φ, w, h, hd, hH, hq => by
    simp only [leaveA, Option.some.injEq] at h
    subst h
    have : ds = [] := hd
    subst this
    exact hq φ w (Post.refl hH)
  | .mark b :: D, ds, H, H', φ, w, h, hd, hH, hq => by
    obtain ⟨x, r, hx, hr, rfl⟩ := hd
    simp only [leaveA] at h
    split at h
    · rename_i hg
      obtain ⟨n, N, s, hn, ho⟩ := hH.live b _ hg
      have hw : w.heap[n]? = some (.deferred (some [])) := ho
      simp only [cvD, hn, Option.some.injEq] at hx
      subst hx
      have hlt : n < w.heap.size := (Array.getElem?_eq_some_iff.1 hw).1
      have pp : Post φ H w φ (H.put b (.deferred false)) { w with heap := w.heap.setIfInBounds n (.deferred none) } := by
        refine HRel.update (obj := .deferred none) hH hg hn (fun j => ?_) rfl rfl rfl rfl (by simp)
        simp only [Array.getElem?_setIfInBounds]
        by_cases e : n = j
        · subst e; simp [hlt]
        · rw [if_neg e, if_neg (fun h => e h.symm)]
      refine ⟨by simp, .inl ⟨n, { w with heap := w.heap.setIfInBounds n (.deferred none) }, rfl, ?_, leave_sound hK h hr pp.rel (fun φ' w' p => hq φ' w' (pp.trans p))⟩⟩
      simp [Instr.takeDeferred, getObj, setObj, Sem.run, hw]
    · cases h
  | .call f cap args :: D, ds, H, H', φ, w, h, hd, hH, hq => by
    obtain ⟨x, r, hx, hr, rfl⟩ := hd
    simp only [leaveA] at h
    split at h
    · rename_i g args' hinv
      cases hk : K.dfr g args' H with
      | none => rw [hk] at h; simp at h
      | some H1 =>
        rw [hk] at h
        simp only at h
        simp only [cvD] at hx
        cases h1 : cvL φ cap with
        | none => rw [h1] at hx; simp at hx
        | some C =>
          cases h2 : cvL φ args with
          | none => rw [h1, h2] at hx; simp at hx
          | some A =>
            rw [h1, h2] at hx
            simp only [Option.some.injEq] at hx
            subst hx
            obtain ⟨AA, hAA, hrun⟩ := invoke_sound hK hinv h1 h2 w
            refine ⟨by simp, .inr ⟨fun h => by simp [Fence.wide] at h, f, C.toArray, g, AA.toArray, rfl, hrun, fun _ _ => trivial, ?_⟩⟩
            refine hK.dfr g args' H H1 hk φ w AA hH hAA _ (fun φ1 w1 V p1 => ?_)
            exact leave_sound hK h (hr.mono p1.le) p1.rel (fun φ' w' p => hq φ' w' (p1.trans p))
    · cases h

def resOne (tmps : Array Value) : ResultVar → Sem Value
  | .tmp t => pure (tmps.getD t undef)
  | .cell a t => do loadVar t (← asAddr (tmps.getD a undef))
theorem results_eq (fn : Func) (tmps : Array Value) : results fn tmps = (do let vs ← fn.results.mapM (resOne tmps); pure (if h : vs.size = 1 then vs[0] else .tuple vs)) := by
  unfold results
  congr 1
theorem results_sound {P : Program} {F : Fr} {H : Hp} {φ : Phi} {tmps : Array Value} {w : World} (hF : TRel φ F tmps) (hH : HRel φ H w) : ∀ {rs : List ResultVar} {l : List AV}, resultsA P F H rs = some l →
    ∃ L, cvL φ l = some L ∧ (rs.mapM (resOne tmps)).run P w = .ok L w
  | [], l, h => by
    simp only [resultsA, Option.some.injEq] at h
    subst h
    exact ⟨[], rfl, by simp⟩
  | .tmp t :: rs, l, h => by
    simp only [resultsA] at h
    split at h
    · rename_i v r hv hr
      simp only [Option.some.injEq] at h
      subst h
      obtain ⟨L, hL, rL⟩ := results_sound hF hH hr
      obtain ⟨V, hV, ht⟩ := hF.2 t v hv
      have hg : tmps.getD t undef = V := by simp [ht]
      exact ⟨V :: L, cvL_mk hV hL, by simp only [List.mapM_cons, resOne, Sem.run_bind, Sem.run_pure, Result.andThen_ok, rL, hg]⟩
    · cases h
  | .cell a t :: rs, l, h => by
    simp only [resultsA] at h
    split at h
    · rename_i b off r hv hr
      cases hl : loadA P H t b off with
      | none => rw [hl] at h; simp at h
      | some v =>
        rw [hl] at h
        simp only [Option.some.injEq] at h
        subst h
        obtain ⟨L, hL, rL⟩ := results_sound hF hH hr
        obtain ⟨X, hX, ht⟩ := hF.2 a _ hv
        obtain ⟨n, N, s, hb, rfl⟩ := cv_ptr hX
        obtain ⟨V, hV, rV⟩ := load_sound (P := P) hH hl hb
        have hg : tmps.getD a undef = .pointer (some ⟨n, off + s, none⟩) := by simp [ht]
        exact ⟨V :: L, cvL_mk hV hL, by simp only [List.mapM_cons, resOne, Sem.run_bind, Sem.run_pure, Result.andThen_ok, rL, hg, asAddr, rV]⟩
    · cases h

theorem putArgs_get : ∀ {l : List AV} {i : Nat} {t : T AV} {x : Nat}, (putArgs l i t).get x = if i ≤ x ∧ x < i + l.length then l[x - i]? else t.get x
  | [], i, t, x => by simp [putArgs]; omega
  | v :: l, i, t, x => by
    simp only [putArgs]
    rw [putArgs_get, T.get_put]
    by_cases h : i + 1 ≤ x ∧ x < i + 1 + l.length
    · rw [if_pos h, if_pos (by simp; omega)]
      rw [show x - i = (x - (i + 1)) + 1 from by omega]
      simp
    · rw [if_neg h]
      by_cases e : x = i
      · subst e; simp
      · rw [if_neg e, if_neg (by simp at h ⊢; omega)]

theorem call_sound {P : Program} {K : Hook} {R : Rec} (hK : HookOk P K) (hR : RecOk P R) {f : FuncId} {args : List AV} {H : Hp} {v : AV} {H' : Hp} (h : callA P K R f args H = some (v, H')) : CallOk P f args H v H' := by
  intro φ w A hH hA Rp hq
  unfold callA at h
  cases hf : P.funcs[f]? with
  | none => rw [hf] at h; simp at h
  | some fn =>
    rw [hf] at h
    simp only at h
    cases hb : fn.body with
    | none => rw [hb] at h; simp at h
    | some c =>
      rw [hb] at h
      simp only at h
      have hcode : ∃ e F' D H1 H2 l, R.code none c f { size := Nat.max args.length fn.ntmps, t := putArgs args 0 .leaf } [] H = some (e, F', D, H1) ∧ (∀ id, e ≠ .exit id) ∧ leaveA P K D H1 = some H2 ∧ resultsA P F' H2 fn.results.toList = some l ∧ oneOr l = v ∧ H2 = H' := by
        split at h
        · rename_i e F' D H1 hc
          have hne : ∀ id, e ≠ .exit id := by
            intro id e'; subst e'; simp at h
          have h' : (match leaveA P K D H1 with
              | some H'' => (match resultsA P F' H'' fn.results.toList with
                | some l => some (oneOr l, H'')
                | none => none)
              | none => none) = some (v, H') := by
            cases e with
            | exit id => exact absurd rfl (hne id)
            | normal => exact h
            | ret => exact h
          cases hl : leaveA P K D H1 with
          | none => rw [hl] at h'; simp at h'
          | some H2 =>
            rw [hl] at h'
            simp only at h'
            cases hr : resultsA P F' H2 fn.results.toList with
            | none => rw [hr] at h'; simp at h'
            | some l =>
              rw [hr] at h'
              simp only [Option.some.injEq, Prod.mk.injEq] at h'
              exact ⟨e, F', D, H1, H2, l, hc, hne, hl, hr, h'.1, h'.2⟩
        · cases h
      obtain ⟨e, F', D, H1, H2, l, hc, hne, hl, hr, rfl, rfl⟩ := hcode
      refine callsIn_of_wp_marks hf hb trivial ?_
      have hlen := cvL_length hA
      refine (hR.code _ _ _ _ _ _ _ _ _ _ hc φ w ⟨A.toArray ++ Array.replicate (fn.ntmps - A.toArray.size) undef, []⟩ Fence.wide hH ⟨?_, fun t x ht => ?_⟩ rfl rfl _ (fun φ1 w1 a1 p1 hF1 hD1 => ?_)).wpIn
      · simp only [Array.size_append, List.size_toArray, Array.size_replicate, hlen]
        show _ = max _ _
        omega
      · rw [putArgs_get] at ht
        by_cases hx : 0 ≤ t ∧ t < 0 + args.length
        · rw [if_pos hx] at ht
          obtain ⟨V, hV, hg⟩ := cvL_get hA ht
          refine ⟨V, hV, ?_⟩
          simp only [Nat.sub_zero] at hg
          rw [Array.getElem?_append_left (by simp; omega)]
          simpa using hg
        · rw [if_neg hx, T.get_leaf] at ht; cases ht
      · have fin : LeavesInM Fence.wide 0 P fn a1.tmps Rp a1.defers .returning w1 := by
          refine leave_sound hK hl hD1 p1.rel (fun φ2 w2 p2 => ?_)
          obtain ⟨L, hL, rL⟩ := results_sound (hF1.mono p2.le) p2.rel hr
          have hone : ∃ V, cv φ2 (oneOr l) = some V ∧ (results fn a1.tmps).run P w2 = .ok V w2 := by
            have hm : (results fn a1.tmps).run P w2 = .ok (if h : L.toArray.size = 1 then L.toArray[0] else .tuple L.toArray) w2 := by
              rw [results_eq, Array.mapM_eq_mapM_toList]
              simp only [Sem.run_bind, Sem.run_map, rL, Result.andThen_ok, Sem.run_pure]
            refine ⟨_, ?_, hm⟩
            have hll := cvL_length hL
            match l, L, hL, hll with
            | [], [], _, _ => rfl
            | [x], [X], hL, _ =>
              obtain ⟨Y, r, h1, h2, h3⟩ := cvL_cons.1 hL
              simp [cvL] at h2; subst h2
              simp at h3; subst h3
              simpa [oneOr] using h1
            | x :: y :: l', X :: Y :: L', hL, _ =>
              simp [oneOr, cv, hL]
          obtain ⟨V, hV, rV⟩ := hone
          exact ⟨V, rV, hq φ2 w2 V (p1.trans p2) hV⟩
        cases e with
        | normal => exact fin
        | ret => exact fin
        | exit id => exact absurd rfl (hne id)

theorem run_ok {P : Program} {K : Hook} (hm : P.follows .mixedOrders = true) (hK : HookOk P K) : ∀ n, RecOk P (run P K n)
  | 0 => ⟨fun f args H v H' h => by simp [run, none3] at h, fun l args H v H' h => by simp [run, none3] at h, fun ro c f F D H e F' D' H' h => by simp [run, none3] at h⟩
  | n + 1 => by
    have ih := run_ok hm hK n
    exact ⟨fun f args H v H' h => call_sound hK ih h, fun l args H v H' h => round_sound ih h, fun ro c f F D H e F' D' H' h => code_sound hm hK ih h⟩
end Go.Ae
