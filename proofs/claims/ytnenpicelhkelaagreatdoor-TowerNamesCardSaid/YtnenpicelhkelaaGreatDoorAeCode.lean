/-
  A part of an evaluator of translated programs, and of the proof that what it answers is what the model says; no condition.
-/
import Derived.Test.YtnenpicelhkelaaGreatDoorAeDraw4
namespace Go.Ae
set_option linter.unusedVariables false
set_option linter.unusedSimpArgs false

/-! ### the loop's record -/
theorem live_loop {φ : Phi} {H : Hp} {w : World} (hH : HRel φ H w) {l : Nat} {st : LoopState} {pend : Option Code} {f : FuncId} {F : Fr} {ps : List Tmp} {as bo : Code} {r : Nat} (hg : H.get l = some (.loop st pend f F ps as bo r)) {ln : Nat} {x : Nat × Nat} (hl : φ l = some (ln, x)) :
    ∃ tmps rn y fn', TRel φ F tmps ∧ φ r = some (rn, y) ∧ w.heap[ln]? = some (.loop ⟨st, pend, fn', tmps, ps.toArray, as, bo, rn⟩) := by
  obtain ⟨n, N, s, h1, tmps, rn, y, fn', h2, h3, h4⟩ := hH.live l _ hg
  rw [hl] at h1
  simp only [Option.some.injEq, Prod.mk.injEq] at h1
  obtain ⟨rfl, _⟩ := h1
  exact ⟨tmps, rn, y, fn', h2, h3, h4⟩
theorem run_getLoop {P : Program} {w : World} {ln : Nat} {L : Loop} (h : w.heap[ln]? = some (.loop L)) : (Instr.getLoop ln).run P w = .ok L w := by
  simp [Instr.getLoop, getObj, Sem.run, h]
theorem run_setLoop {P : Program} {w : World} {ln : Nat} {L L' : Loop} (h : w.heap[ln]? = some (.loop L)) : (setObj ln (.loop L')).run P w = .ok () { w with heap := w.heap.setIfInBounds ln (.loop L') } := by
  simp [setObj, Sem.run, h]
/-- The record's mark and its pending jump are changed. -/
theorem loop_set {φ : Phi} {H : Hp} {w : World} (hH : HRel φ H w) {l : Nat} {st st' : LoopState} {pend pend' : Option Code} {f f' : FuncId} {F : Fr} {ps : List Tmp} {as bo : Code} {r : Nat} (hg : H.get l = some (.loop st pend f F ps as bo r)) {ln : Nat} {x : Nat × Nat} (hl : φ l = some (ln, x))
    {tmps : Array Value} {rn : Nat} {y : Nat × Nat} {fn' : FuncId} (hT : TRel φ F tmps) (hr : φ r = some (rn, y)) (hw : w.heap[ln]? = some (.loop ⟨st, pend, fn', tmps, ps.toArray, as, bo, rn⟩)) :
    Post φ H w φ (H.put l (.loop st' pend' f' F ps as bo r)) { w with heap := w.heap.setIfInBounds ln (.loop ⟨st', pend', fn', tmps, ps.toArray, as, bo, rn⟩) } := by
  obtain ⟨N, s⟩ := x
  have hlt : ln < w.heap.size := (Array.getElem?_eq_some_iff.1 hw).1
  refine HRel.update (obj := .loop ⟨st', pend', fn', tmps, ps.toArray, as, bo, rn⟩) hH hg hl (fun j => ?_) ⟨tmps, rn, y, fn', hT, hr, rfl⟩ rfl rfl rfl (by simp)
  simp only [Array.getElem?_setIfInBounds]
  by_cases e : ln = j
  · subst e; simp [hlt]
  · rw [if_neg e, if_neg (fun h => e h.symm)]
theorem zipPut_sound {φ : Phi} : ∀ {ps : List Tmp} {args : List AV} {F F1 : Fr} {tmps : Array Value} {A : List Value}, zipPut F ps args = some F1 → TRel φ F tmps → cvL φ args = some A →
    A.length = ps.length ∧ TRel φ F1 ((ps.zip A).foldl (fun tmps (t, a) => tmps.setIfInBounds t a) tmps)
  | [], [], F, F1, tmps, A, h, hF, hA => by
    simp only [zipPut, Option.some.injEq] at h
    subst h
    simp [cvL] at hA; subst hA
    exact ⟨rfl, hF⟩
  | t :: ps, v :: vs, F, F1, tmps, A, h, hF, hA => by
    simp only [zipPut] at h
    cases hp : F.put t v with
    | none => rw [hp] at h; simp at h
    | some F2 =>
      rw [hp] at h
      obtain ⟨V, r, hV, hr, rfl⟩ := cvL_cons.1 hA
      have := put_sound (a := ⟨tmps, []⟩) hF (dst := some t) (v := v) hp hV
      obtain ⟨h1, h2⟩ := zipPut_sound h this hr
      exact ⟨by simp [h1], h2⟩
  | [], _ :: _, F, F1, tmps, A, h, hF, hA => by simp [zipPut] at h
  | _ :: _, [], F, F1, tmps, A, h, hF, hA => by simp [zipPut] at h

theorem round_sound {P : Program} {R : Rec} (hR : RecOk P R) {l : Nat} {args : List AV} {H : Hp} {v : AV} {H' : Hp} (h : roundA R l args H = some (v, H')) : RoundOk P l args H v H' := by
  intro φ w A ln x hH hA hl Rp hq
  unfold roundA at h
  split at h
  · rename_i pend f F ps as bo r hg
    obtain ⟨tmps, rn, y, fn', hT, hr, hw⟩ := live_loop hH hg hl
    cases hz : zipPut F ps args with
    | none => rw [hz] at h; simp at h
    | some F1 =>
      rw [hz] at h
      simp only at h
      obtain ⟨hlen, hF1⟩ := zipPut_sound hz hT hA
      refine ⟨fn', ((ps.toArray.zip A.toArray).foldl (fun tmps (t, a) => tmps.setIfInBounds t a) tmps), as, bo, ?_, ?_⟩
      · simp only [Instr.yield, Sem.run_bind, run_getLoop hw, Result.andThen_ok]
        simp [hlen]
      · have hcode : ∃ F2 H2, R.code (some l) as f F1 [] H = some (.normal, F2, [], H2) ∧ (match H2.get l with
            | some (.loop .ready pend' f' F' ps' as' bo' r') =>
              (match R.code (some l) bo f F2 [] (H2.put l (.loop .busy pend' f' F' ps' as' bo' r')) with
                | some (e, _, [], H3) => (match H3.get l with
                  | some (.loop _ _ f3 F3 ps3 as3 bo3 r3) => (match e with
                    | .normal => some (.bool true, H3.put l (.loop .ready none f3 F3 ps3 as3 bo3 r3))
                    | .ret => some (.bool false, H3.put l (.loop .done (some .ret) f3 F3 ps3 as3 bo3 r3))
                    | .exit id => some (.bool false, H3.put l (.loop .done (some (.exit id)) f3 F3 ps3 as3 bo3 r3)))
                  | _ => none)
                | _ => none)
            | _ => none) = some (v, H') := by
          split at h
          · rename_i F2 H2 hc
            refine ⟨F2, H2, hc, ?_⟩
            exact h
          · cases h
        obtain ⟨F2, H2, hc, h⟩ := hcode
        refine roundIn_of_wpIn trivial ?_
        have hc' := hR.code _ _ _ _ _ _ _ _ _ _ hc
        have hzip : (ps.toArray.zip A.toArray).foldl (fun tmps (t, a) => tmps.setIfInBounds t a) tmps = (ps.zip A).foldl (fun tmps (t, a) => tmps.setIfInBounds t a) tmps := by simp
        refine (hc' φ w ⟨_, []⟩ (Fence.wide.inRound ln) hH (by rw [hzip]; exact hF1) rfl ⟨ln, x, hl, rfl⟩ _ (fun φ2 w2 a2 post2 hF2 hD2 => ?_)).wpIn
        simp only [cvE, Exit.then]
        split at h
        · rename_i pend' f' F' ps' as' bo' r' hg2
          have hl2 := post2.le _ _ hl
          obtain ⟨tmps2, rn2, y2, fn2, hT2, hr2, hw2⟩ := live_loop post2.rel hg2 hl2
          have pb := loop_set (st' := .busy) (pend' := pend') (f' := f') post2.rel hg2 hl2 hT2 hr2 hw2
          refine ⟨{ w2 with heap := w2.heap.setIfInBounds ln (.loop ⟨.busy, pend', fn2, tmps2, ps'.toArray, as', bo', rn2⟩) }, ?_, ?_⟩
          · simp only [Instr.beginRound, Sem.run_bind, run_getLoop hw2, Result.andThen_ok, run_setLoop hw2, Sem.run_pure]
          · split at h
            · rename_i e F3 H3 hb
              have hb' := hR.code _ _ _ _ _ _ _ _ _ _ hb
              refine (hb' φ2 _ a2 (Fence.wide.inRound ln) pb.rel hF2 hD2 ⟨ln, x, hl2, rfl⟩ _ (fun φ3 w3 a3 post3 hF3 hD3 => ?_)).wpIn
              split at h
              · rename_i st3 pend3 f3 F3' ps3 as3 bo3 r3 hg3
                have hl3 := post3.le _ _ hl2
                obtain ⟨tmps3, rn3, y3, fn3, hT3, hr3, hw3⟩ := live_loop post3.rel hg3 hl3
                have pp := (post2.trans pb).trans post3
                have fin : ∀ (st' : LoopState) (pend' : Option Code) (jump : Option Code) (V : Value), pend' = jump → st' = (if jump.isNone then .ready else .done) → V = .bool jump.isNone → cv φ3 v = some V → H' = H3.put l (.loop st' pend' f3 F3' ps3 as3 bo3 r3) →
                    ∃ v w', (Instr.endRound ln jump).run P w3 = .ok v w' ∧ Rp (.returned v) w' := by
                  intro st' pend' jump V e1 e2 e3 hv e4
                  subst e1 e2 e3
                  refine ⟨_, { w3 with heap := w3.heap.setIfInBounds ln (.loop ⟨_, _, fn3, tmps3, ps3.toArray, as3, bo3, rn3⟩) }, ?_, hq φ3 _ _ (pp.trans (by rw [e4]; exact loop_set (f' := f3) post3.rel hg3 hl3 hT3 hr3 hw3)) hv⟩
                  simp only [Instr.endRound, Sem.run_bind, run_getLoop hw3, Result.andThen_ok, run_setLoop hw3, Sem.run_pure]
                cases e with
                | normal =>
                  simp only [Option.some.injEq, Prod.mk.injEq] at h
                  obtain ⟨rfl, rfl⟩ := h
                  exact fin .ready none none _ rfl rfl rfl (by simp [cv]) rfl
                | ret =>
                  simp only [Option.some.injEq, Prod.mk.injEq] at h
                  obtain ⟨rfl, rfl⟩ := h
                  exact fin .done (some .ret) (some .ret) _ rfl rfl rfl (by simp [cv]) rfl
                | exit id =>
                  simp only [Option.some.injEq, Prod.mk.injEq] at h
                  obtain ⟨rfl, rfl⟩ := h
                  exact fin .done (some (.exit id)) (some (.exit id)) _ rfl rfl rfl (by simp [cv]) rfl
              · cases h
            · cases h
        · cases h
  · cases h
end Go.Ae
