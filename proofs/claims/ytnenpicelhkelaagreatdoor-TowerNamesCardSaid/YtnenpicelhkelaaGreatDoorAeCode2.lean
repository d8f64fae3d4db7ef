/-
  A part of an evaluator of translated programs, and of the proof that what it answers is what the model says; no condition.
-/
import Derived.Test.YtnenpicelhkelaaGreatDoorAeCode
import Derived.Scope
namespace Go.Ae
set_option linter.unusedVariables false
set_option linter.unusedSimpArgs false

theorem mark_put {φ : Phi} {H : Hp} {w : World} (hH : HRel φ H w) : Post φ H w (ext φ H.next w.heap.size 0 0) (H.new (.deferred true)) { w with heap := w.heap.push (.deferred (some [])) } :=
  HRel.alloc (N := 0) (s := 0) hH (Nat.le_refl _) rfl (Hp.get_new H _) (by simp [Hp.new]) (by simp [Hp.new]) rfl rfl rfl rfl

theorem range_sound {P : Program} {K : Hook} {R : Rec} (hK : HookOk P K) (hR : RecOk P R) {ro : Option Nat} {g : Operand} {ps : Array Tmp} {assign body : Code} {f : FuncId} {F F' : Fr} {D D' : List ADef} {H H' : Hp} {e : Ex}
    (h : codeA P K R ro (.rangeFunc g ps assign body) f F D H = some (e, F', D', H')) : CodeOk P ro (.rangeFunc g ps assign body) F D H e F' D' H' := by
  intro φ w a FN hH hF hD hFN Q hq
  show (Code.rangeFunc g ps assign body).wpIn FN 0 P Q a w
  unfold codeA at h
  simp only at h
  split at h
  · rename_i fn first cap hgv
    obtain ⟨G, hG, eg⟩ := eval_sound hF hgv
    obtain ⟨A, B, hA, hB, rfl⟩ := cv_func hG
    refine wpIn_rangeFunc fun fnid _ => ?_
    -- the record
    have hopen : ∃ r D1 H1, (match ro with
        | some l => (match H.get l with | some (.loop _ _ _ _ _ _ _ r) => some (r, D, H) | _ => none)
        | none => some (H.next, .mark H.next :: D, H.new (.deferred true))) = some (r, D1, H1) ∧
        (match invokeA P K fn cap (first ++ [.yieldf H1.next]) with
            | some (.enter g args) => (match R.call g args (H1.new (.loop .ready none f F ps.toList assign body r)) with
              | some (_, H3) => (match H3.get H1.next with
                | some (.loop st pend f' F' ps' as' bo' r') => (match st with
                  | .busy => none
                  | _ =>
                    match pend with
                    | none => some (.normal, F, D1, H3.put H1.next (.loop .exhausted pend f' F' ps' as' bo' r'))
                    | some .ret => some (.ret, F, D1, H3.put H1.next (.loop .exhausted pend f' F' ps' as' bo' r'))
                    | some (.exit id) => some (.exit id, F, D1, H3.put H1.next (.loop .exhausted pend f' F' ps' as' bo' r'))
                    | some _ => none)
                | _ => none)
              | none => none)
            | _ => none) = some (e, F', D', H') := by
      split at h
      · rename_i r D1 H1 he
        exact ⟨r, D1, H1, he, h⟩
      · cases h
    obtain ⟨r, D1, H1, ho, h⟩ := hopen
    have henter : ∃ φ1 w1 rn y mark, Post φ H w φ1 H1 w1 ∧ φ1 r = some (rn, y) ∧ DRel φ1 D1 (mark ++ a.defers) ∧
        (Instr.enterLoop fnid a.tmps ps assign body FN.round).run P w = .ok (w1.heap.size, mark) { w1 with heap := w1.heap.push (.loop ⟨.ready, none, fnid, a.tmps, ps, assign, body, rn⟩) } := by
      cases ro with
      | none =>
        simp only [Option.some.injEq, Prod.mk.injEq] at ho
        obtain ⟨rfl, rfl, rfl⟩ := ho
        have hFN' : FN = Fence.wide := hFN
        subst hFN'
        have pm := mark_put hH
        refine ⟨_, _, w.heap.size, (0, 0), [{ target := .collected w.heap.size, args := #[] }], pm, ext_self _ _ _ _ _, ⟨{ target := .collected w.heap.size, args := #[] }, a.defers, by simp [cvD, ext_self], hD.mono pm.le, rfl⟩, ?_⟩
        simp only [Instr.enterLoop, Fence.wide, Sem.run_bind, run_newObj, Sem.run_pure, Result.andThen_ok]
      | some l =>
        simp only at ho
        split at ho
        · rename_i st pend f' F2 ps' as' bo' r' hg
          simp only [Option.some.injEq, Prod.mk.injEq] at ho
          obtain ⟨rfl, rfl, rfl⟩ := ho
          obtain ⟨ln, x, hl, rfl⟩ := hFN
          obtain ⟨tmps, rn, y, fn', hT, hr, hw⟩ := live_loop hH hg hl
          refine ⟨φ, w, rn, y, [], Post.refl hH, hr, by simpa using hD, ?_⟩
          simp only [Instr.enterLoop, Fence.inRound, Sem.run_bind, run_getLoop hw, run_newObj, Sem.run_pure, Result.andThen_ok]
        · cases ho
    obtain ⟨φ1, w1, rn, y, mark, p1, hr1, hD1, hrun⟩ := henter
    have p2 : Post φ1 H1 w1 (ext φ1 H1.next w1.heap.size 0 0) (H1.new (.loop .ready none f F ps.toList assign body r)) { w1 with heap := w1.heap.push (.loop ⟨.ready, none, fnid, a.tmps, ps, assign, body, rn⟩) } :=
      HRel.alloc (N := 0) (s := 0) p1.rel (Nat.le_refl _) rfl (Hp.get_new H1 _) (by simp [Hp.new]) (by simp [Hp.new])
        ⟨a.tmps, rn, y, fnid, (hF.mono p1.le).mono (ext_le (p1.rel.fresh _ (Nat.le_refl _))), ext_le (p1.rel.fresh _ (Nat.le_refl _)) _ _ hr1, by simp⟩ rfl rfl rfl
    have hyield : cv (ext φ1 H1.next w1.heap.size 0 0) (.yieldf H1.next) = some (.func (.yield w1.heap.size) #[] #[]) := by simp [cv, ext_self]
    split at h
    · rename_i g' args hinv
      have pl := p1.le.trans p2.le
      have hargs := cvL_append (cvL_mono pl _ _ hA) (cvL_mk hyield (show cvL _ [] = some [] from rfl))
      have hgo := invoke_sound hK hinv (cvL_mono pl _ _ hB) hargs { w1 with heap := w1.heap.push (.loop ⟨.ready, none, fnid, a.tmps, ps, assign, body, rn⟩) }
      obtain ⟨AA, hAA, hrun2⟩ := hgo
      cases hcall : R.call g' args (H1.new (.loop .ready none f F ps.toList assign body r)) with
      | none => rw [hcall] at h; simp at h
      | some q =>
        obtain ⟨v, H3⟩ := q
        rw [hcall] at h
        simp only at h
        refine ⟨w1.heap.size, mark, _, { target := .fn fn B.toArray, args := (A ++ [Value.func (.yield w1.heap.size) #[] #[]]).toArray }, _, g', AA.toArray, _, hrun, ?_, fun f' _ => hFN.fn f', hrun2, fun h => by rw [hFN.depth] at h; simp at h, ?_⟩
        · simp only [resolve, rangeCall, eg, Deferred.ofValue, Sem.run_pure]
          congr 2
          apply Array.ext'
          simp [Act.eval]
        · refine hFN.calls (hR.call _ _ _ _ _ hcall _ _ _ p2.rel hAA _ (fun φ3 w3 V p3 hv => ?_))
          split at h
          · rename_i st pend f' F2 ps' as' bo' r' hg3
            have hl3 := p3.le _ _ (ext_self φ1 H1.next w1.heap.size 0 0)
            obtain ⟨tmps3, rn3, y3, fn3, hT3, hr3, hw3⟩ := live_loop p3.rel hg3 hl3
            have pe := loop_set (st' := .exhausted) (pend' := pend) (f' := f') p3.rel hg3 hl3 hT3 hr3 hw3
            have hst : st ≠ .busy := by
              intro e; subst e; simp at h
            have hend : (Instr.endLoop w1.heap.size).run P w3 = .ok pend { w3 with heap := w3.heap.setIfInBounds w1.heap.size (.loop ⟨.exhausted, pend, fn3, tmps3, ps'.toArray, as', bo', rn3⟩) } := by
              have hb : (st == LoopState.busy) = false := by cases st <;> first | rfl | exact absurd rfl hst
              simp only [Instr.endLoop, Sem.run_bind, run_getLoop hw3, Result.andThen_ok, hb, Bool.false_eq_true, if_false, run_setLoop hw3, Sem.run_pure]
            have pt := ((p1.trans p2).trans p3).trans pe
            have hh : (match pend with
                    | none => some (Ex.normal, F, D1, H3.put H1.next (.loop .exhausted pend f' F2 ps' as' bo' r'))
                    | some .ret => some (.ret, F, D1, H3.put H1.next (.loop .exhausted pend f' F2 ps' as' bo' r'))
                    | some (.exit id) => some (.exit id, F, D1, H3.put H1.next (.loop .exhausted pend f' F2 ps' as' bo' r'))
                    | some _ => none) = some (e, F', D', H') := by
              cases st with
              | busy => exact absurd rfl hst
              | _ =>
                cases pend with
                | none => exact h
                | some c => cases c <;> exact h
            refine ⟨pend, _, hend, ?_⟩
            have fin : ∀ e', some (e', F, D1, H3.put H1.next (.loop .exhausted pend f' F2 ps' as' bo' r')) = some (e, F', D', H') → Q (cvE e') { a with defers := mark ++ a.defers } { w3 with heap := w3.heap.setIfInBounds w1.heap.size (.loop ⟨.exhausted, pend, fn3, tmps3, ps'.toArray, as', bo', rn3⟩) } := by
              intro e' he'
              simp only [Option.some.injEq, Prod.mk.injEq] at he'
              obtain ⟨rfl, rfl, rfl, rfl⟩ := he'
              exact hq _ _ _ pt (hF.mono pt.le) (hD1.mono (p2.le.trans (p3.le.trans pe.le)))
            cases pend with
            | none => exact fin _ hh
            | some c =>
              cases c <;> simp only [reduceCtorEq] at hh
              · exact wpIn_exit (fin _ hh)
              · exact wpIn_ret (fin _ hh)
          · cases h
    · cases h
  · cases h

theorem stepR_scope {P : Program} {b : Frame} {a : Act} {k : List Item} {cs : List Frame} {w : World} {c : Code} : step P (lone (b.atR a (.code (.scope c) :: k)) cs w) = .next (lone (b.atR a (.code c :: .inScope c :: k)) cs w) :=
  step_lone_go (by simp [stepG, stepG.exec, Frame.atR])
theorem stepR_inScope {P : Program} {b : Frame} {a : Act} {k : List Item} {cs : List Frame} {w : World} {c : Code} : step P (lone (b.atR a (.inScope c :: k)) cs w) = .next (lone (b.atR a k) cs w) :=
  step_lone_go (by simp [stepG, stepG.exec, Frame.atR])
theorem wpIn_scope {P : Program} {F : Fence} {c : Code} {Q : Exit → Act → World → Prop} {a : Act} {w : World} (h : c.wpIn F 0 P (Exit.noGoto Q) a w) : (Code.scope c).wpIn F 0 P Q a w := by
  intro b k cs hro hb hr
  have h0 : (lone (b.atR a (.code (.scope c) :: k)) cs w).fenced P F := fenced_calm hb hr rfl
  obtain ⟨e, a₁, w₁, hq, harr⟩ := h b (.inScope c :: k) cs hro hb hr
  cases e with
  | normal => exact ⟨.normal, a₁, w₁, hq, .head h0 stepR_scope (StepsIn.trans harr (.one (fenced_calm hb hr rfl) stepR_inScope))⟩
  | exit id =>
    have hx : exitTo id (.inScope c :: k) = exitTo id k := by simp [exitTo]
    exact ⟨.exit id, a₁, w₁, hq, fun k' hk => .head h0 stepR_scope (harr.1 k' (by rw [hx]; exact hk)),
      fun hr' hk => let ⟨k₁, h1, h2⟩ := harr.2 hr' (by rw [hx]; exact hk); ⟨k₁, h1, .head h0 stepR_scope h2⟩⟩
  | goto l => exact hq.elim
  | ret => exact ⟨_, a₁, w₁, hq, .of_steps (.one h0 stepR_scope) harr⟩
  | panic ch => exact ⟨_, a₁, w₁, hq, .of_steps (.one h0 stepR_scope) harr⟩
  | outgrown => exact ⟨_, a₁, w₁, hq, .of_steps (.one h0 stepR_scope) harr⟩

theorem code_sound {P : Program} {K : Hook} {R : Rec} (hm : P.follows .mixedOrders = true) (hK : HookOk P K) (hR : RecOk P R) {ro : Option Nat} {c : Code} {f : FuncId} {F F' : Fr} {D D' : List ADef} {H H' : Hp} {e : Ex}
    (h : codeA P K R ro c f F D H = some (e, F', D', H')) : CodeOk P ro c F D H e F' D' H' := by
  cases c with
  | skip =>
    simp only [codeA, Option.some.injEq, Prod.mk.injEq] at h
    obtain ⟨rfl, rfl, rfl, rfl⟩ := h
    intro φ w a FN hH hF hD hFN Q hq
    exact wpIn_skip (hq φ w a (Post.refl hH) hF hD)
  | label l =>
    simp only [codeA, Option.some.injEq, Prod.mk.injEq] at h
    obtain ⟨rfl, rfl, rfl, rfl⟩ := h
    intro φ w a FN hH hF hD hFN Q hq
    exact wpIn_label (hq φ w a (Post.refl hH) hF hD)
  | exit id =>
    simp only [codeA, Option.some.injEq, Prod.mk.injEq] at h
    obtain ⟨rfl, rfl, rfl, rfl⟩ := h
    intro φ w a FN hH hF hD hFN Q hq
    exact wpIn_exit (hq φ w a (Post.refl hH) hF hD)
  | ret =>
    simp only [codeA, Option.some.injEq, Prod.mk.injEq] at h
    obtain ⟨rfl, rfl, rfl, rfl⟩ := h
    intro φ w a FN hH hF hD hFN Q hq
    exact wpIn_ret (hq φ w a (Post.refl hH) hF hD)
  | region n ops draw =>
    cases draw with
    | false =>
      simp only [codeA] at h
      split at h
      · rename_i F1 D1 H1 ho
        simp only [Option.some.injEq, Prod.mk.injEq] at h
        obtain ⟨rfl, rfl, rfl, rfl⟩ := h
        exact region_sound hK hR ho
      · cases h
    | true =>
      simp only [codeA] at h
      split at h
      · rename_i F1 D1 H1 ho
        simp only [Option.some.injEq, Prod.mk.injEq] at h
        obtain ⟨rfl, rfl, rfl, rfl⟩ := h
        exact drawA_sound hK hR hm ho
      · cases h
  | seq x y =>
    simp only [codeA] at h
    intro φ w a FN hH hF hD hFN Q hq
    refine wpIn_seq ?_
    split at h
    · rename_i F1 D1 H1 hx
      refine (hR.code _ _ _ _ _ _ _ _ _ _ hx φ w a FN hH hF hD hFN _ (fun φ1 w1 a1 p1 hF1 hD1 => ?_)).wpIn
      exact (hR.code _ _ _ _ _ _ _ _ _ _ h φ1 w1 a1 FN p1.rel hF1 hD1 (hFN.mono p1.le) Q (fun φ2 w2 a2 p2 hF2 hD2 => hq φ2 w2 a2 (p1.trans p2) hF2 hD2)).wpIn
    · rename_i hne
      refine (hR.code _ _ _ _ _ _ _ _ _ _ h φ w a FN hH hF hD hFN _ (fun φ1 w1 a1 p1 hF1 hD1 => ?_)).wpIn
      cases e with
      | normal => exact absurd h (hne _ _ _)
      | exit id => exact hq φ1 w1 a1 p1 hF1 hD1
      | ret => exact hq φ1 w1 a1 p1 hF1 hD1
  | cond x y z =>
    simp only [codeA] at h
    intro φ w a FN hH hF hD hFN Q hq
    split at h
    · rename_i hx
      obtain ⟨V, hV, ev⟩ := eval_sound hF hx
      obtain rfl := cv_bool hV
      exact wpIn_cond_true ev (hR.code _ _ _ _ _ _ _ _ _ _ h φ w a FN hH hF hD hFN Q hq).wpIn
    · rename_i hx
      obtain ⟨V, hV, ev⟩ := eval_sound hF hx
      obtain rfl := cv_bool hV
      exact wpIn_cond_false ev (hR.code _ _ _ _ _ _ _ _ _ _ h φ w a FN hH hF hD hFN Q hq).wpIn
    · cases h
  | block id x =>
    simp only [codeA] at h
    intro φ w a FN hH hF hD hFN Q hq
    refine wpIn_block ?_
    split at h
    · rename_i id' F1 D1 H1 hx
      simp only [beq_dec] at h
      refine (hR.code _ _ _ _ _ _ _ _ _ _ hx φ w a FN hH hF hD hFN _ (fun φ1 w1 a1 p1 hF1 hD1 => ?_)).wpIn
      by_cases hid : id' = id
      · simp only [hid, decide_true, Option.some.injEq, Prod.mk.injEq] at h
        obtain ⟨rfl, rfl, rfl, rfl⟩ := h
        simp only [cvE, Exit.inBlock, hid, if_true]
        exact hq φ1 w1 a1 p1 hF1 hD1
      · simp only [hid, decide_false, Option.some.injEq, Prod.mk.injEq] at h
        obtain ⟨rfl, rfl, rfl, rfl⟩ := h
        simp only [cvE, Exit.inBlock, hid, if_false]
        exact hq φ1 w1 a1 p1 hF1 hD1
    · rename_i hne
      refine (hR.code _ _ _ _ _ _ _ _ _ _ h φ w a FN hH hF hD hFN _ (fun φ1 w1 a1 p1 hF1 hD1 => ?_)).wpIn
      cases e with
      | normal => exact hq φ1 w1 a1 p1 hF1 hD1
      | exit id => exact absurd h (hne _ _ _ _)
      | ret => exact hq φ1 w1 a1 p1 hF1 hD1
  | loop x =>
    simp only [codeA] at h
    intro φ w a FN hH hF hD hFN Q hq
    refine wpLoop_of ?_
    split at h
    · rename_i F1 D1 H1 hx
      refine (hR.code _ _ _ _ _ _ _ _ _ _ hx φ w a FN hH hF hD hFN _ (fun φ1 w1 a1 p1 hF1 hD1 => ?_)).wpIn
      exact hR.code _ _ _ _ _ _ _ _ _ _ h φ1 w1 a1 FN p1.rel hF1 hD1 (hFN.mono p1.le) Q (fun φ2 w2 a2 p2 hF2 hD2 => hq φ2 w2 a2 (p1.trans p2) hF2 hD2)
    · rename_i hne
      refine (hR.code _ _ _ _ _ _ _ _ _ _ h φ w a FN hH hF hD hFN _ (fun φ1 w1 a1 p1 hF1 hD1 => ?_)).wpIn
      cases e with
      | normal => exact absurd h (hne _ _ _)
      | exit id => exact hq φ1 w1 a1 p1 hF1 hD1
      | ret => exact hq φ1 w1 a1 p1 hF1 hD1
  | rangeFunc g ps assign body => exact range_sound hK hR h
  | scope x =>
    simp only [codeA] at h
    intro φ w a FN hH hF hD hFN Q hq
    refine wpIn_scope (hR.code _ _ _ _ _ _ _ _ _ _ h φ w a FN hH hF hD hFN _ (fun φ1 w1 a1 p1 hF1 hD1 => ?_)).wpIn
    have := hq φ1 w1 a1 p1 hF1 hD1
    cases e <;> exact this
  | goto l => simp [codeA] at h
  | refuse why => simp [codeA] at h
end Go.Ae
