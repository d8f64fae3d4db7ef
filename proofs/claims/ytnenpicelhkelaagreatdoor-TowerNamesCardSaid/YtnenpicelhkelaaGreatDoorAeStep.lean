/-
  A part of an evaluator of translated programs, and of the proof that what it answers is what the model says; no condition.
-/
import Derived.Test.YtnenpicelhkelaaGreatDoorAeCall
namespace Go.Ae
set_option linter.unusedVariables false
set_option linter.unusedSimpArgs false

def boolOf : Value → Option Bool
  | .bool b => some b
  | _ => none
theorem wanted_sound {ops : Array Oper} {F : Fr} {o : Oper} {b : Bool} (h : wantedA ops F o = some b) {φ : Phi} {tmps : Array Value} (hF : TRel φ F tmps) : Region.wanted o (yielded ops tmps) = b := by
  unfold wantedA at h
  unfold Region.wanted
  cases hg : o.guard with
  | none => rw [hg] at h; simp at h; simp [← h]
  | some p =>
    obtain ⟨j, want⟩ := p
    rw [hg] at h
    simp only at h ⊢
    cases hj : ops[j]? with
    | none => rw [hj] at h; simp at h; subst h; simp [yielded, hj]
    | some oj =>
      rw [hj] at h
      simp only at h
      cases hd : oj.dst with
      | none => rw [hd] at h; simp at h; subst h; simp [yielded, hj, hd]
      | some d =>
        rw [hd] at h
        simp only at h
        cases hv : F.t.get d with
        | none => rw [hv] at h; simp at h
        | some v =>
          obtain ⟨V, hV, ht⟩ := hF.2 d v hv
          rw [hv] at h
          have hy : yielded ops tmps j = boolOf V := by
            simp only [yielded, hj, hd, Option.bind_some, ht]
            cases V <;> rfl
          rw [hy]
          cases v with
          | bool c =>
            obtain rfl := cv_bool hV
            simp only at h
            cases c <;> cases want <;> simp_all [boolOf]
          | _ =>
            simp only [Option.some.injEq] at h
            subst h
            have hn : ∀ b, V ≠ .bool b := by
              intro b e
              subst e
              simp only [cv] at hV
              first
                | cases hV
                | (split at hV <;> simp at hV)
            cases V <;> first | exact absurd rfl (hn _) | simp [boolOf]

theorem step_cases {P : Program} {K : Hook} {R : Rec} {ro : Option Nat} {ops : Array Oper} {F : Fr} {D : List ADef} {H H0 : Hp} {id : Nat} {o : Oper} {k : Kd} {v : AV} (h : stepA P K R ro ops F D H H0 id o = some (k, v)) :
    (k = .skip ∧ v = undefA ∧ wantedA ops F o = some false) ∨
    (wantedA ops F o = some true ∧
      ((k = .pure ∧ pureA P F o = some v) ∨ (k = .read ∧ readA P F H o = some v) ∨ (∃ ob, k = .new id ob ∧ newA P F H0 o id = some (v, ob)) ∨
       (∃ H', k = .eff D H' ∧ effA P F H o = some (v, H')) ∨ (∃ g H', k = .eff D H' ∧ targetA P K F o = some g ∧ goA R K H g = some (v, H')) ∨
       (∃ d, k = .eff (d :: D) H ∧ ro = none ∧ deferA F o = some d ∧ v = undefA))) := by
  have quiet : quietA P F H H0 id o = some (k, v) → (k = .pure ∧ pureA P F o = some v) ∨ (k = .read ∧ readA P F H o = some v) ∨ (∃ ob, k = .new id ob ∧ newA P F H0 o id = some (v, ob)) := by
    intro h
    unfold quietA at h
    cases hp : pureA P F o with
    | some x => rw [hp] at h; simp at h; obtain ⟨rfl, rfl⟩ := h; exact .inl ⟨rfl, rfl⟩
    | none =>
      rw [hp] at h
      cases hr : readA P F H o with
      | some x => rw [hr] at h; simp at h; obtain ⟨rfl, rfl⟩ := h; exact .inr (.inl ⟨rfl, rfl⟩)
      | none =>
        rw [hr] at h
        cases hn : newA P F H0 o id with
        | none => rw [hn] at h; simp at h
        | some x =>
          obtain ⟨x, ob⟩ := x
          rw [hn] at h; simp at h; obtain ⟨rfl, rfl⟩ := h; exact .inr (.inr ⟨ob, rfl, rfl⟩)
  unfold stepA at h
  cases hw : wantedA ops F o with
  | none => rw [hw] at h; simp at h
  | some b =>
    rw [hw] at h
    cases b with
    | false => simp at h; exact .inl ⟨h.1.symm, h.2.symm, rfl⟩
    | true =>
      right
      refine ⟨rfl, ?_⟩
      simp only at h
      split at h
      · cases he : effA P F H o with
        | none => rw [he] at h; simp at h
        | some x =>
          obtain ⟨x, H'⟩ := x
          rw [he] at h; simp at h; obtain ⟨rfl, rfl⟩ := h
          exact .inr (.inr (.inr (.inl ⟨H', rfl, rfl⟩)))
      · cases ht : targetA P K F o with
        | none => rw [ht] at h; simp at h
        | some g =>
          rw [ht] at h
          simp only at h
          cases hg : goA R K H g with
          | none => rw [hg] at h; simp at h
          | some x =>
            obtain ⟨x, H'⟩ := x
            rw [hg] at h; simp at h; obtain ⟨rfl, rfl⟩ := h
            exact .inr (.inr (.inr (.inr (.inl ⟨g, H', rfl, rfl, hg⟩))))
      · cases ro with
        | some l => simp at h
        | none =>
          simp only at h
          cases hd : deferA F o with
          | none => rw [hd] at h; simp at h
          | some d =>
            rw [hd] at h; simp at h; obtain ⟨rfl, rfl⟩ := h
            exact .inr (.inr (.inr (.inr (.inr ⟨d, rfl, rfl, rfl, rfl⟩))))
      · cases hn : newA P F H0 o id with
        | none => rw [hn] at h; simp at h
        | some x =>
          obtain ⟨x, ob⟩ := x
          rw [hn] at h; simp at h; obtain ⟨rfl, rfl⟩ := h; exact .inr (.inr (.inl ⟨ob, rfl, rfl⟩))
      · rcases quiet h with q | q | q
        · exact .inl q
        · exact .inr (.inl q)
        · exact .inr (.inr (.inl q))

theorem pure_nd {P : Program} {F : Fr} {o : Oper} {v : AV} (h : pureA P F o = some v) (c : Call) : o.op ≠ .defer c := by
  intro e; obtain ⟨dst, op, ty, pos, after, guard⟩ := o; simp only at e; subst e; simp [pureA] at h
theorem read_nd {P : Program} {F : Fr} {H : Hp} {o : Oper} {v : AV} (h : readA P F H o = some v) (c : Call) : o.op ≠ .defer c := by
  intro e; obtain ⟨dst, op, ty, pos, after, guard⟩ := o; simp only at e; subst e; simp [readA] at h
theorem new_nd {P : Program} {F : Fr} {H : Hp} {o : Oper} {id : Nat} {v : AV} {ob : Ob} (h : newA P F H o id = some (v, ob)) (c : Call) : o.op ≠ .defer c := by
  intro e; obtain ⟨dst, op, ty, pos, after, guard⟩ := o; simp only at e; subst e; simp [newA] at h
theorem eff_nd {P : Program} {F : Fr} {H : Hp} {o : Oper} {v : AV} {H' : Hp} (h : effA P F H o = some (v, H')) (c : Call) : o.op ≠ .defer c := by
  intro e; obtain ⟨dst, op, ty, pos, after, guard⟩ := o; simp only at e; subst e; simp [effA] at h
theorem target_nd {P : Program} {K : Hook} {F : Fr} {o : Oper} {g : Go1} (h : targetA P K F o = some g) (c : Call) : o.op ≠ .defer c := by
  intro e; obtain ⟨dst, op, ty, pos, after, guard⟩ := o; simp only at e; subst e; simp [targetA] at h

section
variable {P : Program} {FN : Fence} {o : Oper} {a : Act} {w w' : World} {next : Act → World → Prop} {Q : Exit → Act → World → Prop}
theorem val_wp (hfn : ∀ f, FN.fn f) (hnd : ∀ c, o.op ≠ .defer c) {V : Value} (r : (execOp a.eval o).run P w = .ok (.value V) w') (h : next (a.put o.dst V) w') : o.wpIn FN 0 P a w next Q := by
  refine ⟨fun f _ => hfn f, ?_⟩
  rw [Oper.semAt_eq _ _ _ hnd, r]
  exact h
theorem skip_wp (hfn : ∀ f, FN.fn f) (hnd : ∀ c, o.op ≠ .defer c) (r : (execOp a.eval o).run P w = .ok .skip w') (h : next (a.put o.dst undef) w') : o.wpIn FN 0 P a w next Q := by
  refine ⟨fun f _ => hfn f, ?_⟩
  rw [Oper.semAt_eq _ _ _ hnd, r]
  exact h
end

/-- An acting operation. -/
theorem act_sound {P : Program} {K : Hook} {R : Rec} (hK : HookOk P K) (hR : RecOk P R) {ro : Option Nat} {ops : Array Oper} {F : Fr} {D D' : List ADef} {H H' : Hp} {o : Oper} {k : Kd} {v : AV}
    (h : (∃ H', k = .eff D H' ∧ effA P F H o = some (v, H')) ∨ (∃ g H', k = .eff D H' ∧ targetA P K F o = some g ∧ goA R K H g = some (v, H')) ∨
       (∃ d, k = .eff (d :: D) H ∧ ro = none ∧ deferA F o = some d ∧ v = undefA)) (hk : k = .eff D' H')
    {φ : Phi} {a : Act} {w : World} {FN : Fence} (hFN : FenceOk φ ro FN) (hF : TRel φ F a.tmps) (hD : DRel φ D a.defers) (hH : HRel φ H w) {next : Act → World → Prop} {Q : Exit → Act → World → Prop}
    (hq : ∀ φ' w' (a' : Act) V, Post φ H w φ' H' w' → cv φ' v = some V → a'.tmps = a.tmps → DRel φ' D' a'.defers → next (a'.put o.dst V) w') : o.wpIn FN 0 P a w next Q := by
  subst hk
  rcases h with ⟨H2, e, he⟩ | ⟨g, H2, e, ht, hg⟩ | ⟨d, e, rfl, hd, rfl⟩
  · simp only [Kd.eff.injEq] at e
    obtain ⟨rfl, rfl⟩ := e
    obtain ⟨φ', w', V, N, post, hv, r, hN⟩ := eff_sound he hF hH
    rcases hN with rfl | ⟨rfl, rfl⟩
    · exact val_wp hFN.fn (eff_nd he) r (hq φ' w' a V post hv rfl (hD.mono post.le))
    · exact skip_wp hFN.fn (eff_nd he) r (hq φ' w' a undef post hv rfl (hD.mono post.le))
  · simp only [Kd.eff.injEq] at e
    obtain ⟨rfl, rfl⟩ := e
    have hnd := target_nd ht
    have hgo : ∃ s : Sem Next, (execOp a.eval o).run P w = s.run P w ∧ GoOk P φ w g s := by
      obtain ⟨dst, op, ty, pos, after, guard⟩ := o
      cases op <;> (try simp only [targetA, reduceCtorEq] at ht)
      rename_i c
      obtain ⟨cal, xs, ts⟩ := c
      cases cal <;> (try simp only [reduceCtorEq] at ht)
      rename_i gv
      split at ht
      · rename_i fn first cap args hgv hxs
        obtain ⟨G, hG, eg⟩ := eval_sound hF hgv
        obtain ⟨A, B, hA, hB, rfl⟩ := cv_func hG
        have hargs := evals_sound hF hxs
        refine ⟨_, ?_, invoke_sound hK ht hB (cvL_append hA hargs) w⟩
        simp only [execOp, resolve, eg, Deferred.ofValue, Sem.run_bind, Sem.run_pure, Result.andThen_ok]
        congr 2
        apply Array.ext'
        simp
      · rename_i l args hgv hxs
        simp only [Option.some.injEq] at ht
        subst ht
        obtain ⟨G, hG, eg⟩ := eval_sound hF hgv
        have hargs := evals_sound hF hxs
        simp only [cv] at hG
        cases hl : φ l with
        | none => rw [hl] at hG; simp at hG
        | some x =>
          obtain ⟨n, x⟩ := x
          rw [hl] at hG
          simp only [Option.some.injEq] at hG
          subst hG
          refine ⟨Instr.yield n (List.map a.eval xs.toList).toArray, ?_, _, n, x, hargs, hl, rfl⟩
          simp only [execOp, resolve, eg, Deferred.ofValue, Sem.run_bind, Sem.run_pure, Result.andThen_ok, invoke]
          congr 2
          apply Array.ext'
          simp
      · simp at ht
    obtain ⟨s, hs, hgo⟩ := hgo
    refine ⟨fun f _ => hFN.fn f, ?_⟩
    rw [Oper.semAt_eq _ _ _ hnd, hs]
    cases g with
    | enter f args =>
      obtain ⟨A, hA, r⟩ := hgo
      rw [r]
      have hc : CallOk P f args H v H' := by
        simp only [goA] at hg
        cases hk : K.fn f args H with
        | some q => rw [hk] at hg; simp at hg; exact hK.fn f args H v H' (by rw [hk, hg])
        | none => rw [hk] at hg; exact hR.call f args H v H' hg
      refine ⟨fun h => by rw [hFN.depth] at h; simp at h, hFN.calls (hc φ w A hH hA _ fun φ' w' V post hv => ?_)⟩
      exact hq φ' w' a V post hv rfl (hD.mono post.le)
    | val x =>
      obtain ⟨V, hV, r⟩ := hgo
      rw [r]
      simp only [goA, Option.some.injEq, Prod.mk.injEq] at hg
      obtain ⟨rfl, rfl⟩ := hg
      exact hq φ w a V (Post.refl hH) hV rfl hD
    | round l args =>
      obtain ⟨A, ln, x, hA, hl, rfl⟩ := hgo
      simp only [goA] at hg
      obtain ⟨f, tmps, as, bo, r, hr⟩ := hR.round l args H v H' hg φ w A ln x hH hA hl (fun
          | .returned v, w'' => next (a.put o.dst v) w''
          | .panicked chain, w'' => Q (.panic chain) a w''
          | .outgrown, _ => LetsOut Q) (fun φ' w' V post hv => hq φ' w' a V post hv rfl (hD.mono post.le))
      rw [r]
      exact ⟨fun h => by rw [hFN.depth] at h; simp at h, hFN.rounds hr⟩
  · simp only [Kd.eff.injEq] at e
    obtain ⟨rfl, rfl⟩ := e
    refine ⟨fun f _ => hFN.fn f, ?_⟩
    have hro : FN.round = none := by
      have : FN = Fence.wide := hFN
      subst this; rfl
    rw [hro, Oper.semAt_none]
    obtain ⟨dst, op, ty, pos, after, guard⟩ := o
    cases op <;> (try simp only [deferA, reduceCtorEq] at hd)
    rename_i c
    obtain ⟨cal, xs, ts⟩ := c
    cases cal <;> (try simp only [reduceCtorEq] at hd)
    rename_i gv
    split at hd
    · rename_i fn first cap args hgv hxs
      simp only [Option.some.injEq] at hd
      subst hd
      obtain ⟨G, hG, eg⟩ := eval_sound hF hgv
      obtain ⟨A, B, hA, hB, rfl⟩ := cv_func hG
      have hargs := evals_sound hF hxs
      simp only [execOp, resolve, eg, Deferred.ofValue, Sem.run_bind, Sem.run_pure, Result.andThen_ok]
      refine hq φ w { a with defers := _ :: a.defers } undef (Post.refl hH) (cv_undef φ) rfl ⟨_, a.defers, ?_, hD, rfl⟩
      simp only [cvD, hB, cvL_append hA hargs, Option.some.injEq]
      congr 1
      apply Array.ext'
      simp
    · simp at hd
end Go.Ae
