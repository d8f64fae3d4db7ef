/-
  A part of an evaluator of translated programs, and of the proof that what it answers is what the model says; no condition.
-/
import Derived.Test.YtnenpicelhkelaaGreatDoorAeStep
namespace Go.Ae
set_option linter.unusedVariables false
set_option linter.unusedSimpArgs false

theorem put_sound {φ : Phi} {F F' : Fr} {a : Act} (hF : TRel φ F a.tmps) {dst : Option Tmp} {v : AV} (h : putA F dst v = some F') {V : Value} (hv : cv φ v = some V) : TRel φ F' (a.put dst V).tmps := by
  cases dst with
  | none => simp only [putA, Option.some.injEq] at h; subst h; exact hF
  | some d =>
    simp only [putA, Fr.put_eq, blt_dec] at h
    by_cases hd : d < F.size
    · simp only [hd, decide_true, Option.some.injEq] at h
      subst h
      refine ⟨by simpa [Act.put] using hF.1, fun t x hx => ?_⟩
      simp only [T.get_put] at hx
      simp only [Act.put, Array.getElem?_setIfInBounds]
      by_cases e : t = d
      · subst e
        simp at hx; subst hx
        exact ⟨V, hv, by rw [hF.1]; simp [hd]⟩
      · rw [if_neg e] at hx
        rw [if_neg (fun h => e h.symm)]
        exact hF.2 t x hx
    · simp [hd] at h
theorem put_defers (a : Act) (dst : Option Tmp) (V : Value) : (a.put dst V).defers = a.defers := by cases dst <;> rfl
theorem put_tmps {a a' : Act} (h : a'.tmps = a.tmps) (dst : Option Tmp) (V : Value) : (a'.put dst V).tmps = (a.put dst V).tmps := by cases dst <;> simp [Act.put, h]

theorem ops_sound {P : Program} {K : Hook} {R : Rec} (hK : HookOk P K) (hR : RecOk P R) {ro : Option Nat} {ops : Array Oper} {FN : Fence} {Q : Exit → Act → World → Prop} {F' : Fr} {D' : List ADef} {H' : Hp} :
    ∀ (l : List Oper) (i : Nat) (F : Fr) (D : List ADef) (H : Hp) (φ : Phi) (a : Act) (w : World), ops.toList.drop i = l → opsA P K R ro ops l F D H = some (F', D', H') → HRel φ H w → TRel φ F a.tmps → DRel φ D a.defers → FenceOk φ ro FN →
    (∀ φ' w' a', Post φ H w φ' H' w' → TRel φ' F' a'.tmps → DRel φ' D' a'.defers → Q .normal a' w') → wpOpsIn FN 0 P ops Q (List.range' i l.length) a w := by
  intro l
  induction l with
  | nil =>
    intro i F D H φ a w hl h hH hF hD hFN hq
    simp only [opsA, Option.some.injEq, Prod.mk.injEq] at h
    obtain ⟨rfl, rfl, rfl⟩ := h
    exact hq φ w a (Post.refl hH) hF hD
  | cons o l ih =>
    intro i F D H φ a w hl h hH hF hD hFN hq
    have ho : ops[i]? = some o := by
      have := congrArg (·[0]?) hl
      simpa using this
    have hl' : ops.toList.drop (i + 1) = l := by
      have := congrArg List.tail hl
      simpa using this
    simp only [opsA] at h
    cases hs : stepA P K R ro ops F D H H H.next o with
    | none => rw [hs] at h; simp at h
    | some kv =>
      obtain ⟨k, v⟩ := kv
      rw [hs] at h
      simp only at h
      cases hp : putA F o.dst v with
      | none => rw [hp] at h; simp at h
      | some F1 =>
        rw [hp] at h
        simp only at h
        rw [List.length_cons, List.range'_succ, wpOpsIn_cons]
        unfold wpOpIn
        simp only [ho]
        -- on with the rest
        have go : ∀ (H1 : Hp) (D1 : List ADef), opsA P K R ro ops l F1 D1 H1 = some (F', D', H') → ∀ φ1 w1 (a1 : Act) V, Post φ H w φ1 H1 w1 → cv φ1 v = some V → a1.tmps = a.tmps → DRel φ1 D1 a1.defers →
            wpOpsIn FN 0 P ops Q (List.range' (i + 1) l.length) (a1.put o.dst V) w1 := by
          intro H1 D1 h' φ1 w1 a1 V post hv ht hd
          refine ih (i + 1) F1 D1 H1 φ1 (a1.put o.dst V) w1 hl' h' post.rel ?_ (by rw [put_defers]; exact hd) (hFN.mono post.le) (fun φ' w' a' p t d => hq φ' w' a' (post.trans p) t d)
          rw [put_tmps ht]
          exact put_sound (hF.mono post.le) hp hv
        rcases step_cases hs with ⟨rfl, rfl, hw⟩ | ⟨hw, hc⟩
        · rw [wanted_sound hw hF]
          simp only [Bool.false_eq_true, if_false]
          exact ⟨fun f _ => hFN.fn f, go H D h φ w a undef (Post.refl hH) (cv_undef φ) rfl hD⟩
        · rw [wanted_sound hw hF]
          simp only [if_true]
          rcases hc with ⟨rfl, hx⟩ | ⟨rfl, hx⟩ | ⟨ob, rfl, hx⟩ | hx
          · obtain ⟨V, hv, r⟩ := pure_sound hx hF
            exact val_wp hFN.fn (pure_nd hx) (r w) (go H D h φ w a V (Post.refl hH) hv rfl hD)
          · obtain ⟨V, hv, r⟩ := read_sound hx hF hH
            exact val_wp hFN.fn (read_nd hx) r (go H D h φ w a V (Post.refl hH) hv rfl hD)
          · have hid := hH.fresh _ (Nat.le_refl _)
            obtain ⟨φ1, w1, V, h1, h2, h3, hv, r, h4⟩ := NewOk.post (new_sound hx hF hH hid) hH hid (Hp.get_new H ob) (by simp) (by simp)
            refine val_wp hFN.fn (new_nd hx) r (go (H.new ob) D h φ1 w1 a V ⟨h1, h2, h3, by simp, fun b hb => h4 b (by omega)⟩ hv rfl (hD.mono h1))
          · have hk : ∃ D1 H1, k = .eff D1 H1 := by
              rcases hx with ⟨H1, e, _⟩ | ⟨g, H1, e, _⟩ | ⟨d, e, _⟩ <;> exact ⟨_, _, e⟩
            obtain ⟨D1, H1, hk⟩ := hk
            refine act_sound hK hR (ops := ops) hx hk hFN hF hD hH ?_
            subst hk
            exact fun φ1 w1 a1 V post hv ht hd => go H1 D1 h φ1 w1 a1 V post hv ht hd

theorem region_sound {P : Program} {K : Hook} {R : Rec} (hK : HookOk P K) (hR : RecOk P R) {ro : Option Nat} {ops : Array Oper} {n : Nat} {F F' : Fr} {D D' : List ADef} {H H' : Hp} (h : opsA P K R ro ops ops.toList F D H = some (F', D', H')) :
    CodeOk P ro (.region n ops false) F D H .normal F' D' H' := by
  intro φ w a FN hH hF hD hFN Q hq
  refine wpIn_region ?_
  have := ops_sound hK hR (Q := Q) ops.toList 0 F D H φ a w (by simp) h hH hF hD hFN hq
  simpa [List.range_eq_range'] using this
end Go.Ae
