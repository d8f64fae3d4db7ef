/-
  A part of an evaluator of translated programs, and of the proof that what it answers is what the model says; no condition.
-/
import Derived.Test.YtnenpicelhkelaaGreatDoorAeEff4
import Derived.Conc.MuLone
namespace Go.Ae
set_option linter.unusedVariables false
set_option linter.unusedSimpArgs false

/-! ### deferred calls -/
def cvD (φ : Phi) : ADef → Option Deferred
  | .mark b => match φ b with
    | some (n, _) => some { target := .collected n, args := #[] }
    | none => none
  | .call fn cap args => match cvL φ cap, cvL φ args with
    | some c, some a => some { target := .fn fn c.toArray, args := a.toArray }
    | _, _ => none
def DRel (φ : Phi) : List ADef → List Deferred → Prop
  | [], ds => ds = []
  | d :: D, ds => ∃ x r, cvD φ d = some x ∧ DRel φ D r ∧ ds = x :: r
theorem cvD_mono {φ φ' : Phi} (h : PhiLe φ φ') {d : ADef} {x : Deferred} (k : cvD φ d = some x) : cvD φ' d = some x := by
  cases d with
  | mark b =>
    simp only [cvD] at k ⊢
    cases hb : φ b with
    | none => rw [hb] at k; simp at k
    | some y => rw [hb] at k; rw [h _ _ hb]; exact k
  | call fn cap args =>
    simp only [cvD] at k ⊢
    cases h1 : cvL φ cap with
    | none => rw [h1] at k; simp at k
    | some a =>
      cases h2 : cvL φ args with
      | none => rw [h1, h2] at k; simp at k
      | some b => rw [h1, h2] at k; rw [cvL_mono h _ _ h1, cvL_mono h _ _ h2]; exact k
theorem DRel.mono {φ φ' : Phi} (h : PhiLe φ φ') : ∀ {D : List ADef} {ds : List Deferred}, DRel φ D ds → DRel φ' D ds
  | [], _, k => k
  | _ :: _, _, ⟨x, r, h1, h2, h3⟩ => ⟨x, r, cvD_mono h h1, DRel.mono h h2, h3⟩

/-! ### what is asked of the caller's answers, and of the parts below -/
def CallOk (P : Program) (f : FuncId) (args : List AV) (H : Hp) (v : AV) (H' : Hp) : Prop :=
  ∀ φ w ARGS, HRel φ H w → cvL φ args = some ARGS → ∀ Rp : Ending → World → Prop, (∀ φ' w' V, Post φ H w φ' H' w' → cv φ' v = some V → Rp (.returned V) w') → CallsIn Fence.wide 0 P f ARGS.toArray w Rp
def RoundOk (P : Program) (l : Nat) (args : List AV) (H : Hp) (v : AV) (H' : Hp) : Prop :=
  ∀ φ w ARGS ln x, HRel φ H w → cvL φ args = some ARGS → φ l = some (ln, x) → ∀ Rp : Ending → World → Prop, (∀ φ' w' V, Post φ H w φ' H' w' → cv φ' v = some V → Rp (.returned V) w') →
    ∃ f tmps assign body, (Instr.yield ln ARGS.toArray).run P w = .ok (.round ln f tmps assign body) w ∧ RoundIn Fence.wide 0 P ln f tmps assign body w Rp
def cvE : Ex → Exit
  | .normal => .normal
  | .exit id => .exit id
  | .ret => .ret
/-- The fence of an activation, or of a round. -/
def FenceOk (φ : Phi) (ro : Option Nat) (F : Fence) : Prop :=
  match ro with
  | none => F = Fence.wide
  | some l => ∃ ln x, φ l = some (ln, x) ∧ F = Fence.wide.inRound ln
theorem FenceOk.mono {φ φ' : Phi} (h : PhiLe φ φ') {ro : Option Nat} {F : Fence} (k : FenceOk φ ro F) : FenceOk φ' ro F := by
  cases ro with
  | none => exact k
  | some l => obtain ⟨ln, x, h1, h2⟩ := k; exact ⟨ln, x, h _ _ h1, h2⟩
theorem FenceOk.fn {φ : Phi} {ro : Option Nat} {F : Fence} (k : FenceOk φ ro F) (f : FuncId) : F.fn f := by
  cases ro with
  | none => subst k; trivial
  | some l => obtain ⟨ln, x, h1, rfl⟩ := k; trivial
theorem FenceOk.depth {φ : Phi} {ro : Option Nat} {F : Fence} (k : FenceOk φ ro F) : F.depth = none := by
  cases ro with
  | none => subst k; rfl
  | some l => obtain ⟨ln, x, h1, rfl⟩ := k; rfl
theorem FenceOk.calls {φ : Phi} {ro : Option Nat} {F : Fence} (k : FenceOk φ ro F) {P : Program} {f : FuncId} {args : Array Value} {w : World} {R : Ending → World → Prop} (h : CallsIn Fence.wide 0 P f args w R) : CallsIn F 0 P f args w R := by
  cases ro with
  | none => subst k; exact h
  | some l => obtain ⟨ln, x, h1, rfl⟩ := k; exact h
theorem FenceOk.rounds {φ : Phi} {ro : Option Nat} {F : Fence} (k : FenceOk φ ro F) {P : Program} {l : Nat} {f : FuncId} {tmps : Array Value} {as bo : Code} {w : World} {R : Ending → World → Prop} (h : RoundIn Fence.wide 0 P l f tmps as bo w R) :
    RoundIn F 0 P l f tmps as bo w R := by
  cases ro with
  | none => subst k; exact h
  | some l => obtain ⟨ln, x, h1, rfl⟩ := k; exact h
/-- Within a loop, ahead of its body. -/
def wpLoop (F : Fence) (P : Program) (c : Code) (Q : Exit → Act → World → Prop) (a : Act) (w : World) : Prop :=
  ∀ (b : Frame) (k : List Item) (cs : List Frame), b.roundOf = F.round → F.fn b.fn → F.room (cs.length + 1 + 0) →
    ∃ e a' w', Q e a' w' ∧ ArrivesIn (Machine.fenced P F) P (lone (b.atR a (.code c :: .inLoop c :: k)) cs w) b k cs e a' w'
def Wp (F : Fence) (P : Program) (c : Code) (Q : Exit → Act → World → Prop) (a : Act) (w : World) : Prop :=
  match c with
  | .loop x => wpLoop F P x Q a w
  | c => c.wpIn F 0 P Q a w
theorem wpLoop_loop {F : Fence} {P : Program} {c : Code} {Q : Exit → Act → World → Prop} {a : Act} {w : World} (h : wpLoop F P c Q a w) : (Code.loop c).wpIn F 0 P Q a w := by
  intro b k cs hro hb hr
  obtain ⟨e, a', w', hq, harr⟩ := h b k cs hro hb hr
  exact ⟨e, a', w', hq, .of_steps (.one (fenced_calm hb hr rfl) stepR_loop) harr⟩
theorem wpLoop_of {F : Fence} {P : Program} {c : Code} {Q : Exit → Act → World → Prop} {a : Act} {w : World} (h : c.wpIn F 0 P (Exit.then (wpLoop F P c Q) Q) a w) : wpLoop F P c Q a w := by
  intro b k cs hro hb hr
  obtain ⟨e, a₁, w₁, hq, harr⟩ := h b (.inLoop c :: k) cs hro hb hr
  cases e with
  | normal =>
    obtain ⟨e₂, a₂, w₂, hq₂, harr₂⟩ := hq b k cs hro hb hr
    exact ⟨e₂, a₂, w₂, hq₂, .of_steps (StepsIn.trans harr (.one (fenced_calm hb hr rfl) stepR_inLoop)) harr₂⟩
  | exit id => exact ⟨_, a₁, w₁, hq, .pass (x := .inLoop c) rfl (fun _ _ => .inl (by simp)) harr⟩
  | goto l => exact ⟨_, a₁, w₁, hq, .pass (x := .inLoop c) rfl (fun _ _ => .inl (by simp)) harr⟩
  | ret => exact ⟨_, a₁, w₁, hq, .pass (x := .inLoop c) rfl (fun _ _ => .inl (by simp)) harr⟩
  | panic ch => exact ⟨_, a₁, w₁, hq, .pass (x := .inLoop c) rfl (fun _ _ => .inl (by simp)) harr⟩
  | outgrown => exact ⟨_, a₁, w₁, hq, .pass (x := .inLoop c) rfl (fun _ _ => .inl (by simp)) harr⟩
theorem Wp.wpIn {F : Fence} {P : Program} {c : Code} {Q : Exit → Act → World → Prop} {a : Act} {w : World} (h : Wp F P c Q a w) : c.wpIn F 0 P Q a w := by
  cases c <;> first | exact h | exact wpLoop_loop h
def CodeOk (P : Program) (ro : Option Nat) (c : Code) (F : Fr) (D : List ADef) (H : Hp) (e : Ex) (F' : Fr) (D' : List ADef) (H' : Hp) : Prop :=
  ∀ φ w a FN, HRel φ H w → TRel φ F a.tmps → DRel φ D a.defers → FenceOk φ ro FN → ∀ Q : Exit → Act → World → Prop,
    (∀ φ' w' a', Post φ H w φ' H' w' → TRel φ' F' a'.tmps → DRel φ' D' a'.defers → Q (cvE e) a' w') → Wp FN P c Q a w
structure RecOk (P : Program) (R : Rec) : Prop where
  call : ∀ f args H v H', R.call f args H = some (v, H') → CallOk P f args H v H'
  round : ∀ l args H v H', R.round l args H = some (v, H') → RoundOk P l args H v H'
  code : ∀ ro c f F D H e F' D' H', R.code ro c f F D H = some (e, F', D', H') → CodeOk P ro c F D H e F' D' H'
/-- A deferred call, of an activation that returns: it leaves no value and the activation's mode as it was. -/
def DeferOk (P : Program) (f : FuncId) (args : List AV) (H H' : Hp) : Prop :=
  ∀ φ w ARGS, HRel φ H w → cvL φ args = some ARGS → ∀ Rp : Ending → FrameMode → World → Prop, (∀ φ' w' V, Post φ H w φ' H' w' → Rp (.returned V) .returning w') → CallsDIn Fence.wide 0 P f ARGS.toArray .returning w Rp
structure HookOk (P : Program) (K : Hook) : Prop where
  ext : ∀ f args v, K.ext f args = some v → ∀ fn, P.funcs[f]? = some fn → fn.body = none → ∀ φ ARGS, cvL φ args = some ARGS → ∃ V, cv φ v = some V ∧ ∀ w, (callFunc f ARGS.toArray).run P w = .ok (.value V) w
  fn : ∀ f args H v H', K.fn f args H = some (v, H') → CallOk P f args H v H'
  dfr : ∀ f args H H', K.dfr f args H = some H' → DeferOk P f args H H'

/-! ### calls -/
/-- What a call's target comes to. -/
def GoOk (P : Program) (φ : Phi) (w : World) : Go1 → Sem Next → Prop
  | .enter f args, s => ∃ A, cvL φ args = some A ∧ s.run P w = .ok (.enter f A.toArray) w
  | .val v, s => ∃ V, cv φ v = some V ∧ s.run P w = .ok (.value V) w
  | .round l args, s => ∃ A ln x, cvL φ args = some A ∧ φ l = some (ln, x) ∧ s = Instr.yield ln A.toArray
theorem callFn_sound {P : Program} {K : Hook} (hK : HookOk P K) {f : FuncId} {args : List AV} {g : Go1} (h : callFn P K f args = some g) {φ : Phi} {A : List Value} (hA : cvL φ args = some A) (w : World) :
    GoOk P φ w g (callFunc f A.toArray) := by
  unfold callFn at h
  cases hf : P.funcs[f]? with
  | none => rw [hf] at h; simp at h
  | some fn =>
    rw [hf] at h
    simp only at h
    cases hb : fn.body with
    | some c =>
      rw [hb] at h
      simp only at h
      cases hn : fn.name == "runtime.NumGoroutine" with
      | true => rw [hn] at h; simp at h
      | false =>
        rw [hn] at h
        simp only [Option.some.injEq] at h
        subst h
        exact ⟨A, hA, Go.MuLone.run_callFunc_enter hf hn hb _ w⟩
    | none =>
      rw [hb] at h
      simp only at h
      cases he : K.ext f args with
      | none => rw [he] at h; simp at h
      | some v =>
        rw [he] at h
        simp only [Option.some.injEq] at h
        subst h
        obtain ⟨V, h1, h2⟩ := hK.ext f args v he fn hf hb φ A hA
        exact ⟨V, h1, h2 w⟩
theorem invoke_sound {P : Program} {K : Hook} (hK : HookOk P K) {fn : Fn} {cap args : List AV} {g : Go1} (h : invokeA P K fn cap args = some g) {φ : Phi} {C A : List Value} (hC : cvL φ cap = some C) (hA : cvL φ args = some A) (w : World) :
    GoOk P φ w g (invoke (.fn fn C.toArray) A.toArray) := by
  unfold invokeA at h
  cases fn <;> (try simp only [reduceCtorEq] at h)
  rename_i f
  have := callFn_sound hK h (cvL_append hA hC) w
  simpa [invoke] using this
/-- No round. -/
theorem invoke_not_round {P : Program} {K : Hook} {fn : Fn} {cap args : List AV} {l : Nat} {as : List AV} (h : invokeA P K fn cap args = some (.round l as)) : False := by
  unfold invokeA at h
  cases fn <;> (try simp only [reduceCtorEq] at h)
  rename_i f
  unfold callFn at h
  split at h
  · split at h
    · split at h <;> simp at h
    · split at h <;> simp at h
  · simp at h
end Go.Ae
