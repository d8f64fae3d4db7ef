/-
  A part of an evaluator of translated programs, and of the proof that what it answers is what the model says; no condition.
-/
import Derived.Test.YtnenpicelhkelaaGreatDoorAePure3
namespace Go.Ae
set_option linter.unusedVariables false
set_option linter.unusedSimpArgs false

theorem inv_nili {φ : Phi} {a : AV} (h : cv φ a = some .nilIface) : a = .nili := by
  cases a with
  | nili => rfl
  | bool b => simp [cv] at h
  | int k n => simp [cv] at h
  | str s => have := (cv_str h).1; cases this
  | nilp => simp [cv] at h
  | ptr b o => obtain ⟨_, _, _, _, e⟩ := cv_ptr h; cases e
  | nils => simp [cv] at h
  | slice b o l c => obtain ⟨_, _, _, _, e⟩ := cv_slice h; cases e
  | nilm => simp [cv] at h
  | map b => obtain ⟨_, _, _, e⟩ := cv_map h; cases e
  | nilc => simp [cv] at h
  | chan b => simp only [cv] at h; cases hb : φ b <;> rw [hb] at h <;> simp at h
  | func fn x y => obtain ⟨_, _, _, _, e⟩ := cv_func h; cases e
  | yieldf l => simp only [cv] at h; cases hb : φ l <;> rw [hb] at h <;> simp at h
  | nilf => simp [cv] at h
  | iface t v => obtain ⟨_, _, e⟩ := cv_iface h; cases e
  | agg l => obtain ⟨_, _, e⟩ := cv_agg h; cases e
  | tup l => obtain ⟨_, _, e⟩ := cv_tup h; cases e
theorem inv_agg {φ : Phi} {a : AV} {C : Array Value} (h : cv φ a = some (.agg C)) : ∃ l, a = .agg l := by
  cases a with
  | agg l => exact ⟨l, rfl⟩
  | nili => simp [cv] at h
  | bool b => simp [cv] at h
  | int k n => simp [cv] at h
  | str s => have := (cv_str h).1; cases this
  | nilp => simp [cv] at h
  | ptr b o => obtain ⟨_, _, _, _, e⟩ := cv_ptr h; cases e
  | nils => simp [cv] at h
  | slice b o l c => obtain ⟨_, _, _, _, e⟩ := cv_slice h; cases e
  | nilm => simp [cv] at h
  | map b => obtain ⟨_, _, _, e⟩ := cv_map h; cases e
  | nilc => simp [cv] at h
  | chan b => simp only [cv] at h; cases hb : φ b <;> rw [hb] at h <;> simp at h
  | func fn x y => obtain ⟨_, _, _, _, e⟩ := cv_func h; cases e
  | yieldf l => simp only [cv] at h; cases hb : φ l <;> rw [hb] at h <;> simp at h
  | nilf => simp [cv] at h
  | iface t v => obtain ⟨_, _, e⟩ := cv_iface h; cases e
  | tup l => obtain ⟨_, _, e⟩ := cv_tup h; cases e

theorem guard_nil {P : Program} {op : BinOp} (hop : op = .eql ∨ op = .neq) {t : TypeId} {x y : Operand} (h : (isC x || isC y) = true) (w : World) : (eqGuard op t x y .nilIface .nilIface).run P w = .ok () w := by
  rcases hop with rfl | rfl <;> cases x <;> cases y <;> simp [isC] at h <;> simp [eqGuard]
theorem guard_agg {P : Program} {op : BinOp} (hop : op = .eql ∨ op = .neq) {t : TypeId} {x y : Operand} {C D : Array Value} (h : P.eqGuardType P.depth t = false) (w : World) : (eqGuard op t x y (.agg C) (.agg D)).run P w = .ok () w := by
  rcases hop with rfl | rfl <;> simp [eqGuard, h]
theorem guard_other {P : Program} {op : BinOp} (hop : op ≠ .eql ∧ op ≠ .neq) {t : TypeId} {x y : Operand} {A B : Value} (w : World) : (eqGuard op t x y A B).run P w = .ok () w := by
  obtain ⟨h1, h2⟩ := hop
  unfold eqGuard
  cases op <;> first | (exact absurd rfl h1) | (exact absurd rfl h2) | simp
theorem guard_mix {P : Program} {op : BinOp} (hop : op = .eql ∨ op = .neq) {t : TypeId} {x y : Operand} {A B : Value} (h1 : ¬ (A = .nilIface ∧ B = .nilIface)) (h2 : ∀ C D, ¬ (A = .agg C ∧ B = .agg D)) (w : World) : (eqGuard op t x y A B).run P w = .ok () w := by
  rcases hop with rfl | rfl <;> cases A <;> cases B <;> first | (exact absurd ⟨rfl, rfl⟩ h1) | (exact absurd ⟨rfl, rfl⟩ (h2 _ _)) | simp [eqGuard]
theorem guard_sound {P : Program} {op : BinOp} {t : TypeId} {x y : Operand} {a b : AV} (h : guardA P op t x y a b = true) {φ : Phi} {A B : Value} (hA : cv φ a = some A) (hB : cv φ b = some B) (w : World) :
    (eqGuard op t x y A B).run P w = .ok () w := by
  have key : (op = .eql ∨ op = .neq) ∨ (op ≠ .eql ∧ op ≠ .neq) := by cases op <;> simp
  rcases key with hop | hop
  · by_cases h1 : A = .nilIface ∧ B = .nilIface
    · obtain ⟨rfl, rfl⟩ := h1
      obtain rfl := inv_nili hA; obtain rfl := inv_nili hB
      exact guard_nil hop (by rcases hop with rfl | rfl <;> exact h) w
    · by_cases h2 : ∃ C D, A = .agg C ∧ B = .agg D
      · obtain ⟨C, D, rfl, rfl⟩ := h2
        obtain ⟨l, rfl⟩ := inv_agg hA; obtain ⟨m, rfl⟩ := inv_agg hB
        have hg : (!(P.eqGuardType P.depth t)) = true := by rcases hop with rfl | rfl <;> exact h
        exact guard_agg hop (by simpa using hg) w
      · exact guard_mix hop h1 (fun C D e => h2 ⟨C, D, e⟩) w
  · exact guard_other hop w

theorem run_eql_other {P : Program} {t : TypeId} {A B : Value} (hA : ∀ x, A ≠ .string x) (hA' : ∀ k x, A ≠ .int k x) (hf : ∀ k x, A ≠ .float k x) (hc : ∀ k x y, A ≠ .complex k x y) (w : World) {r : Bool} (h : (Op.equal t A B).run P w = .ok r w) :
    (binOp .eql t A B).run P w = .ok (.bool r) w := by
  cases A <;> first | exact absurd rfl (hA _) | exact absurd rfl (hA' _ _) | exact absurd rfl (hf _ _) | exact absurd rfl (hc _ _ _) | simp [binOp, h]
theorem run_neq_other {P : Program} {t : TypeId} {A B : Value} (hA : ∀ x, A ≠ .string x) (hA' : ∀ k x, A ≠ .int k x) (hf : ∀ k x, A ≠ .float k x) (hc : ∀ k x y, A ≠ .complex k x y) (w : World) {r : Bool} (h : (Op.equal t A B).run P w = .ok r w) :
    (binOp .neq t A B).run P w = .ok (.bool (!r)) w := by
  cases A <;> first | exact absurd rfl (hA _) | exact absurd rfl (hA' _ _) | exact absurd rfl (hf _ _) | exact absurd rfl (hc _ _ _) | simp [binOp, h]
theorem notPlain {P : Program} {d : Nat} {t : TypeId} {a b : AV} {r : Bool} (he : aeq P d t a b = some r) (hi : ∀ k x k' y, a = .int k x → b = .int k' y → False) (hs : ∀ x y, a = .str x → b = .str y → False)
    {φ : Phi} {A : Value} (hA : cv φ a = some A) : (∀ x, A ≠ .string x) ∧ (∀ k x, A ≠ .int k x) ∧ (∀ k x, A ≠ .float k x) ∧ (∀ k x y, A ≠ .complex k x y) := by
  cases d with
  | zero => simp [aeq] at he
  | succ d =>
    simp only [aeq] at he
    split at he
    case h_1 => obtain rfl := cv_bool hA; exact ⟨by simp, by simp, by simp, by simp⟩
    case h_2 => exact (hi _ _ _ _ rfl rfl).elim
    case h_3 => exact (hs _ _ rfl rfl).elim
    all_goals first
      | (obtain ⟨_, _, _, _, rfl⟩ := cv_ptr hA; exact ⟨by simp, by simp, by simp, by simp⟩)
      | (obtain ⟨_, _, _, _, rfl⟩ := cv_slice hA; exact ⟨by simp, by simp, by simp, by simp⟩)
      | (obtain ⟨_, _, _, rfl⟩ := cv_map hA; exact ⟨by simp, by simp, by simp, by simp⟩)
      | (obtain ⟨_, _, rfl⟩ := cv_iface hA; exact ⟨by simp, by simp, by simp, by simp⟩)
      | (obtain ⟨_, _, rfl⟩ := cv_agg hA; exact ⟨by simp, by simp, by simp, by simp⟩)
      | (simp [cv] at hA; subst hA; exact ⟨by simp, by simp, by simp, by simp⟩)
      | (simp at he; done)
theorem bin_sound {P : Program} {op : BinOp} {t : TypeId} {a b v : AV} (h : binA P op t a b = some v) {φ : Phi} {A B : Value} (hA : cv φ a = some A) (hB : cv φ b = some B) :
    ∃ V, cv φ v = some V ∧ ∀ w, (binOp op t A B).run P w = .ok V w := by
  unfold binA at h
  split at h
  · rename_i k x k' y
    obtain rfl := cv_int hA; obtain rfl := cv_int hB
    have key : ∀ (h' : (match keq k k' with | true => ibin op k x y | false => none) = some v), ∃ V, cv φ v = some V ∧ ∀ w, (binOp op t (.int k x) (.int k' y)).run P w = .ok V w := by
      intro h'
      cases hk : keq k k' with
      | false => rw [hk] at h'; simp at h'
      | true =>
        rw [hk] at h'
        obtain rfl := (keq_iff _ _).1 hk
        exact ibin_sound h' φ t
    cases op <;> first | exact ishift_sound h φ t | exact key h
  · rename_i x y
    obtain ⟨rfl, hx⟩ := cv_str hA; obtain ⟨rfl, hy⟩ := cv_str hB
    exact sbin_sound h hx hy φ t
  · rename_i hi hs
    have plain : (∀ x, A ≠ .string x) ∧ (∀ k x, A ≠ .int k x) ∧ (∀ k x, A ≠ .float k x) ∧ (∀ k x y, A ≠ .complex k x y) ∨ v = v := .inr rfl
    cases op <;> simp only [reduceCtorEq] at h
    case eql =>
      cases he : aeq P 60 t a b with
      | none => rw [he] at h; simp at h
      | some r =>
        rw [he] at h; simp at h; subst h
        refine ⟨_, rfl, fun w => ?_⟩
        have hr : (Op.equal t A B).run P w = .ok r w := aeq_sound he hA hB Op.maxDepth w (by unfold Op.maxDepth; omega)
        obtain ⟨p1, p2, p3, p4⟩ := notPlain he hi hs hA
        exact run_eql_other p1 p2 p3 p4 w hr
    case neq =>
      cases he : aeq P 60 t a b with
      | none => rw [he] at h; simp at h
      | some r =>
        rw [he] at h; simp at h; subst h
        refine ⟨_, rfl, fun w => ?_⟩
        have hr : (Op.equal t A B).run P w = .ok r w := aeq_sound he hA hB Op.maxDepth w (by unfold Op.maxDepth; omega)
        obtain ⟨p1, p2, p3, p4⟩ := notPlain he hi hs hA
        exact run_neq_other p1 p2 p3 p4 w hr
end Go.Ae
