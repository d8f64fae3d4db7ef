/-
  A part of an evaluator of translated programs, and of the proof that what it answers is what the model says; no condition.
-/
import Derived.Test.YtnenpicelhkelaaGreatDoorAeRun
namespace Go.Ae

theorem odd_mod (j : Nat) : odd j = decide (j % 2 = 1) := by
  unfold odd
  rw [show Nat.land j 1 = j % 2 from by rw [← Nat.and_one_is_mod]; rfl]
  by_cases h : j % 2 = 1
  · rw [h]; rfl
  · have : j % 2 = 0 := by omega
    rw [this]; rfl
theorem half_div (j : Nat) : half j = j / 2 := by
  unfold half
  have := Nat.shiftRight_eq_div_pow j 1
  rw [Nat.pow_one] at this
  exact this

theorem T.get_zero {α : Type} (v : Option α) (l r : T α) : (T.node v l r).get 0 = v := rfl
theorem T.get_succ {α : Type} (v : Option α) (l r : T α) (j : Nat) : (T.node v l r).get (j + 1) = if j % 2 = 1 then r.get (j / 2) else l.get (j / 2) := by
  show (Bool.rec (motive := fun _ => Option α) (l.get (half j)) (r.get (half j)) (odd j)) = _
  rw [odd_mod, half_div]
  by_cases h : j % 2 = 1 <;> simp [h]
theorem T.get_leaf {α : Type} (i : Nat) : (T.leaf : T α).get i = none := by cases i <;> rfl

theorem T.get_set {α : Type} (x : Option α) : ∀ (f i : Nat) (t : T α) (j : Nat), i < f → (T.set x f i t).get j = if j = i then x else t.get j := by
  intro f
  induction f with
  | zero => intro i t j h; omega
  | succ f ih =>
    intro i t j h
    cases i with
    | zero =>
      cases t with
      | leaf =>
        show (T.node x .leaf .leaf).get j = _
        cases j with
        | zero => simp [T.get_zero]
        | succ j => simp [T.get_succ, T.get_leaf]
      | node v l r =>
        show (T.node x l r).get j = _
        cases j with
        | zero => simp [T.get_zero]
        | succ j => simp [T.get_succ]
    | succ i =>
      have hi : i / 2 < f := by omega
      cases t with
      | leaf =>
        rw [show T.set x (f + 1) (i + 1) .leaf = (match odd i with | true => T.node none .leaf (T.set x f (half i) .leaf) | false => T.node none (T.set x f (half i) .leaf) .leaf) from by
          show Bool.rec (motive := fun _ => T α) _ _ (odd i) = _
          cases odd i <;> rfl]
        rw [odd_mod, half_div]
        by_cases ho : i % 2 = 1
        · simp only [ho, decide_true]
          cases j with
          | zero => simp [T.get_zero, T.get_leaf]
          | succ j =>
            rw [T.get_succ, ih _ _ _ hi]
            by_cases hj : j % 2 = 1
            · rw [if_pos hj]
              by_cases e : j = i
              · subst e; simp
              · rw [if_neg (by omega), if_neg (by omega)]; simp [T.get_leaf]
            · rw [if_neg hj, if_neg (by omega)]; simp [T.get_leaf]
        · simp only [ho, decide_false]
          cases j with
          | zero => simp [T.get_zero, T.get_leaf]
          | succ j =>
            rw [T.get_succ, ih _ _ _ hi]
            by_cases hj : j % 2 = 1
            · rw [if_pos hj, if_neg (by omega)]; simp [T.get_leaf]
            · rw [if_neg hj]
              by_cases e : j = i
              · subst e; simp
              · rw [if_neg (by omega), if_neg (by omega)]; simp [T.get_leaf]
      | node v l r =>
        rw [show T.set x (f + 1) (i + 1) (.node v l r) = (match odd i with | true => T.node v l (T.set x f (half i) r) | false => T.node v (T.set x f (half i) l) r) from by
          show Bool.rec (motive := fun _ => T α) _ _ (odd i) = _
          cases odd i <;> rfl]
        rw [odd_mod, half_div]
        by_cases ho : i % 2 = 1
        · simp only [ho, decide_true]
          cases j with
          | zero => simp [T.get_zero]
          | succ j =>
            rw [T.get_succ, T.get_succ, ih _ _ _ hi]
            by_cases hj : j % 2 = 1
            · rw [if_pos hj, if_pos hj]
              by_cases e : j = i
              · subst e; simp
              · rw [if_neg (by omega), if_neg (by omega)]
            · rw [if_neg hj, if_neg hj, if_neg (by omega)]
        · simp only [ho, decide_false]
          cases j with
          | zero => simp [T.get_zero]
          | succ j =>
            rw [T.get_succ, T.get_succ, ih _ _ _ hi]
            by_cases hj : j % 2 = 1
            · rw [if_pos hj, if_pos hj, if_neg (by omega)]
            · rw [if_neg hj, if_neg hj]
              by_cases e : j = i
              · subst e; simp
              · rw [if_neg (by omega), if_neg (by omega)]
theorem T.get_put {α : Type} (t : T α) (i : Nat) (x : α) (j : Nat) : (t.put i x).get j = if j = i then some x else t.get j := T.get_set _ _ _ _ _ (Nat.lt_succ_self i)
theorem T.get_del {α : Type} (t : T α) (i : Nat) (j : Nat) : (t.del i).get j = if j = i then none else t.get j := T.get_set _ _ _ _ _ (Nat.lt_succ_self i)

theorem Hp.get_put (H : Hp) (b : Nat) (o : Ob) (j : Nat) : (H.put b o).get j = if j = b then some o else H.get j := T.get_put _ _ _ _
theorem Hp.get_del (H : Hp) (b : Nat) (j : Nat) : (H.del b).get j = if j = b then none else H.get j := T.get_del _ _ _
theorem Hp.get_new (H : Hp) (o : Ob) (j : Nat) : (H.new o).get j = if j = H.next then some o else H.get j := T.get_put _ _ _ _

/-! ### lists -/
theorem lget_eq {α : Type} : ∀ (l : List α) (i : Nat), lget l i = l[i]?
  | [], i => by cases i <;> rfl
  | _ :: _, 0 => rfl
  | _ :: l, i + 1 => by show lget l i = _; rw [lget_eq l i]; simp
theorem dropA_eq {α : Type} : ∀ (n : Nat) (l : List α), dropA n l = l.drop n
  | 0, l => rfl
  | _ + 1, [] => rfl
  | n + 1, _ :: l => by show dropA n l = _; rw [dropA_eq n l]; rfl
theorem takeN_cons {α : Type} (n : Nat) (a : α) (l : List α) : takeN (n + 1) (a :: l) = (match takeN n l with | some r => some (a :: r) | none => none) := by
  show Option.rec (motive := fun _ => Option (List α)) none (fun r => some (a :: r)) (takeN n l) = _
  cases takeN n l <;> rfl
theorem takeN_zero {α : Type} (l : List α) : takeN 0 l = some [] := rfl
theorem takeN_nil {α : Type} (n : Nat) : takeN (n + 1) ([] : List α) = none := rfl
theorem takeN_some {α : Type} : ∀ (n : Nat) (l r : List α), takeN n l = some r → r = l.take n ∧ n ≤ l.length
  | 0, l, r, h => by simp [takeN_zero] at h; subst h; simp
  | _ + 1, [], r, h => by simp [takeN_nil] at h
  | n + 1, a :: l, r, h => by
    simp only [takeN_cons] at h
    cases hr : takeN n l with
    | none => rw [hr] at h; simp at h
    | some r' =>
      rw [hr] at h
      simp at h
      obtain ⟨e, hl⟩ := takeN_some n l r' hr
      subst h; subst e
      simp; omega
theorem over_some {α : Type} : ∀ (n l r : List α), over n l = some r → r = n ++ l.drop n.length ∧ n.length ≤ l.length
  | [], l, r, h => by simp [over] at h; subst h; simp
  | _ :: _, [], r, h => by simp [over] at h
  | a :: n, b :: l, r, h => by
    simp only [over] at h
    cases hr : over n l with
    | none => rw [hr] at h; simp at h
    | some r' =>
      rw [hr] at h
      simp at h
      obtain ⟨e, hl⟩ := over_some n l r' hr
      subst h; subst e
      simp; omega
theorem splice_some {α : Type} (n : List α) : ∀ (i : Nat) (l r : List α), splice n i l = some r → r = l.take i ++ n ++ l.drop (i + n.length) ∧ i + n.length ≤ l.length
  | 0, l, r, h => by
    obtain ⟨e, hl⟩ := over_some n l r h
    subst e; simp; omega
  | _ + 1, [], r, h => by simp [splice] at h
  | i + 1, a :: l, r, h => by
    simp only [splice] at h
    cases hr : splice n i l with
    | none => rw [hr] at h; simp at h
    | some r' =>
      rw [hr] at h
      simp at h
      obtain ⟨e, hl⟩ := splice_some n i l r' hr
      subst h; subst e
      refine ⟨?_, by simp; omega⟩
      rw [show i + 1 + n.length = (i + n.length) + 1 from by omega]
      simp
theorem leneq_iff : ∀ (a b : List Nat), leneq a b = decide (a = b)
  | [], [] => by simp [leneq]
  | [], _ :: _ => by simp [leneq]
  | _ :: _, [] => by simp [leneq]
  | x :: a, y :: b => by
    simp only [leneq]
    cases h : Nat.beq x y with
    | true => have := Nat.eq_of_beq_eq_true h; subst this; simp [leneq_iff a b]
    | false => have := Nat.ne_of_beq_eq_false h; simp [this]

theorem beq_dec (a b : Nat) : Nat.beq a b = decide (a = b) := by
  cases h : Nat.beq a b with
  | true => have := Nat.eq_of_beq_eq_true h; subst this; simp
  | false => have := Nat.ne_of_beq_eq_false h; simp [this]
theorem blt_dec (a b : Nat) : Nat.blt a b = decide (a < b) := by
  by_cases h : a < b
  · rw [decide_eq_true h]; exact (Nat.blt_eq (x := a) (y := b)).mpr h
  · rw [decide_eq_false h]
    cases h' : Nat.blt a b with
    | false => rfl
    | true => exact absurd ((Nat.blt_eq (x := a) (y := b)).mp h') h
theorem ble_dec (a b : Nat) : Nat.ble a b = decide (a ≤ b) := by
  by_cases h : a ≤ b
  · rw [decide_eq_true h]; exact Nat.ble_eq.mpr h
  · rw [decide_eq_false h]
    cases h' : Nat.ble a b with
    | false => rfl
    | true => exact absurd (Nat.ble_eq.mp h') h
theorem ieq_eq (x y : Int) : ieq x y = decide (x = y) := by
  cases x with
  | ofNat a => cases y with
    | ofNat b => show Nat.beq a b = decide ((a : Int) = (b : Int)); rw [beq_dec]; simp only [Int.ofNat_inj]
    | negSucc b => show false = _; simp
  | negSucc a => cases y with
    | ofNat b => show false = _; simp
    | negSucc b => show Nat.beq a b = _; rw [beq_dec]; simp
theorem ilt_eq (x y : Int) : ilt x y = decide (x < y) := by
  cases x with
  | ofNat a => cases y with
    | ofNat b => show Nat.blt a b = _; rw [blt_dec]; simp
    | negSucc b => show false = _; symm; apply decide_eq_false; show ¬ ((a : Int) < _); omega
  | negSucc a => cases y with
    | ofNat b => show true = _; symm; apply decide_eq_true; show _ < (b : Int); omega
    | negSucc b => show Nat.blt b a = _; rw [blt_dec]; congr 1; apply propext; omega
theorem fits_wrap (k : IntKind) (n : Int) (h : fits k n = true) : k.wrap n = n := by
  cases n with
  | ofNat a =>
    show k.wrap (a : Int) = (a : Int)
    cases k <;> simp only [fits, blt_dec, decide_eq_true_eq] at h <;> first | (cases h; done) | (simp only [IntKind.wrap, IntKind.bits, IntKind.signed]; simp; omega)
  | negSucc a =>
    cases k <;> simp only [fits, blt_dec, decide_eq_true_eq] at h <;> first | (cases h; done) | (simp only [IntKind.wrap, IntKind.bits, IntKind.signed]; simp; omega)
theorem wr_eq (k : IntKind) (n : Int) : wr k n = k.wrap n := by
  unfold wr
  cases h : fits k n with
  | true => exact (fits_wrap k n h).symm
  | false => rfl
theorem keq_iff (a b : IntKind) : keq a b = true ↔ a = b := by cases a <;> cases b <;> simp [keq]
theorem Fr.put_eq (F : Fr) (d : Nat) (v : AV) : F.put d v = (match Nat.blt d F.size with | true => some { F with t := F.t.put d v } | false => none) := by cases F; rfl
@[simp] theorem Hp.new_next (H : Hp) (o : Ob) : (H.new o).next = H.next + 1 := rfl
@[simp] theorem Hp.put_next (H : Hp) (b : Nat) (o : Ob) : (H.put b o).next = H.next := rfl
@[simp] theorem Hp.del_next (H : Hp) (b : Nat) : (H.del b).next = H.next := rfl
end Go.Ae
