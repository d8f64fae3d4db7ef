/-
  A part of an evaluator of translated programs, and of the proof that what it answers is what the model says; no condition.
-/
import Derived.Test.YtnenpicelhkelaaGreatDoorAeMap
import GoSem.ClaimFn
import GoSem.ClaimDataLaid
import GoSem.ClaimGoes
namespace Go.Ae
set_option linter.unusedVariables false
set_option linter.unusedSimpArgs false

/-! ### what a program's functions lead to, by tables -/
noncomputable def look {α : Type} (t : T (List α)) (g : Nat) : List α := match t.get g with
  | some l => l
  | none => []
noncomputable def leadP (P : Program) (g : FuncId) : List FuncId := (P.funcs[g]?).elim [] P.leadsTo
noncomputable def nameH (fn : Func) : Option String := if fn.ours || fn.body.isNone || fn.name == "runtime.NumGoroutine" then some fn.name else none
noncomputable def globH (fn : Func) : List Nat := fn.body.elim [] Code.globalsNamed
noncomputable def readH (fn : Func) : Option String := if fn.body.isNone then entryReads.lookup fn.name else none
noncomputable def optEq : Option String → Option String → Bool
  | none, none => true
  | some a, some b => a == b
  | _, _ => false
theorem optEq_eq {a b : Option String} (h : optEq a b = true) : a = b := by
  cases a <;> cases b <;> simp_all [optEq]
theorem leneq_eq' : ∀ {a b : List Nat}, leneq a b = true → a = b
  | [], [], _ => rfl
  | [], _ :: _, h => by simp [leneq] at h
  | _ :: _, [], h => by simp [leneq] at h
  | a :: l, b :: m, h => by
    unfold leneq at h
    split at h
    · rename_i hb
      rw [Nat.eq_of_beq_eq_true hb, leneq_eq' h]
    · cases h
structure Tabs where
  lead : T (List Nat)
  name : T String
  glob : T (List Nat)
  read : T String
noncomputable def chk1 (P : Program) (A : Tabs) (fn : Func) (i : Nat) : Bool :=
  match leneq (P.leadsTo fn) (look A.lead i) with
  | false => false
  | true => match optEq (nameH fn) (A.name.get i) with
    | false => false
    | true => match leneq (globH fn) (look A.glob i) with
      | false => false
      | true => optEq (readH fn) (A.read.get i)
noncomputable def chkL (P : Program) (A : Tabs) : Nat → List Func → Nat → Bool
  | 0, _, _ => true
  | _ + 1, [], _ => false
  | n + 1, fn :: l, i => match chk1 P A fn i with
    | true => chkL P A n l (i + 1)
    | false => false
structure Row (P : Program) (A : Tabs) (g : Nat) (fn : Func) : Prop where
  lead : P.leadsTo fn = look A.lead g
  name : nameH fn = A.name.get g
  glob : globH fn = look A.glob g
  read : readH fn = A.read.get g
theorem chk1_row {P : Program} {A : Tabs} {fn : Func} {i : Nat} (h : chk1 P A fn i = true) : Row P A i fn := by
  unfold chk1 at h
  split at h
  · cases h
  · rename_i h1
    split at h
    · cases h
    · rename_i h2
      split at h
      · cases h
      · rename_i h3
        exact ⟨leneq_eq' h1, optEq_eq h2, leneq_eq' h3, optEq_eq h⟩
noncomputable def lensum (t : T (List Nat)) : Nat → Nat → Nat
  | 0, _ => 0
  | n + 1, i => (match t.get i with | some l => l.length + 1 | none => 1) + lensum t n (i + 1)
noncomputable def fuelOf (P : Program) (l : List Func) : Nat := (l.map fun g => (P.leadsTo g).length + 1).sum
/-- From one function up to another: the tables say what the functions say. -/
structure Span (P : Program) (A : Tabs) (a b : Nat) (s : Nat) : Prop where
  row : ∀ g, a ≤ g → g < b → ∃ fn, P.funcs[g]? = some fn ∧ Row P A g fn
  fuel : s + fuelOf P (P.funcs.toList.drop b) ≤ fuelOf P (P.funcs.toList.drop a)
theorem chkL_rows {P : Program} {A : Tabs} : ∀ (n : Nat) (l : List Func) (i : Nat), chkL P A n l i = true → (∀ j, j < n → ∃ fn, l[j]? = some fn ∧ Row P A (i + j) fn) ∧ lensum A.lead n i + fuelOf P (l.drop n) ≤ fuelOf P l
  | 0, l, i, _ => ⟨fun j hj => by omega, by simp [lensum]⟩
  | n + 1, [], i, h => by simp [chkL] at h
  | n + 1, fn :: l, i, h => by
    simp only [chkL] at h
    split at h
    · rename_i h1
      have r := chk1_row h1
      obtain ⟨k1, k2⟩ := chkL_rows n l (i + 1) h
      refine ⟨fun j hj => ?_, ?_⟩
      · cases j with
        | zero => exact ⟨fn, rfl, r⟩
        | succ j =>
          obtain ⟨fn', e, r'⟩ := k1 j (by omega)
          exact ⟨fn', by simpa using e, by rw [show i + (j + 1) = i + 1 + j by omega]; exact r'⟩
      · have e : (match A.lead.get i with | some l => l.length + 1 | none => 1) = (P.leadsTo fn).length + 1 := by
          rw [r.lead]
          unfold look
          cases A.lead.get i <;> rfl
        have e2 : fuelOf P (fn :: l) = (P.leadsTo fn).length + 1 + fuelOf P l := by simp [fuelOf]
        simp only [lensum, List.drop_succ_cons]
        rw [e2, e]
        omega
    · cases h
theorem span {P : Program} {A : Tabs} {n a : Nat} (h : chkL P A n (P.funcs.toList.drop a) a = true) : Span P A a (a + n) (lensum A.lead n a) := by
  obtain ⟨h1, h2⟩ := chkL_rows n _ a h
  refine ⟨fun g hg hn => ?_, by simpa [List.drop_drop] using h2⟩
  obtain ⟨fn, e, r⟩ := h1 (g - a) (by omega)
  rw [List.getElem?_drop, show a + (g - a) = g by omega] at e
  rw [show a + (g - a) = g by omega] at r
  exact ⟨fn, by simpa using e, r⟩
theorem Span.join {P : Program} {A : Tabs} {a b c s t : Nat} (x : Span P A a b s) (y : Span P A b c t) : Span P A a c (s + t) := by
  refine ⟨fun g hg hn => ?_, by have := x.fuel; have := y.fuel; omega⟩
  by_cases h : g < b
  · exact x.row g hg h
  · exact y.row g (by omega) hn

/-! ### the closure -/
noncomputable def viaF (t : T (List Nat)) (N : Nat) : Nat → List Nat → T Unit → List Nat → Option (List Nat)
  | 0, _, _, _ => none
  | _ + 1, [], _, seen => some seen
  | n + 1, f :: todo, S, seen => match S.get f with
    | some _ => viaF t N n todo S seen
    | none => match Nat.blt f N with
      | true => viaF t N n (look t f ++ todo) (S.put f ()) (f :: seen)
      | false => none
theorem viaF_ok {P : Program} {A : Tabs} {N s : Nat} (hS : Span P A 0 N s) : ∀ (m : Nat) (todo : List Nat) (S : T Unit) (seen out : List Nat), (∀ f, S.get f = some () ↔ f ∈ seen) → viaF A.lead N m todo S seen = some out →
    ∀ n, m ≤ n + 1 → P.closureVia n todo seen = out.reverse
  | 0, _, _, _, _, _, h, _, _ => by simp [viaF] at h
  | m + 1, [], S, seen, out, _, h, n, _ => by
    simp only [viaF, Option.some.injEq] at h
    subst h
    cases n <;> simp [Program.closureVia]
  | m + 1, f :: todo, S, seen, out, hs, h, n, hn => by
    cases n with
    | zero =>
      have : m = 0 := by omega
      subst this
      simp only [viaF] at h
      split at h
      · cases h
      · split at h <;> cases h
    | succ n =>
      simp only [viaF] at h
      simp only [Program.closureVia]
      split at h
      · rename_i u hu
        cases u
        have hm : f ∈ seen := (hs f).1 hu
        rw [if_pos (by simpa using hm)]
        exact viaF_ok hS m todo S seen out hs h n (by omega)
      · rename_i hu
        have hm : ¬ f ∈ seen := fun h' => by rw [(hs f).2 h'] at hu; cases hu
        rw [if_neg (by simpa using hm)]
        split at h
        · rename_i hlt
          have hlt' : f < N := by simpa [Nat.blt_eq] using hlt
          obtain ⟨fn, e, r⟩ := hS.row f (Nat.zero_le _) hlt'
          rw [e]
          simp only [Option.elim_some]
          rw [r.lead]
          refine viaF_ok hS m _ _ _ out (fun g => ?_) h n (by omega)
          rw [T.get_put]
          by_cases hg : g = f
          · simp [hg]
          · simp [hg, hs g]
        · cases h

noncomputable def viaOk (t : T (List Nat)) (N m f : Nat) (C : List Nat) : Bool := match viaF t N m [f] .leaf [] with
  | some out => (match leneq out.reverse C with
    | true => C.all (Nat.blt · N)
    | false => false)
  | none => false
theorem closure_of {P : Program} {A : Tabs} {N s : Nat} (hS : Span P A 0 N s) {f m : Nat} {C : List Nat} (h : viaOk A.lead N m f C = true) (hm : Nat.ble m (s + 2) = true) : P.closure f = C ∧ ∀ g ∈ C, g < N := by
  unfold viaOk at h
  split at h
  · rename_i out ho
    split at h
    · rename_i he
      have he' := leneq_eq' he
      refine ⟨?_, fun g hg => by have := List.all_eq_true.1 h g hg; simpa [Nat.blt_eq] using this⟩
      have hf := hS.fuel
      have hm' : m ≤ s + 2 := Nat.le_of_ble_eq_true hm
      simp only [List.drop_zero] at hf
      have e : P.closure f = P.closureVia (1 + fuelOf P P.funcs.toList) [f] [] := rfl
      rw [e, viaF_ok hS m [f] .leaf [] out (fun g => by simp [T.get_leaf]) ho _ (by omega), he']
    · cases h
  · cases h
theorem filterMap_congr' {α β : Type} {p q : α → Option β} : ∀ {l : List α}, (∀ a ∈ l, p a = q a) → l.filterMap p = l.filterMap q
  | [], _ => rfl
  | a :: l, h => by
    simp only [List.filterMap_cons, h a (by simp), filterMap_congr' (fun b hb => h b (List.mem_cons_of_mem _ hb))]
theorem inPlace_of {P : Program} {A : Tabs} {N s : Nat} (hS : Span P A 0 N s) {f : Nat} {C : List Nat} (hC : P.closure f = C ∧ ∀ g ∈ C, g < N) : P.inPlace f = C.filterMap A.name.get := by
  unfold Program.inPlace
  rw [hC.1]
  refine filterMap_congr' fun g hg => ?_
  obtain ⟨fn, e, r⟩ := hS.row g (Nat.zero_le _) (hC.2 g hg)
  rw [e, ← r.name]
  rfl
theorem flatMap_congr' {α β : Type} {p q : α → List β} : ∀ {l : List α}, (∀ a ∈ l, p a = q a) → l.flatMap p = l.flatMap q
  | [], _ => rfl
  | a :: l, h => by
    simp only [List.flatMap_cons, h a (by simp), flatMap_congr' (fun b hb => h b (List.mem_cons_of_mem _ hb))]
theorem varsNamed_of {P : Program} {A : Tabs} {N s : Nat} (hS : Span P A 0 N s) {f : Nat} {C : List Nat} (hC : P.closure f = C ∧ ∀ g ∈ C, g < N) :
    P.varsNamed f = ((((C.flatMap (look A.glob)).eraseDups).filterMap (fun g => (P.globals[g]?).map (·.name))) ++ C.filterMap A.read.get).eraseDups := by
  unfold Program.varsNamed
  rw [hC.1]
  congr 2
  · congr 2
    refine flatMap_congr' fun g hg => ?_
    obtain ⟨fn, e, r⟩ := hS.row g (Nat.zero_le _) (hC.2 g hg)
    rw [e, ← r.glob]
    rfl
  · refine filterMap_congr' fun g hg => ?_
    obtain ⟨fn, e, r⟩ := hS.row g (Nat.zero_le _) (hC.2 g hg)
    rw [e, ← r.read]
    rfl
theorem unfollowed_of {P : Program} {f g : Nat} {C : List Nat} (hC : P.closure f = C) (hg : C.contains g = true) (h : ((P.funcs[g]?).any fun fn => match fn.body with | some c => c.unfollowed | none => entryCalls fn) = true) : P.unfollowed f = true := by
  unfold Program.unfollowed
  rw [hC, List.any_eq_true]
  exact ⟨g, by simpa using hg, h⟩
theorem recurses_of {P : Program} {f : Nat} (h : P.unfollowed f = true) : P.recurses f = true := by
  unfold Program.recurses
  rw [h]
  rfl

/-! ### the types -/
noncomputable def rowsAt (P : Program) : Nat → Nat → Bool
  | 0, _ => true
  | n + 1, i => match rowFine P i with
    | true => rowsAt P n (i + 1)
    | false => false
theorem rowsAt_ok {P : Program} : ∀ (n i : Nat), rowsAt P n i = true → ∀ g, i ≤ g → g < i + n → rowFine P g = true
  | 0, i, _, g, h1, h2 => by omega
  | n + 1, i, h, g, h1, h2 => by
    simp only [rowsAt] at h
    split at h
    · rename_i hr
      by_cases e : g = i
      · subst e; exact hr
      · exact rowsAt_ok n (i + 1) h g (by omega) (by omega)
    · cases h
theorem rows_join {P : Program} {a b c : Nat} (x : ∀ g, a ≤ g → g < b → rowFine P g = true) (y : ∀ g, b ≤ g → g < c → rowFine P g = true) : ∀ g, a ≤ g → g < c → rowFine P g = true := fun g h1 h2 => by
  by_cases h : g < b
  · exact x g h1 h
  · exact y g (by omega) h2
theorem laidOut_of {P : Program} {N : Nat} (h : ∀ g, 0 ≤ g → g < N → rowFine P g = true) (hN : Nat.ble P.types.size N = true) (hg : P.globals.all (fun g => decide (g.type < P.types.size)) = true)
    (hf : P.funcs.all (fun f => f.params.all fun t => decide (t < P.types.size)) = true) : laidOutB P = true := by
  unfold laidOutB
  rw [hg, hf]
  have : (List.range P.types.size).all (rowFine P) = true := by
    rw [List.all_eq_true]
    intro t ht
    have : P.types.size ≤ N := Nat.le_of_ble_eq_true hN
    exact h t (Nat.zero_le _) (by have := List.mem_range.1 ht; omega)
  rw [this]
  rfl

/-! ### no goroutine -/
noncomputable def goesL : Nat → List Func → Bool
  | 0, _ => true
  | _ + 1, [] => true
  | n + 1, fn :: l => match fn.goes with
    | true => false
    | false => goesL n l
theorem goesL_ok : ∀ (n : Nat) (l : List Func), goesL n l = true → ∀ j, j < n → ∀ fn, l[j]? = some fn → fn.goes = false
  | 0, l, _, j, hj, _, _ => by omega
  | n + 1, [], _, j, _, fn, h => by simp at h
  | n + 1, f :: l, h, j, hj, fn, e => by
    simp only [goesL] at h
    split at h
    · cases h
    · rename_i hf
      cases j with
      | zero => simp at e; subst e; exact hf
      | succ j => exact goesL_ok n l h j (by omega) fn (by simpa using e)
def Calm1 (P : Program) (a b : Nat) : Prop := ∀ g, a ≤ g → g < b → ∀ fn, P.funcs[g]? = some fn → fn.goes = false
theorem calm1 {P : Program} {n a : Nat} (h : goesL n (P.funcs.toList.drop a) = true) : Calm1 P a (a + n) := by
  intro g hg hn fn e
  refine goesL_ok n _ h (g - a) (by omega) fn ?_
  rw [List.getElem?_drop, show a + (g - a) = g by omega]
  simpa using e
theorem Calm1.join {P : Program} {a b c : Nat} (x : Calm1 P a b) (y : Calm1 P b c) : Calm1 P a c := fun g h1 h2 => by
  by_cases h : g < b
  · exact x g h1 h
  · exact y g (by omega) h2
theorem goes_of {P : Program} {N : Nat} (h : Calm1 P 0 N) (hN : Nat.ble P.funcs.size N = true) (f : FuncId) : P.goes f = false := by
  have hN' := Nat.le_of_ble_eq_true hN
  have all : ∀ (g : Nat) (fn : Func), P.funcs[g]? = some fn → fn.goes = false := fun g fn e => by
    obtain ⟨hl, _⟩ := Array.getElem?_eq_some_iff.1 e
    exact h g (Nat.zero_le _) (by omega) fn e
  unfold Program.goes
  have h1 : ((P.closure f).any fun g => (P.funcs[g]?).any Func.goes) = false := by
    rw [List.any_eq_false]
    intro g _
    cases e : P.funcs[g]? with
    | none => simp
    | some fn => simp [all g fn e]
  have h2 : P.funcs.any Func.goes = false := by
    rw [Array.any_eq_false]
    intro i hi
    have := all i P.funcs[i] (by simp)
    simp [this]
  rw [h1, h2]
  simp
theorem goesBy_of {P : Program} {c : OpenClaim} {f : FuncId} (hs : c.start = .entering) (hn : P.funcNamed c.func = some f) (h : P.goes f = false) : false = c.goesBy P := by
  unfold OpenClaim.goesBy Program.goesAt Program.goesFrom
  rw [hs, hn]
  simp [h]
end Go.Ae
