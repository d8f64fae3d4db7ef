/-
  A part of an evaluator of translated programs, and of the proof that what it answers is what the model says; no condition.
-/
import Derived.Test.YtnenpicelhkelaaGreatDoorAeMap
namespace Go.Ae
set_option linter.unusedVariables false

abbrev Phi := Nat → Option (Nat × Nat × Nat)
def PhiLe (φ φ' : Phi) : Prop := ∀ b x, φ b = some x → φ' b = some x
theorem PhiLe.refl (φ : Phi) : PhiLe φ φ := fun _ _ h => h
theorem PhiLe.trans {a b c : Phi} (h : PhiLe a b) (k : PhiLe b c) : PhiLe a c := fun i x hx => k i x (h i x hx)

def toBytes (s : List Nat) : ByteArray := ⟨(s.map UInt8.ofNat).toArray⟩
def capOf (N off : Nat) : Cp → Nat
  | .known c => c
  | .toEnd z => (N - off) / z
mutual
def cv (φ : Phi) : AV → Option Value
  | .bool b => some (.bool b)
  | .int k n => some (.int k n)
  | .str s => if s.all (fun n => decide (n < 256)) = true then some (.string (toBytes s)) else none
  | .nilp => some (.pointer none)
  | .ptr b off => match φ b with
    | some (n, _, s) => some (.pointer (some ⟨n, off + s, none⟩))
    | none => none
  | .nils => some (.slice none 0 0)
  | .slice b off len cap => match φ b with
    | some (n, N, s) => some (.slice (some ⟨n, off + s, none⟩) len (capOf N (off + s) cap))
    | none => none
  | .nilm => some (.map none)
  | .map b => match φ b with
    | some (n, _, _) => some (.map (some n))
    | none => none
  | .nilc => some (.chan none)
  | .chan b => match φ b with
    | some (n, _, _) => some (.chan (some n))
    | none => none
  | .func fn first cap => match cvL φ first, cvL φ cap with
    | some a, some b => some (.func fn a.toArray b.toArray)
    | _, _ => none
  | .yieldf l => match φ l with
    | some (n, _, _) => some (.func (.yield n) #[] #[])
    | none => none
  | .nilf => some .nilFunc
  | .iface t v => match cv φ v with
    | some x => some (.iface t x)
    | none => none
  | .nili => some .nilIface
  | .agg l => match cvL φ l with
    | some a => some (.agg a.toArray)
    | none => none
  | .tup l => match cvL φ l with
    | some a => some (.tuple a.toArray)
    | none => none
def cvL (φ : Phi) : List AV → Option (List Value)
  | [] => some []
  | v :: l => match cv φ v, cvL φ l with
    | some a, some r => some (a :: r)
    | _, _ => none
end

mutual
theorem cv_mono {φ φ' : Phi} (h : PhiLe φ φ') : ∀ (v : AV) (V : Value), cv φ v = some V → cv φ' v = some V
  | .bool _, _, e => e
  | .int _ _, _, e => e
  | .str _, _, e => e
  | .nilp, _, e => e
  | .ptr b off, V, e => by
    simp only [cv] at e ⊢
    cases hb : φ b with
    | none => rw [hb] at e; simp at e
    | some x => rw [h b x hb]; rw [hb] at e; exact e
  | .nils, _, e => e
  | .slice b off len cap, V, e => by
    simp only [cv] at e ⊢
    cases hb : φ b with
    | none => rw [hb] at e; simp at e
    | some x => rw [h b x hb]; rw [hb] at e; exact e
  | .nilm, _, e => e
  | .map b, V, e => by
    simp only [cv] at e ⊢
    cases hb : φ b with
    | none => rw [hb] at e; simp at e
    | some x => rw [h b x hb]; rw [hb] at e; exact e
  | .nilc, _, e => e
  | .chan b, V, e => by
    simp only [cv] at e ⊢
    cases hb : φ b with
    | none => rw [hb] at e; simp at e
    | some x => rw [h b x hb]; rw [hb] at e; exact e
  | .func fn first cap, V, e => by
    simp only [cv] at e ⊢
    cases h1 : cvL φ first with
    | none => rw [h1] at e; simp at e
    | some a =>
      cases h2 : cvL φ cap with
      | none => rw [h1, h2] at e; simp at e
      | some b => rw [cvL_mono h first a h1, cvL_mono h cap b h2]; rw [h1, h2] at e; exact e
  | .yieldf b, V, e => by
    simp only [cv] at e ⊢
    cases hb : φ b with
    | none => rw [hb] at e; simp at e
    | some x => rw [h b x hb]; rw [hb] at e; exact e
  | .nilf, _, e => e
  | .iface t v, V, e => by
    simp only [cv] at e ⊢
    cases h1 : cv φ v with
    | none => rw [h1] at e; simp at e
    | some x => rw [cv_mono h v x h1]; rw [h1] at e; exact e
  | .nili, _, e => e
  | .agg l, V, e => by
    simp only [cv] at e ⊢
    cases h1 : cvL φ l with
    | none => rw [h1] at e; simp at e
    | some x => rw [cvL_mono h l x h1]; rw [h1] at e; exact e
  | .tup l, V, e => by
    simp only [cv] at e ⊢
    cases h1 : cvL φ l with
    | none => rw [h1] at e; simp at e
    | some x => rw [cvL_mono h l x h1]; rw [h1] at e; exact e
theorem cvL_mono {φ φ' : Phi} (h : PhiLe φ φ') : ∀ (l : List AV) (L : List Value), cvL φ l = some L → cvL φ' l = some L
  | [], _, e => e
  | v :: l, L, e => by
    simp only [cvL] at e ⊢
    cases h1 : cv φ v with
    | none => rw [h1] at e; simp at e
    | some a =>
      cases h2 : cvL φ l with
      | none => rw [h1, h2] at e; simp at e
      | some r => rw [cv_mono h v a h1, cvL_mono h l r h2]; rw [h1, h2] at e; exact e
end

/-! ### lists of values -/
section lists
variable {φ : Phi}
theorem cvL_cons {v : AV} {l : List AV} {L : List Value} : cvL φ (v :: l) = some L ↔ ∃ a r, cv φ v = some a ∧ cvL φ l = some r ∧ L = a :: r := by
  simp only [cvL]
  cases h1 : cv φ v <;> cases h2 : cvL φ l <;> simp [eq_comm]
theorem cvL_mk {v : AV} {l : List AV} {a : Value} {r : List Value} (h1 : cv φ v = some a) (h2 : cvL φ l = some r) : cvL φ (v :: l) = some (a :: r) := cvL_cons.2 ⟨a, r, h1, h2, rfl⟩
theorem cvL_length : ∀ {l : List AV} {L : List Value}, cvL φ l = some L → L.length = l.length
  | [], L, h => by simp [cvL] at h; subst h; rfl
  | v :: l, L, h => by
    obtain ⟨a, r, _, h2, rfl⟩ := cvL_cons.1 h
    simp [cvL_length h2]
theorem cvL_append : ∀ {l m : List AV} {L M : List Value}, cvL φ l = some L → cvL φ m = some M → cvL φ (l ++ m) = some (L ++ M)
  | [], m, L, M, h, k => by simp [cvL] at h; subst h; exact k
  | v :: l, m, L, M, h, k => by
    obtain ⟨a, r, h1, h2, rfl⟩ := cvL_cons.1 h
    exact cvL_mk h1 (cvL_append h2 k)
theorem cvL_take : ∀ (n : Nat) {l : List AV} {L : List Value}, cvL φ l = some L → cvL φ (l.take n) = some (L.take n)
  | 0, l, L, h => by simp [cvL]
  | n + 1, [], L, h => by simp [cvL] at h; subst h; simp [cvL]
  | n + 1, v :: l, L, h => by
    obtain ⟨a, r, h1, h2, rfl⟩ := cvL_cons.1 h
    exact cvL_mk h1 (cvL_take n h2)
theorem cvL_drop : ∀ (n : Nat) {l : List AV} {L : List Value}, cvL φ l = some L → cvL φ (l.drop n) = some (L.drop n)
  | 0, l, L, h => by simpa using h
  | n + 1, [], L, h => by simp [cvL] at h; subst h; simp [cvL]
  | n + 1, v :: l, L, h => by
    obtain ⟨a, r, h1, h2, rfl⟩ := cvL_cons.1 h
    simpa using cvL_drop n h2
theorem cvL_get : ∀ {l : List AV} {L : List Value} {i : Nat} {v : AV}, cvL φ l = some L → l[i]? = some v → ∃ V, cv φ v = some V ∧ L[i]? = some V
  | [], L, i, v, h, k => by simp at k
  | u :: l, L, 0, v, h, k => by
    obtain ⟨a, r, h1, h2, rfl⟩ := cvL_cons.1 h
    simp at k; subst k
    exact ⟨a, h1, by simp⟩
  | u :: l, L, i + 1, v, h, k => by
    obtain ⟨a, r, h1, h2, rfl⟩ := cvL_cons.1 h
    obtain ⟨V, hV, hi⟩ := cvL_get (i := i) h2 (by simpa using k)
    exact ⟨V, hV, by simpa using hi⟩
theorem cvL_rep {x : List AV} {X : List Value} (h : cvL φ x = some X) : ∀ n, cvL φ (rep x n) = some (rep X n)
  | 0 => rfl
  | n + 1 => cvL_append h (cvL_rep h n)
theorem rep_length {α : Type} (x : List α) : ∀ n, (rep x n).length = n * x.length
  | 0 => by simp [rep]
  | n + 1 => by simp [rep, rep_length x n, Nat.succ_mul, Nat.add_comm]
end lists

/-! ### memory -/
def cvEn (φ : Phi) (e : En) : Option MapEntry := match cv φ e.key, cv φ e.val with
  | some k, some v => some ⟨k, v, e.born⟩
  | _, _ => none
def cvEs (φ : Phi) : List En → Option (List MapEntry)
  | [] => some []
  | e :: l => match cvEn φ e, cvEs φ l with
    | some a, some r => some (a :: r)
    | _, _ => none
theorem cvEn_mono {φ φ' : Phi} (h : PhiLe φ φ') (e : En) (E : MapEntry) (k : cvEn φ e = some E) : cvEn φ' e = some E := by
  unfold cvEn at k ⊢
  cases h1 : cv φ e.key with
  | none => rw [h1] at k; simp at k
  | some a =>
    cases h2 : cv φ e.val with
    | none => rw [h1, h2] at k; simp at k
    | some b => rw [cv_mono h _ a h1, cv_mono h _ b h2]; rw [h1, h2] at k; exact k
theorem cvEs_mono {φ φ' : Phi} (h : PhiLe φ φ') : ∀ (l : List En) (L : List MapEntry), cvEs φ l = some L → cvEs φ' l = some L
  | [], _, e => e
  | v :: l, L, e => by
    simp only [cvEs] at e ⊢
    cases h1 : cvEn φ v with
    | none => rw [h1] at e; simp at e
    | some a =>
      cases h2 : cvEs φ l with
      | none => rw [h1, h2] at e; simp at e
      | some r => rw [cvEn_mono h v a h1, cvEs_mono h l r h2]; rw [h1, h2] at e; exact e
theorem cvEs_cons {φ : Phi} {v : En} {l : List En} {L : List MapEntry} : cvEs φ (v :: l) = some L ↔ ∃ k x r, cv φ v.key = some k ∧ cv φ v.val = some x ∧ cvEs φ l = some r ∧ L = ⟨k, x, v.born⟩ :: r := by
  simp only [cvEs, cvEn]
  cases h1 : cv φ v.key <;> cases h2 : cv φ v.val <;> cases h3 : cvEs φ l <;> simp [eq_comm]
theorem cvEs_length {φ : Phi} : ∀ {l : List En} {L : List MapEntry}, cvEs φ l = some L → L.length = l.length
  | [], L, h => by simp [cvEs] at h; subst h; rfl
  | v :: l, L, h => by
    obtain ⟨k, x, r, _, _, h2, rfl⟩ := cvEs_cons.1 h
    simp [cvEs_length h2]

def TRel (φ : Phi) (F : Fr) (tmps : Array Value) : Prop :=
  tmps.size = F.size ∧ ∀ t v, F.t.get t = some v → ∃ V, cv φ v = some V ∧ tmps[t]? = some V
theorem TRel.mono {φ φ' : Phi} (h : PhiLe φ φ') {F : Fr} {tmps : Array Value} (k : TRel φ F tmps) : TRel φ' F tmps :=
  ⟨k.1, fun t v e => let ⟨V, h1, h2⟩ := k.2 t v e; ⟨V, cv_mono h v V h1, h2⟩⟩

def ORel (φ : Phi) (o : Ob) (N s : Nat) (c : Option Obj) : Prop :=
  match o with
  | .cells e opn cs => ∃ (C : Array Value) (fz : Nat × Nat) (Pre L R : List Value), c = some (.cells C e fz) ∧ C.size = N ∧ cvL φ cs = some L ∧ C.toList = Pre ++ (L ++ R) ∧ Pre.length = s ∧
      (opn = false → R = [] ∧ s = 0) ∧ ∀ i, i < N → ¬ (fz.1 ≤ i ∧ i < fz.2)
  | .map es k => ∃ Es, cvEs φ es = some Es ∧ c = some (.map Es.toArray k)
  | .mapIter none since seen stepped => s = 0 ∧ c = some (.mapIter none since seen.toArray stepped)
  | .mapIter (some b) since seen stepped => s = 0 ∧ ∃ n x, φ b = some (n, x) ∧ c = some (.mapIter (some n) since seen.toArray stepped)
  | .loop st pend fn F ps as bo r => ∃ tmps rn x fn', TRel φ F tmps ∧ φ r = some (rn, x) ∧ c = some (.loop ⟨st, pend, fn', tmps, ps.toArray, as, bo, rn⟩)
  | .deferred true => c = some (.deferred (some []))
  | .deferred false => c = some (.deferred none)
theorem ORel.mono {φ φ' : Phi} (h : PhiLe φ φ') {o : Ob} {N s : Nat} {c : Option Obj} (k : ORel φ o N s c) : ORel φ' o N s c := by
  cases o with
  | cells e opn cs =>
    obtain ⟨C, fz, Pre, L, R, h1, h2, h3, h4⟩ := k
    exact ⟨C, fz, Pre, L, R, h1, h2, cvL_mono h _ _ h3, h4⟩
  | map es k' => obtain ⟨Es, h1, h2⟩ := k; exact ⟨Es, cvEs_mono h _ _ h1, h2⟩
  | mapIter m since seen stepped =>
    cases m with
    | none => exact k
    | some b => obtain ⟨h0, n, x, h1, h2⟩ := k; exact ⟨h0, n, x, h _ _ h1, h2⟩
  | loop st pend fn F ps as bo r =>
    obtain ⟨tmps, rn, x, fn', h1, h2, h3⟩ := k
    exact ⟨tmps, rn, x, fn', h1.mono h, h _ _ h2, h3⟩
  | deferred b => cases b <;> exact k
theorem ORel.some_of {φ : Phi} {o : Ob} {N s : Nat} {c : Option Obj} (k : ORel φ o N s c) : ∃ x, c = some x := by
  cases o with
  | cells e opn cs => obtain ⟨C, fz, Pre, L, R, h1, _⟩ := k; exact ⟨_, h1⟩
  | map es k' => obtain ⟨Es, h1, h2⟩ := k; exact ⟨_, h2⟩
  | mapIter m since seen stepped =>
    cases m with
    | none => exact ⟨_, k.2⟩
    | some b => obtain ⟨h0, n, x, h1, h2⟩ := k; exact ⟨_, h2⟩
  | loop st pend fn F ps as bo r => obtain ⟨tmps, rn, x, fn', h1, h2, h3⟩ := k; exact ⟨_, h3⟩
  | deferred b => cases b <;> exact ⟨_, k⟩

structure HRel (φ : Phi) (H : Hp) (w : World) : Prop where
  fresh : ∀ b, H.next ≤ b → φ b = none
  live : ∀ b o, H.get b = some o → ∃ n N s, φ b = some (n, N, s) ∧ ORel φ o N s w.heap[n]?
  inj : ∀ b b' o o' n x x', H.get b = some o → H.get b' = some o' → φ b = some (n, x) → φ b' = some (n, x') → b = b'

structure Keep (φ : Phi) (H : Hp) (w : World) (φ' : Phi) (H' : Hp) (w' : World) : Prop where
  size : w.heap.size ≤ w'.heap.size
  img : ∀ b o n x, H'.get b = some o → φ' b = some (n, x) → w.heap.size ≤ n ∨ ∃ b0 o0 x0, H.get b0 = some o0 ∧ φ b0 = some (n, x0)
  same : ∀ n, n < w.heap.size → (∀ b o x, H.get b = some o → φ b ≠ some (n, x)) → w'.heap[n]? = w.heap[n]?
  os : w'.os = w.os
  tape : w'.tape = w.tape
  output : w'.output = w.output

structure Post (φ : Phi) (H : Hp) (w : World) (φ' : Phi) (H' : Hp) (w' : World) : Prop where
  le : PhiLe φ φ'
  rel : HRel φ' H' w'
  keep : Keep φ H w φ' H' w'
  next : H.next ≤ H'.next
  old : ∀ b, b < H.next → φ' b = φ b

theorem Keep.refl (φ : Phi) (H : Hp) (w : World) : Keep φ H w φ H w :=
  ⟨Nat.le_refl _, fun b o n x h k => .inr ⟨b, o, x, h, k⟩, fun _ _ _ => rfl, rfl, rfl, rfl⟩
theorem Keep.trans {φ φ1 φ2 : Phi} {H H1 H2 : Hp} {w w1 w2 : World} (a : Keep φ H w φ1 H1 w1) (b : Keep φ1 H1 w1 φ2 H2 w2) : Keep φ H w φ2 H2 w2 where
  size := Nat.le_trans a.size b.size
  img := fun i o n x h k => by
    rcases b.img i o n x h k with h1 | ⟨b0, o0, x0, h1, h2⟩
    · exact .inl (Nat.le_trans a.size h1)
    · exact a.img b0 o0 n x0 h1 h2
  same := fun n hn hh => by
    rw [b.same n (Nat.lt_of_lt_of_le hn a.size) ?_, a.same n hn hh]
    intro i o x h k
    rcases a.img i o n x h k with h1 | ⟨b0, o0, x0, h1, h2⟩
    · omega
    · exact hh b0 o0 x0 h1 h2
  os := b.os.trans a.os
  tape := b.tape.trans a.tape
  output := b.output.trans a.output
theorem Post.refl {φ : Phi} {H : Hp} {w : World} (h : HRel φ H w) : Post φ H w φ H w := ⟨PhiLe.refl _, h, Keep.refl _ _ _, Nat.le_refl _, fun _ _ => rfl⟩
theorem Post.trans {φ φ1 φ2 : Phi} {H H1 H2 : Hp} {w w1 w2 : World} (a : Post φ H w φ1 H1 w1) (b : Post φ1 H1 w1 φ2 H2 w2) : Post φ H w φ2 H2 w2 :=
  ⟨a.le.trans b.le, b.rel, a.keep.trans b.keep, Nat.le_trans a.next b.next, fun i hi => (b.old i (Nat.lt_of_lt_of_le hi a.next)).trans (a.old i hi)⟩
/-- Orders were drawn. -/
theorem HRel.drew {φ : Phi} {H : Hp} {w w' : World} (h : HRel φ H w) (e : w'.heap = w.heap) : HRel φ H w' := ⟨h.fresh, by rw [e]; exact h.live, h.inj⟩
theorem Post.drew {φ : Phi} {H : Hp} {w w' : World} (h : HRel φ H w) (e : w'.heap = w.heap) (e1 : w'.os = w.os) (e2 : w'.tape = w.tape) (e3 : w'.output = w.output) : Post φ H w φ H w' :=
  ⟨PhiLe.refl _, h.drew e, ⟨by rw [e]; exact Nat.le_refl _, fun b o n x h k => .inr ⟨b, o, x, h, k⟩, fun _ _ _ => by rw [e], e1, e2, e3⟩, Nat.le_refl _, fun _ _ => rfl⟩

theorem HRel.lt {φ : Phi} {H : Hp} {w : World} (h : HRel φ H w) {b : Nat} {o : Ob} (hb : H.get b = some o) : b < H.next := by
  obtain ⟨n, N, s, h1, _⟩ := h.live b o hb
  rcases Nat.lt_or_ge b H.next with h2 | h2
  · exact h2
  · rw [h.fresh b h2] at h1; cases h1
theorem HRel.block_lt {φ : Phi} {H : Hp} {w : World} (h : HRel φ H w) {b : Nat} {o : Ob} (hb : H.get b = some o) {n : Nat} {x : Nat × Nat} (hn : φ b = some (n, x)) : n < w.heap.size := by
  obtain ⟨n', N, s, h1, h2⟩ := h.live b o hb
  rw [hn] at h1
  injection h1 with h1; injection h1 with h1 _
  subst h1
  obtain ⟨y, hy⟩ := h2.some_of
  exact (Array.getElem?_eq_some_iff.1 hy).1

/-- A block is made. -/
theorem HRel.allocAt {φ : Phi} {H H1 : Hp} {w w1 : World} {id : Nat} {o : Ob} {obj : Obj} {N s : Nat} (h : HRel φ H w) (hid : φ id = none) (hw : w1.heap = w.heap.push obj)
    (hget : ∀ j, H1.get j = if j = id then some o else H.get j) (hnext : H.next ≤ H1.next) (hlt : id < H1.next)
    (ho : ORel (fun b => if b = id then some (w.heap.size, N, s) else φ b) o N s (some obj)) (e1 : w1.os = w.os) (e2 : w1.tape = w.tape) (e3 : w1.output = w.output) :
    PhiLe φ (fun b => if b = id then some (w.heap.size, N, s) else φ b) ∧ HRel (fun b => if b = id then some (w.heap.size, N, s) else φ b) H1 w1 ∧ Keep φ H w (fun b => if b = id then some (w.heap.size, N, s) else φ b) H1 w1 := by
  have hle : PhiLe φ (fun b => if b = id then some (w.heap.size, N, s) else φ b) := fun b x hb => by
    by_cases e : b = id
    · subst e; rw [hid] at hb; cases hb
    · simp [e, hb]
  refine ⟨hle, ⟨?_, ?_, ?_⟩, ⟨?_, ?_, ?_, e1, e2, e3⟩⟩
  · intro b hb
    have : b ≠ id := by omega
    simp only [this, if_false]
    exact h.fresh b (by omega)
  · intro b ob hb
    rw [hget] at hb
    by_cases e : b = id
    · subst e
      simp at hb; subst hb
      exact ⟨w.heap.size, N, s, by simp, by rw [hw]; simpa using ho⟩
    · rw [if_neg e] at hb
      obtain ⟨n, N', s', h1, h2⟩ := h.live b ob hb
      refine ⟨n, N', s', by simp [e, h1], ?_⟩
      have hn := h.block_lt hb h1
      rw [hw, Array.getElem?_push, if_neg (by omega)]
      exact h2.mono hle
  · intro b b' ob ob' n x x' hb hb' hn hn'
    rw [hget] at hb hb'
    by_cases e : b = id <;> by_cases e' : b' = id
    · rw [e, e']
    · rw [if_neg e'] at hb'
      simp only [e, if_true] at hn
      simp only [e', if_false] at hn'
      have := h.block_lt hb' hn'
      simp at hn; omega
    · rw [if_neg e] at hb
      simp only [e', if_true] at hn'
      simp only [e, if_false] at hn
      have := h.block_lt hb hn
      simp at hn'; omega
    · rw [if_neg e] at hb
      rw [if_neg e'] at hb'
      simp only [e, e', if_false] at hn hn'
      exact h.inj b b' ob ob' n x x' hb hb' hn hn'
  · rw [hw]; simp
  · intro b ob n x hb hn
    rw [hget] at hb
    by_cases e : b = id
    · simp only [e, if_true] at hn
      simp at hn; exact .inl (by omega)
    · rw [if_neg e] at hb
      simp only [e, if_false] at hn
      exact .inr ⟨b, ob, x, hb, hn⟩
  · intro n hn _
    rw [hw, Array.getElem?_push, if_neg (by omega)]

theorem HRel.alloc {φ : Phi} {H H1 : Hp} {w w1 : World} {id : Nat} {o : Ob} {obj : Obj} {N s : Nat} (h : HRel φ H w) (hid : H.next ≤ id) (hw : w1.heap = w.heap.push obj)
    (hget : ∀ j, H1.get j = if j = id then some o else H.get j) (hnext : H.next ≤ H1.next) (hlt : id < H1.next)
    (ho : ORel (fun b => if b = id then some (w.heap.size, N, s) else φ b) o N s (some obj)) (e1 : w1.os = w.os) (e2 : w1.tape = w.tape) (e3 : w1.output = w.output) :
    Post φ H w (fun b => if b = id then some (w.heap.size, N, s) else φ b) H1 w1 := by
  obtain ⟨a, b, c⟩ := HRel.allocAt h (h.fresh _ hid) hw hget hnext hlt ho e1 e2 e3
  exact ⟨a, b, c, hnext, fun b hb => by have : b ≠ id := by omega
                                        simp [this]⟩

/-- A block's contents are changed. -/
theorem HRel.update {φ : Phi} {H : Hp} {w w1 : World} {b n N s : Nat} {o o' : Ob} {obj : Obj} (h : HRel φ H w) (hb : H.get b = some o) (hn : φ b = some (n, N, s))
    (hw : ∀ j, w1.heap[j]? = if j = n then some obj else w.heap[j]?) (ho : ORel φ o' N s (some obj)) (e1 : w1.os = w.os) (e2 : w1.tape = w.tape) (e3 : w1.output = w.output) (e4 : w1.heap.size = w.heap.size) :
    Post φ H w φ (H.put b o') w1 := by
  refine ⟨PhiLe.refl _, ⟨h.fresh, ?_, ?_⟩, ⟨?_, ?_, ?_, e1, e2, e3⟩, Nat.le_refl _, fun _ _ => rfl⟩
  · intro c ob hc
    rw [Hp.get_put] at hc
    by_cases e : c = b
    · subst e
      simp at hc; subst hc
      exact ⟨n, N, s, hn, by rw [hw]; simpa using ho⟩
    · rw [if_neg e] at hc
      obtain ⟨n', N', s', h1, h2⟩ := h.live c ob hc
      refine ⟨n', N', s', h1, ?_⟩
      have : n' ≠ n := by
        intro e'; subst e'
        exact e (h.inj c b ob o n' _ _ hc hb h1 hn)
      rw [hw, if_neg this]; exact h2
  · intro c c' oc oc' m x x' hc hc' hm hm'
    rw [Hp.get_put] at hc hc'
    have f : ∀ d od, (if d = b then some o' else H.get d) = some od → ∃ od', H.get d = some od' := by
      intro d od hd
      by_cases e : d = b
      · subst e; exact ⟨o, hb⟩
      · rw [if_neg e] at hd; exact ⟨od, hd⟩
    obtain ⟨p, hp⟩ := f c oc hc
    obtain ⟨q, hq⟩ := f c' oc' hc'
    exact h.inj c c' p q m x x' hp hq hm hm'
  · omega
  · intro c oc m x hc hm
    rw [Hp.get_put] at hc
    by_cases e : c = b
    · subst e; exact .inr ⟨c, o, x, hb, hm⟩
    · rw [if_neg e] at hc; exact .inr ⟨c, oc, x, hc, hm⟩
  · intro m hm hh
    have : m ≠ n := by
      intro e; subst e
      exact hh b o _ hb hn
    rw [hw, if_neg this]

/-- Less is known. -/
theorem HRel.less {φ : Phi} {H H1 : Hp} {w : World} (h : HRel φ H w) (hn : H1.next = H.next) (hget : ∀ b o, H1.get b = some o → H.get b = some o) : HRel φ H1 w :=
  ⟨by rw [hn]; exact h.fresh, fun b o hb => h.live b o (hget b o hb), fun b b' o o' n x x' hb hb' => h.inj b b' o o' n x x' (hget b o hb) (hget b' o' hb')⟩
theorem Post.less {φ : Phi} {H H1 : Hp} {w : World} (h : HRel φ H w) (hn : H1.next = H.next) (hget : ∀ b o, H1.get b = some o → H.get b = some o) : Post φ H w φ H1 w :=
  ⟨PhiLe.refl _, h.less hn hget, ⟨Nat.le_refl _, fun b o n x hb k => .inr ⟨b, o, x, hget b o hb, k⟩, fun _ _ _ => rfl, rfl, rfl, rfl⟩, Nat.le_of_eq hn.symm, fun _ _ => rfl⟩
end Go.Ae
