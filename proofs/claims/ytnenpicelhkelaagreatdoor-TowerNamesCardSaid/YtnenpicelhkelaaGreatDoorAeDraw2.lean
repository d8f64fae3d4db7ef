/-
  A part of an evaluator of translated programs, and of the proof that what it answers is what the model says; no condition.
-/
import Derived.Test.YtnenpicelhkelaaGreatDoorAeDraw
namespace Go.Ae
set_option linter.unusedSectionVars false
set_option linter.unusedVariables false
set_option linter.unusedSimpArgs false

def dn (listed : Array Bool) (j : Nat) : Bool := listed.getD j false
theorem dn_set {listed : Array Bool} {j : Nat} (hj : j < listed.size) (i : Nat) : dn (listed.setIfInBounds j true) i = if i = j then true else dn listed i := by
  unfold dn
  by_cases e : i = j
  · subst e; simp [hj]
  · rw [if_neg e, getD_set_ne _ (fun h => e h.symm)]
theorem newA_next {P : Program} {F : Fr} {n m : Nat} {t : T Ob} {o : Oper} {id : Nat} : newA P F ⟨n, t⟩ o id = newA P F ⟨m, t⟩ o id := by
  obtain ⟨dst, op, ty, pos, after, guard⟩ := o
  cases op <;> rfl

structure Sw (P : Program) (K : Hook) (R : Rec) (ro : Option Nat) (ops : Array Oper) (base : Nat) (F0 : Fr) (D0 : List ADef) (H0 : Hp) (rs : List Rc) : Prop where
  len : rs.length = ops.size
  sf : ∀ (j : Nat) (r : Rc), rs[j]? = some r → SF P K R ro ops base F0 D0 H0 rs j r
  pairs : allPairs 0 rs = true
  reads : readsOk P H0 (effsOf 0 rs []) 0 rs = true
  room : base + ops.size ≤ H0.next
  none : ∀ j, H0.get (base + j) = none

structure Inv (ops : Array Oper) (base : Nat) (F0 : Fr) (D0 : List ADef) (H0 : Hp) (rs : List Rc) (φ0 : Phi) (w0 : World) (listed : Array Bool) (φ : Phi) (a : Act) (w : World) : Prop where
  size : listed.size = ops.size
  closed : ∀ (j : Nat) (r : Rc), dn listed j = true → rs[j]? = some r → ∀ i, bit r.an i = true → dn listed i = true
  le : PhiLe φ0 φ
  old : ∀ b, b < base → φ b = φ0 b
  fresh : ∀ j, j < ops.size → dn listed j = false → φ (base + j) = none
  tsize : a.tmps.size = F0.size
  tdone : ∀ (j : Nat) (r : Rc) (d : Tmp), dn listed j = true → rs[j]? = some r → r.o.dst = some d → ∃ V, cv φ r.v = some V ∧ a.tmps[d]? = some V
  tkeep : ∀ t v, (∀ (j : Nat) (r : Rc), dn listed j = true → rs[j]? = some r → r.o.dst ≠ some t) → F0.t.get t = some v → ∃ V, cv φ v = some V ∧ a.tmps[t]? = some V
  defs : DRel φ (foldD (dn listed) 0 rs D0) a.defers
  rel : HRel φ (foldH (dn listed) 0 rs H0) w
  keep : Keep φ0 H0 w0 φ (foldH (dn listed) 0 rs H0) w
  next : base + ops.size ≤ (foldH (dn listed) 0 rs H0).next

section
variable {P : Program} {K : Hook} {R : Rec} {ro : Option Nat} {ops : Array Oper} {base : Nat} {F0 : Fr} {D0 : List ADef} {H0 : Hp} {rs : List Rc} (S : Sw P K R ro ops base F0 D0 H0 rs)
include S
theorem Sw.pair {i k : Nat} {a b : Rc} (hik : i < k) (ha : rs[i]? = some a) (hb : rs[k]? = some b) : pairOk i a b = true := by
  have := allPairs_some S.pairs i k a b hik ha hb
  simpa using this
theorem Sw.newId {j : Nat} {r : Rc} {id : Nat} {ob : Ob} (h : rs[j]? = some r) (hk : r.k = .new id ob) : id = base + j := by
  rcases step_cases (S.sf j r h).step with ⟨e, _⟩ | ⟨_, e⟩
  · rw [hk] at e; cases e
  · rcases e with ⟨e, _⟩ | ⟨e, _⟩ | ⟨ob', e, _⟩ | ⟨H', e, _⟩ | ⟨g, H', e, _⟩ | ⟨d, e, _⟩ <;> rw [hk] at e <;> cases e
    rfl
variable {φ0 : Phi} {w0 : World} {listed : Array Bool} {φ : Phi} {a : Act} {w : World} (I : Inv ops base F0 D0 H0 rs φ0 w0 listed φ a w)
  {j : Nat} {r : Rc} (hr : rs[j]? = some r) (hnot : dn listed j = false) (hpre : ∀ e ∈ r.o.after, Region.binds .any e = true → dn listed e.on = true)
include I hr hpre
theorem anc_done (i : Nat) (hi : bit r.an i = true) : dn listed i = true := by
  obtain ⟨e, he, hb, q⟩ := (S.sf j r hr).anc i hi
  have hd := hpre e he hb
  rcases q with rfl | ⟨re, h1, h2⟩
  · exact hd
  · exact I.closed e.on re hd h1 i h2
include hnot
theorem later {k : Nat} {x : Rc} (hd : dn listed k = true) (hx : rs[k]? = some x) : bit x.an j = false := by
  cases hb : bit x.an j with
  | false => rfl
  | true => have := I.closed k x hd hx j hb; rw [hnot] at this; cases this
theorem trel_at : TRel φ r.F a.tmps := by
  have f := S.sf j r hr
  refine ⟨by rw [f.fsize, I.tsize], fun t v ht => ?_⟩
  obtain ⟨hm, g⟩ := f.fget t v ht
  rcases g with ⟨i, ri, h1, h2, h3, rfl⟩ | ⟨h1, h2⟩
  · refine I.tdone i ri t (anc_done S I hr hpre i ?_) h2 h3
    rcases (pairOk_some (S.pair h1 h2 hr)).2.2 with q | ⟨q, _⟩
    · exact q
    · rw [q t h3] at hm; cases hm
  · refine I.tkeep t v (fun k x hk hx e => ?_) h2
    rcases Nat.lt_trichotomy k j with h | h | h
    · exact h1 k x h hx e
    · subst h; rw [hnot] at hk; cases hk
    · rcases (pairOk_some (S.pair h hr hx)).2.2 with q | ⟨_, q, _⟩
      · rw [later S I hr hnot hpre hk hx] at q; cases q
      · rw [q t e] at hm; cases hm
/-- An effect that is done stands ahead of none of this kind. -/
theorem no_later_eff (hk : r.k.isEff = true ∨ r.k.isNew = true) {k : Nat} {x : Rc} (hjk : j < k) (hx : rs[k]? = some x) (hd : dn listed k = true) : x.k.isEff = false := by
  cases he : x.k.isEff with
  | false => rfl
  | true =>
    rcases (pairOk_some (S.pair hjk hr hx)).2.2 with q | ⟨_, _, q⟩
    · rw [later S I hr hnot hpre hd hx] at q; cases q
    · obtain ⟨q1, q2⟩ := q he
      rcases hk with hk | hk
      · rw [q1] at hk; cases hk
      · rw [q2] at hk; cases hk
theorem split_at : rs = rs.take j ++ r :: rs.drop (j + 1) ∧ (rs.take j).length = j := by
  obtain ⟨hlt, he⟩ := List.getElem?_eq_some_iff.1 hr
  refine ⟨?_, by simp; omega⟩
  rw [← he, List.getElem_cons_drop, List.take_append_drop]
theorem foldH_dn : foldH (dn listed) 0 rs H0 = foldH (dn listed) (j + 1) (rs.drop (j + 1)) (foldH (dn listed) 0 (rs.take j) H0) := by
  obtain ⟨h1, h2⟩ := split_at S I hr hnot hpre
  conv => lhs; rw [h1]
  rw [foldH_append, h2, Nat.zero_add]
  simp [foldH, hnot]
theorem foldD_dn : foldD (dn listed) 0 rs D0 = foldD (dn listed) (j + 1) (rs.drop (j + 1)) (foldD (dn listed) 0 (rs.take j) D0) := by
  obtain ⟨h1, h2⟩ := split_at S I hr hnot hpre
  conv => lhs; rw [h1]
  rw [foldD_append, h2, Nat.zero_add]
  simp [foldD, hnot]
theorem j_lt : j < listed.size := by
  rw [I.size, ← S.len]
  exact (List.getElem?_eq_some_iff.1 hr).1
theorem foldH_set : foldH (dn (listed.setIfInBounds j true)) 0 rs H0 = foldH (dn listed) (j + 1) (rs.drop (j + 1)) (r.k.heap (foldH (dn listed) 0 (rs.take j) H0)) := by
  obtain ⟨h1, h2⟩ := split_at S I hr hnot hpre
  have hj := j_lt S I hr hnot hpre
  conv => lhs; rw [h1]
  rw [foldH_append, h2, Nat.zero_add]
  simp only [foldH, dn_set hj, if_true]
  rw [foldH_congr (dn' := dn listed) (rs.take j) 0 H0 (fun k x hx => .inl ?_)]
  · refine foldH_congr _ _ _ (fun k x hx => .inl ?_)
    rw [dn_set hj, if_neg (by omega)]
  · have : k < j := by
      have := (List.getElem?_eq_some_iff.1 hx).1
      simp at this; omega
    rw [dn_set hj, if_neg (by omega)]
theorem foldD_set : foldD (dn (listed.setIfInBounds j true)) 0 rs D0 = foldD (dn listed) (j + 1) (rs.drop (j + 1)) (r.k.defers (foldD (dn listed) 0 (rs.take j) D0)) := by
  obtain ⟨h1, h2⟩ := split_at S I hr hnot hpre
  have hj := j_lt S I hr hnot hpre
  conv => lhs; rw [h1]
  rw [foldD_append, h2, Nat.zero_add]
  simp only [foldD, dn_set hj, if_true]
  rw [foldD_congr (dn' := dn listed) (rs.take j) 0 D0 (fun k x hx => .inl ?_)]
  · refine foldD_congr _ _ _ (fun k x hx => .inl ?_)
    rw [dn_set hj, if_neg (by omega)]
  · have : k < j := by
      have := (List.getElem?_eq_some_iff.1 hx).1
      simp at this; omega
    rw [dn_set hj, if_neg (by omega)]
/-- One more is done. -/
theorem Inv.more {φ' : Phi} {a' : Act} {w' : World} {V : Value} (hle : PhiLe φ φ') (hold : ∀ b, b < base → φ' b = φ b) (hfr : ∀ i, i < ops.size → i ≠ j → dn listed i = false → φ' (base + i) = none)
    (hv : cv φ' r.v = some V) (ht : a'.tmps = a.tmps) (hd : DRel φ' (foldD (dn (listed.setIfInBounds j true)) 0 rs D0) a'.defers) (hrel : HRel φ' (foldH (dn (listed.setIfInBounds j true)) 0 rs H0) w')
    (hkeep : Keep φ (foldH (dn listed) 0 rs H0) w φ' (foldH (dn (listed.setIfInBounds j true)) 0 rs H0) w') (hnext : (foldH (dn listed) 0 rs H0).next ≤ (foldH (dn (listed.setIfInBounds j true)) 0 rs H0).next) :
    Inv ops base F0 D0 H0 rs φ0 w0 (listed.setIfInBounds j true) φ' (a'.put r.o.dst V) w' := by
  have hj := j_lt S I hr hnot hpre
  have hdn := dn_set hj
  have hput : ∀ t : Nat, (a'.put r.o.dst V).tmps[t]? = if r.o.dst = some t then some V else a.tmps[t]? := by
    intro t
    rw [put_tmps ht]
    cases hds : r.o.dst with
    | none => simp [Act.put]
    | some d =>
      simp only [Act.put, Array.getElem?_setIfInBounds]
      have := (S.sf j r hr).dst d hds
      rw [← I.tsize] at this
      by_cases e : d = t
      · subst e; simp [this]
      · simp [e]
  refine ⟨by simp [I.size], ?_, I.le.trans hle, fun b hb => (hold b hb).trans (I.old b hb), ?_, ?_, ?_, ?_, by rw [put_defers]; exact hd, hrel, I.keep.trans hkeep, Nat.le_trans I.next hnext⟩
  · intro k x hk hx i hi
    rw [hdn] at hk ⊢
    by_cases e : k = j
    · subst e
      rw [hr] at hx
      simp only [Option.some.injEq] at hx
      subst hx
      rw [anc_done S I hr hpre i hi]; simp
    · rw [if_neg e] at hk
      rw [I.closed k x hk hx i hi]; simp
  · intro i hi hd'
    rw [hdn] at hd'
    by_cases e : i = j
    · simp [e] at hd'
    · rw [if_neg e] at hd'
      exact hfr i hi e hd'
  · rw [put_tmps ht]
    cases r.o.dst <;> simp [Act.put, I.tsize]
  · intro k x d hk hx hds
    rw [hput]
    by_cases e : k = j
    · subst e
      rw [hr] at hx
      simp only [Option.some.injEq] at hx
      subst hx
      exact ⟨V, hv, by rw [if_pos hds]⟩
    · rw [hdn, if_neg e] at hk
      obtain ⟨V', h1, h2⟩ := I.tdone k x d hk hx hds
      refine ⟨V', cv_mono hle _ _ h1, ?_⟩
      rw [if_neg ?_]
      · exact h2
      · intro hds'
        rcases Nat.lt_trichotomy k j with h | h | h
        · exact (pairOk_some (S.pair h hx hr)).1 d hds hds'
        · exact e h
        · exact (pairOk_some (S.pair h hr hx)).1 d hds' hds
  · intro t v hno hget
    have h1 : r.o.dst ≠ some t := hno j r (by rw [hdn]; simp) hr
    obtain ⟨V', h2, h3⟩ := I.tkeep t v (fun k x hk hx => hno k x (by rw [hdn, hk]; simp) hx) hget
    exact ⟨V', cv_mono hle _ _ h2, by rw [hput, if_neg h1]; exact h3⟩
end
end Go.Ae
