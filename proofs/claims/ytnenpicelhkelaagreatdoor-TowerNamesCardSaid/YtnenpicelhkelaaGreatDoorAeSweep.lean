/-
  A part of an evaluator of translated programs, and of the proof that what it answers is what the model says; no condition.
-/
import Derived.Test.YtnenpicelhkelaaGreatDoorAeOpsOk
namespace Go.Ae
set_option linter.unusedVariables false
set_option linter.unusedSimpArgs false

theorem bit_eq (n i : Nat) : bit n i = n.testBit i := by
  unfold bit
  rw [odd_mod, Nat.testBit_eq_decide_div_mod_eq]
  simp [Nat.shiftRight_eq_div_pow]
theorem bit_or (a b i : Nat) : bit (Nat.lor a b) i = (bit a i || bit b i) := by
  simp only [bit_eq]
  exact Nat.testBit_or a b i
theorem bit_pow (k i : Nat) : bit (Nat.pow 2 k) i = decide (k = i) := by
  rw [bit_eq]
  exact Nat.testBit_two_pow
theorem bit_zero (i : Nat) : bit 0 i = false := by rw [bit_eq]; simp
theorem nth_eq : ∀ (l : List Nat) (n : Nat), nth l n = l[n]?
  | [], _ => by simp [nth]
  | a :: l, 0 => by simp [nth]
  | a :: l, n + 1 => by simp [nth, nth_eq l n]
theorem mem_iff : ∀ (a : Nat) (l : List Nat), mem a l = true ↔ a ∈ l
  | a, [] => by simp [mem]
  | a, b :: l => by
    simp only [mem, beq_dec, List.mem_cons]
    by_cases e : a = b
    · simp [e]
    · simp [e, mem_iff a l]
theorem anOf_some {acc : List Nat} {j : Nat} : ∀ {es : List Edge} {s an : Nat}, anOf acc j es s = some an →
    (∀ e ∈ es, Region.binds .any e = true → e.on < j) ∧ ∀ i, bit an i = true → bit s i = true ∨ ∃ e ∈ es, Region.binds .any e = true ∧ (i = e.on ∨ ∃ m, acc[j - 1 - e.on]? = some m ∧ bit m i = true)
  | [], s, an, h => by
    simp only [anOf, Option.some.injEq] at h
    subst h
    exact ⟨fun e he => by simp at he, fun i hi => .inl hi⟩
  | e :: es, s, an, h => by
    simp only [anOf] at h
    cases hb : Region.binds .any e with
    | false =>
      rw [hb] at h
      obtain ⟨h1, h2⟩ := anOf_some h
      refine ⟨fun x hx hb' => ?_, fun i hi => ?_⟩
      · rcases List.mem_cons.1 hx with rfl | hx
        · rw [hb] at hb'; cases hb'
        · exact h1 x hx hb'
      · rcases h2 i hi with q | ⟨x, hx, q⟩
        · exact .inl q
        · exact .inr ⟨x, List.mem_cons_of_mem _ hx, q⟩
    | true =>
      rw [hb] at h
      simp only [blt_dec, nth_eq] at h
      by_cases hlt : e.on < j
      case neg => simp [hlt] at h
      simp only [hlt, decide_true] at h
      cases hm : acc[j - 1 - e.on]? with
      | none => rw [hm] at h; simp at h
      | some m =>
        rw [hm] at h
        obtain ⟨h1, h2⟩ := anOf_some h
        refine ⟨fun x hx hb' => ?_, fun i hi => ?_⟩
        · rcases List.mem_cons.1 hx with rfl | hx
          · exact hlt
          · exact h1 x hx hb'
        · rcases h2 i hi with q | ⟨x, hx, q⟩
          · simp only [bit_or, bit_pow, Bool.or_eq_true, decide_eq_true_eq] at q
            rcases q with (q | q) | q
            · exact .inl q
            · exact .inr ⟨e, List.mem_cons_self, hb, .inl q.symm⟩
            · exact .inr ⟨e, List.mem_cons_self, hb, .inr ⟨m, hm, q⟩⟩
          · exact .inr ⟨x, List.mem_cons_of_mem _ hx, q⟩
theorem onlyT_some {t0 : T AV} : ∀ {l : List Tmp} {r : T AV} {x : Nat} {v : AV}, (onlyT t0 l r).get x = some v → r.get x = some v ∨ (x ∈ l ∧ t0.get x = some v)
  | [], r, x, v, h => .inl h
  | y :: l, r, x, v, h => by
    simp only [onlyT] at h
    cases hy : t0.get y with
    | none =>
      rw [hy] at h
      rcases onlyT_some h with q | ⟨q1, q2⟩
      · exact .inl q
      · exact .inr ⟨List.mem_cons_of_mem _ q1, q2⟩
    | some z =>
      rw [hy] at h
      rcases onlyT_some h with q | ⟨q1, q2⟩
      · rw [T.get_put] at q
        by_cases e : x = y
        · subst e
          simp at q; subst q
          exact .inr ⟨List.mem_cons_self, hy⟩
        · rw [if_neg e] at q; exact .inl q
      · exact .inr ⟨List.mem_cons_of_mem _ q1, q2⟩

/-! ### folds over the operations that are done -/
noncomputable def foldH (dn : Nat → Bool) : Nat → List Rc → Hp → Hp
  | _, [], H => H
  | j, r :: l, H => foldH dn (j + 1) l (if dn j = true then r.k.heap H else H)
def foldD (dn : Nat → Bool) : Nat → List Rc → List ADef → List ADef
  | _, [], D => D
  | j, r :: l, D => foldD dn (j + 1) l (if dn j = true then r.k.defers D else D)
theorem foldH_append (dn : Nat → Bool) : ∀ (l m : List Rc) (j : Nat) (H : Hp), foldH dn j (l ++ m) H = foldH dn (j + l.length) m (foldH dn j l H)
  | [], m, j, H => by simp [foldH]
  | r :: l, m, j, H => by
    simp only [List.cons_append, foldH, List.length_cons]
    rw [foldH_append dn l m (j + 1)]
    congr 1; omega
theorem foldD_append (dn : Nat → Bool) : ∀ (l m : List Rc) (j : Nat) (D : List ADef), foldD dn j (l ++ m) D = foldD dn (j + l.length) m (foldD dn j l D)
  | [], m, j, H => by simp [foldD]
  | r :: l, m, j, H => by
    simp only [List.cons_append, foldD, List.length_cons]
    rw [foldD_append dn l m (j + 1)]
    congr 1; omega
theorem foldH_congr {dn dn' : Nat → Bool} : ∀ (l : List Rc) (j : Nat) (H : Hp), (∀ k r, l[k]? = some r → dn (j + k) = dn' (j + k) ∨ (r.k.isEff = false ∧ r.k.isNew = false)) → foldH dn j l H = foldH dn' j l H
  | [], j, H, h => rfl
  | r :: l, j, H, h => by
    simp only [foldH]
    have e : (if dn j = true then r.k.heap H else H) = (if dn' j = true then r.k.heap H else H) := by
      rcases h 0 r (by simp) with q | ⟨q1, q2⟩
      · simp only [Nat.add_zero] at q; rw [q]
      · have : r.k.heap H = H := by cases hk : r.k <;> simp_all [Kd.isEff, Kd.isNew, Kd.heap]
        simp [this]
    rw [e]
    exact foldH_congr l (j + 1) _ (fun k x hx => by
      have := h (k + 1) x (by simpa using hx)
      rw [show j + (k + 1) = j + 1 + k from by omega] at this
      exact this)
theorem foldD_congr {dn dn' : Nat → Bool} : ∀ (l : List Rc) (j : Nat) (D : List ADef), (∀ k r, l[k]? = some r → dn (j + k) = dn' (j + k) ∨ r.k.isEff = false) → foldD dn j l D = foldD dn' j l D
  | [], j, H, h => rfl
  | r :: l, j, H, h => by
    simp only [foldD]
    have e : (if dn j = true then r.k.defers H else H) = (if dn' j = true then r.k.defers H else H) := by
      rcases h 0 r (by simp) with q | q1
      · simp only [Nat.add_zero] at q; rw [q]
      · have : r.k.defers H = H := by cases hk : r.k <;> simp_all [Kd.isEff, Kd.defers]
        simp [this]
    rw [e]
    exact foldD_congr l (j + 1) _ (fun k x hx => by
      have := h (k + 1) x (by simpa using hx)
      rw [show j + (k + 1) = j + 1 + k from by omega] at this
      exact this)
/-- The block that is made, among the operations done. -/
def newAt (dn : Nat → Bool) : Nat → List Rc → Nat → Option Ob
  | _, [], _ => none
  | j, r :: l, b => match newAt dn (j + 1) l b with
    | some o => some o
    | none => match r.k with
      | .new id ob => if dn j = true ∧ b = id then some ob else none
      | _ => none
theorem foldH_news {dn : Nat → Bool} : ∀ (l : List Rc) (j : Nat) (H : Hp), (∀ k r, l[k]? = some r → dn (j + k) = true → r.k.isEff = false) →
    (foldH dn j l H).next = H.next ∧ ∀ b, (foldH dn j l H).get b = match newAt dn j l b with | some o => some o | none => H.get b
  | [], j, H, h => ⟨rfl, fun b => rfl⟩
  | r :: l, j, H, h => by
    obtain ⟨h1, h2⟩ := foldH_news l (j + 1) (if dn j = true then r.k.heap H else H) (fun k x hx hd => h (k + 1) x (by simpa using hx) (by rw [show j + (k + 1) = j + 1 + k from by omega]; exact hd))
    have hr := h 0 r (by simp)
    simp only [Nat.add_zero] at hr
    simp only [foldH]
    refine ⟨?_, fun b => ?_⟩
    · rw [h1]
      by_cases hd : dn j = true
      · have := hr hd
        cases hk : r.k <;> simp_all [Kd.isEff, Kd.heap]
      · simp [hd]
    · rw [h2]
      simp only [newAt]
      cases newAt dn (j + 1) l b with
      | some o => rfl
      | none =>
        simp only
        by_cases hd : dn j = true
        · have := hr hd
          cases hk : r.k with
          | new id ob =>
            simp only [hd, if_true, Kd.heap, true_and]
            show (T.put H.t id ob).get b = _
            rw [T.get_put]
            by_cases e : b = id
            · simp [e]
            · simp [e]; rfl
          | eff D' H' => rw [hk] at this; simp [Kd.isEff] at this
          | _ => simp [hd, Kd.heap]
        · cases hk : r.k <;> simp [hd]
theorem newAt_some {dn : Nat → Bool} {b : Nat} {o : Ob} : ∀ {l : List Rc} {j : Nat}, newAt dn j l b = some o → ∃ k r, l[k]? = some r ∧ dn (j + k) = true ∧ r.k = .new b o
  | [], j, h => by simp [newAt] at h
  | r :: l, j, h => by
    simp only [newAt] at h
    cases hn : newAt dn (j + 1) l b with
    | some x =>
      rw [hn] at h
      simp only [Option.some.injEq] at h
      subst h
      obtain ⟨k, r', h1, h2, h3⟩ := newAt_some hn
      exact ⟨k + 1, r', by simpa using h1, by rw [show j + (k + 1) = j + 1 + k from by omega]; exact h2, h3⟩
    | none =>
      rw [hn] at h
      simp only at h
      cases hk : r.k with
      | new id ob =>
        rw [hk] at h
        simp only at h
        by_cases q : dn j = true ∧ b = id
        · rw [if_pos q] at h
          simp only [Option.some.injEq] at h
          subst h
          exact ⟨0, r, by simp, by simpa using q.1, by rw [hk, q.2]⟩
        · rw [if_neg q] at h; cases h
      | _ => rw [hk] at h; simp at h

/-! ### what a sweep has shown -/
def FGet (F0 : Fr) (full : List Rc) (j t : Nat) (v : AV) : Prop :=
  (∃ i r, i < j ∧ full[i]? = some r ∧ r.o.dst = some t ∧ v = r.v) ∨ ((∀ i r, i < j → full[i]? = some r → r.o.dst ≠ some t) ∧ F0.t.get t = some v)
structure SF (P : Program) (K : Hook) (R : Rec) (ro : Option Nat) (ops : Array Oper) (base : Nat) (F0 : Fr) (D0 : List ADef) (H0 : Hp) (full : List Rc) (j : Nat) (r : Rc) : Prop where
  o : ops[j]? = some r.o
  step : stepA P K R ro ops r.F r.D r.H ⟨r.H.next, .leaf⟩ (base + j) r.o = some (r.k, r.v)
  fsize : r.F.size = F0.size
  fget : ∀ t v, r.F.t.get t = some v → mem t r.looks = true ∧ FGet F0 full j t v
  dD : r.D = foldD (fun _ => true) 0 (full.take j) D0
  dH : r.H = foldH (fun _ => true) 0 (full.take j) H0
  back : ∀ e ∈ r.o.after, Region.binds .any e = true → e.on < j
  anc : ∀ i, bit r.an i = true → ∃ e ∈ r.o.after, Region.binds .any e = true ∧ (i = e.on ∨ ∃ re, full[e.on]? = some re ∧ bit re.an i = true)
  dst : ∀ d, r.o.dst = some d → d < F0.size

theorem sweep_facts {P : Program} {K : Hook} {R : Rec} {ro : Option Nat} {ops : Array Oper} {base : Nat} {F0 : Fr} {D0 : List ADef} {H0 : Hp} :
    ∀ (l : List Oper) (pre : List Rc) (F : Fr) (D : List ADef) (H : Hp) (rs : List Rc) (F' : Fr) (D' : List ADef) (H' : Hp),
      sweep P K R ro ops base pre.length (pre.map (·.an)).reverse l F D H = some (rs, F', D', H') → ops.toList.drop pre.length = l → F.size = F0.size → (∀ t v, F.t.get t = some v → FGet F0 pre pre.length t v) →
      D = foldD (fun _ => true) 0 pre D0 → H = foldH (fun _ => true) 0 pre H0 →
      rs.length = l.length ∧ (∀ k r, rs[k]? = some r → SF P K R ro ops base F0 D0 H0 (pre ++ rs) (pre.length + k) r) ∧ F'.size = F0.size ∧ (∀ t v, F'.t.get t = some v → FGet F0 (pre ++ rs) (pre ++ rs).length t v) ∧
      D' = foldD (fun _ => true) 0 (pre ++ rs) D0 ∧ H' = foldH (fun _ => true) 0 (pre ++ rs) H0 := by
  intro l
  induction l with
  | nil =>
    intro pre F D H rs F' D' H' h hl hs hf hD hH
    simp only [sweep, Option.some.injEq, Prod.mk.injEq] at h
    obtain ⟨rfl, rfl, rfl, rfl⟩ := h
    exact ⟨rfl, fun k r hr => by simp at hr, hs, by simpa using hf, by simpa using hD, by simpa using hH⟩
  | cons o l ih =>
    intro pre F D H rs F' D' H' h hl hs hf hD hH
    have ho : ops[pre.length]? = some o := by
      have := congrArg (·[0]?) hl
      simpa using this
    have hl' : ops.toList.drop (pre.length + 1) = l := by
      have := congrArg List.tail hl
      simpa using this
    simp only [sweep] at h
    cases ha : anOf (pre.map (·.an)).reverse pre.length o.after.toList 0 with
    | none => rw [ha] at h; simp at h
    | some an =>
      rw [ha] at h
      simp only at h
      cases hst : stepA P K R ro ops { size := F.size, t := onlyT F.t (looksA ops o) .leaf } D H ⟨H.next, .leaf⟩ (base + pre.length) o with
      | none => rw [hst] at h; simp at h
      | some kv =>
        obtain ⟨k, v⟩ := kv
        rw [hst] at h
        simp only at h
        cases hp : putA F o.dst v with
        | none => rw [hp] at h; simp at h
        | some F1 =>
          rw [hp] at h
          simp only at h
          let r : Rc := ⟨o, looksA ops o, { size := F.size, t := onlyT F.t (looksA ops o) .leaf }, D, H, an, k, v⟩
          cases hsw : sweep P K R ro ops base (pre.length + 1) (an :: (pre.map (·.an)).reverse) l F1 (k.defers D) (k.heap H) with
          | none => rw [hsw] at h; simp at h
          | some q =>
            obtain ⟨rs1, F2, D2, H2⟩ := q
            rw [hsw] at h
            simp only [Option.some.injEq, Prod.mk.injEq] at h
            obtain ⟨rfl, rfl, rfl, rfl⟩ := h
            have hF1s : F1.size = F0.size ∧ ∀ d, o.dst = some d → d < F0.size := by
              cases hd : o.dst with
              | none => rw [hd] at hp; simp only [putA, Option.some.injEq] at hp; subst hp; exact ⟨hs, fun d h => by cases h⟩
              | some d =>
                rw [hd] at hp
                simp only [putA, Fr.put_eq, blt_dec] at hp
                by_cases hlt : d < F.size
                · simp only [hlt, decide_true, Option.some.injEq] at hp
                  subst hp
                  exact ⟨hs, fun d' h => by simp only [Option.some.injEq] at h; rw [← h, ← hs]; exact hlt⟩
                · simp [hlt] at hp
            have hF1g : ∀ t x, F1.t.get t = some x → (o.dst = some t ∧ x = v) ∨ (o.dst ≠ some t ∧ F.t.get t = some x) := by
              intro t x hx
              cases hd : o.dst with
              | none => rw [hd] at hp; simp only [putA, Option.some.injEq] at hp; subst hp; exact .inr ⟨by simp, hx⟩
              | some d =>
                rw [hd] at hp
                simp only [putA, Fr.put_eq, blt_dec] at hp
                by_cases hlt : d < F.size
                · simp only [hlt, decide_true, Option.some.injEq] at hp
                  subst hp
                  simp only [T.get_put] at hx
                  by_cases e : t = d
                  · subst e; simp at hx; exact .inl ⟨rfl, hx.symm⟩
                  · rw [if_neg e] at hx; exact .inr ⟨by simpa using fun h => e h.symm, hx⟩
                · simp [hlt] at hp
            have hgr : ∀ (x : Rc), (pre ++ [x])[pre.length]? = some x := fun x => by simp
            obtain ⟨g1, g2, g3, g4, g5, g6⟩ := ih (pre ++ [r]) F1 (k.defers D) (k.heap H) rs1 F2 D2 H2 (by simpa [r] using hsw) (by simpa using hl') hF1s.1 (by
                intro t x hx
                rcases hF1g t x hx with ⟨q1, q2⟩ | ⟨q1, q2⟩
                · exact .inl ⟨pre.length, r, by simp, hgr r, q1, q2⟩
                · rcases hf t x q2 with ⟨i, ri, p1, p2, p3, p4⟩ | ⟨p1, p2⟩
                  · exact .inl ⟨i, ri, by simp; omega, by rw [List.getElem?_append_left p1]; exact p2, p3, p4⟩
                  · refine .inr ⟨fun i ri hi hri => ?_, p2⟩
                    by_cases e : i < pre.length
                    · rw [List.getElem?_append_left e] at hri; exact p1 i ri e hri
                    · have : i = pre.length := by simp at hi; omega
                      subst this
                      rw [hgr] at hri
                      simp only [Option.some.injEq] at hri
                      subst hri
                      exact q1)
              (by rw [foldD_append, ← hD]; simp [foldD, r]) (by rw [foldH_append, ← hH]; simp [foldH, r])
            have e1 : pre ++ [r] ++ rs1 = pre ++ r :: rs1 := by simp
            rw [e1] at g2 g4 g5 g6
            refine ⟨by simp [g1], fun kk x hx => ?_, g3, g4, g5, g6⟩
            cases kk with
            | succ kk =>
              have := g2 kk x (by simpa using hx)
              rw [show (pre ++ [r]).length + kk = pre.length + (kk + 1) from by simp; omega] at this
              exact this
            | zero =>
              simp only [List.getElem?_cons_zero, Option.some.injEq] at hx
              subst hx
              obtain ⟨a1, a2⟩ := anOf_some ha
              refine ⟨ho, hst, hs, ?_, ?_, ?_, fun e he => a1 e (by simpa using he), ?_, hF1s.2⟩
              · intro t x hx
                rcases onlyT_some hx with q | ⟨q1, q2⟩
                · simp [T.get_leaf] at q
                · refine ⟨(mem_iff _ _).2 q1, ?_⟩
                  rcases hf t x q2 with ⟨i, ri, p1, p2, p3, p4⟩ | ⟨p1, p2⟩
                  · exact .inl ⟨i, ri, p1, by rw [List.getElem?_append_left p1]; exact p2, p3, p4⟩
                  · exact .inr ⟨fun i ri hi hri => p1 i ri hi (by rw [List.getElem?_append_left (by simpa using hi)] at hri; exact hri), p2⟩
              · simp [hD]
              · simp [hH]
              · intro i hi
                rcases a2 i hi with q | ⟨e, he, hb, q⟩
                · rw [bit_zero] at q; cases q
                · refine ⟨e, by simpa using he, hb, ?_⟩
                  rcases q with q | ⟨m, hm, q⟩
                  · exact .inl q
                  · right
                    have hlt := a1 e he hb
                    rw [List.getElem?_reverse (by simp; omega)] at hm
                    simp only [List.length_map] at hm
                    rw [show pre.length - 1 - (pre.length - 1 - e.on) = e.on from by omega] at hm
                    rw [List.getElem?_map] at hm
                    cases hpe : pre[e.on]? with
                    | none => rw [hpe] at hm; simp at hm
                    | some re =>
                      rw [hpe] at hm
                      simp only [Option.map_some, Option.some.injEq] at hm
                      subst hm
                      exact ⟨re, by rw [List.getElem?_append_left (by omega)]; exact hpe, q⟩
end Go.Ae
