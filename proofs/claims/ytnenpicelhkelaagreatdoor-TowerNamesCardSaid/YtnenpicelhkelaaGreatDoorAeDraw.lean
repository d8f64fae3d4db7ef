/-
  A part of an evaluator of translated programs, and of the proof that what it answers is what the model says; no condition.
-/
import Derived.Test.YtnenpicelhkelaaGreatDoorAeSweep
namespace Go.Ae
set_option linter.unusedVariables false
set_option linter.unusedSimpArgs false

theorem leneq_eq {a b : List Nat} (h : leneq a b = true) : a = b := by rw [leneq_iff] at h; simpa using h
mutual
theorem aveq_eq : ∀ (a b : AV), aveq a b = true → a = b
  | .bool a, b, h => by cases b <;> simp_all [aveq]; rename_i b; cases a <;> cases b <;> simp_all
  | .int j a, b, h => by
    cases b <;> simp only [aveq, Bool.false_eq_true] at h
    rename_i k b
    cases hk : keq j k with
    | false => rw [hk] at h; simp at h
    | true =>
      rw [hk] at h
      simp only [ieq_eq, decide_eq_true_eq] at h
      rw [(keq_iff _ _).1 hk, h]
  | .str a, b, h => by
    cases b <;> simp only [aveq, Bool.false_eq_true] at h
    rw [leneq_eq h]
  | .nilp, b, h => by cases b <;> simp_all [aveq]
  | .ptr a c, b, h => by
    cases b <;> simp only [aveq, Bool.false_eq_true] at h
    simp only [beq_dec] at h
    split at h
    · rename_i g; simp at g h; rw [g, h]
    · cases h
  | .nils, b, h => by cases b <;> simp_all [aveq]
  | .slice a c d cp, b, h => by
    cases b with
    | slice a' c' d' cp' =>
      cases cp with
      | known x =>
        cases cp' with
        | known y =>
          simp only [aveq, beq_dec] at h
          split at h
          · rename_i g1 g2 g3; simp at g1 g2 g3 h; rw [g1, g2, g3, h]
          · cases h
        | toEnd y => simp [aveq] at h
      | toEnd x =>
        cases cp' with
        | known y => simp [aveq] at h
        | toEnd y =>
          simp only [aveq, beq_dec] at h
          split at h
          · rename_i g1 g2 g3; simp at g1 g2 g3 h; rw [g1, g2, g3, h]
          · cases h
    | _ => cases cp <;> simp [aveq] at h
  | .nilm, b, h => by cases b <;> simp_all [aveq]
  | .map a, b, h => by cases b <;> simp_all [aveq, beq_dec]
  | .nilc, b, h => by cases b <;> simp_all [aveq]
  | .chan a, b, h => by cases b <;> simp_all [aveq, beq_dec]
  | .func fn x y, b, h => by
    cases b with
    | func fn' x' y' =>
      cases fn with
      | func f =>
        cases fn' with
        | func g =>
          simp only [aveq, beq_dec] at h
          split at h
          · rename_i g1
            split at h
            · rename_i g2
              simp at g1
              rw [g1, aveqL_eq _ _ g2, aveqL_eq _ _ h]
            · cases h
          · cases h
        | _ => simp [aveq] at h
      | _ => simp [aveq] at h
    | _ => cases fn <;> simp [aveq] at h
  | .yieldf a, b, h => by cases b <;> simp_all [aveq, beq_dec]
  | .nilf, b, h => by cases b <;> simp_all [aveq]
  | .iface t v, b, h => by
    cases b <;> simp only [aveq, Bool.false_eq_true] at h
    simp only [beq_dec] at h
    split at h
    · rename_i g; simp at g; rw [g, aveq_eq _ _ h]
    · cases h
  | .nili, b, h => by cases b <;> simp_all [aveq]
  | .agg l, b, h => by
    cases b <;> simp only [aveq, Bool.false_eq_true] at h
    rw [aveqL_eq _ _ h]
  | .tup l, b, h => by
    cases b <;> simp only [aveq, Bool.false_eq_true] at h
    rw [aveqL_eq _ _ h]
theorem aveqL_eq : ∀ (a b : List AV), aveqL a b = true → a = b
  | [], b, h => by cases b <;> simp_all [aveqL]
  | a :: l, b, h => by
    cases b with
    | nil => simp [aveqL] at h
    | cons b m =>
      simp only [aveqL] at h
      split at h
      · rename_i g; rw [aveq_eq _ _ g, aveqL_eq _ _ h]
      · cases h
end

theorem hits_false {d : Option Tmp} {l : List Tmp} (h : hits d l = false) : ∀ x, d = some x → mem x l = false := by
  intro x hx; subst hx; exact h
theorem pairOk_some {i : Nat} {a b : Rc} (h : pairOk i a b = true) :
    (∀ d, a.o.dst = some d → b.o.dst ≠ some d) ∧ (∀ D H id ob, a.k = .eff D H → b.k = .new id ob → H.get id = none) ∧
    (bit b.an i = true ∨ ((∀ d, a.o.dst = some d → mem d b.looks = false) ∧ (∀ d, b.o.dst = some d → mem d a.looks = false) ∧ (b.k.isEff = true → a.k.isEff = false ∧ a.k.isNew = false))) := by
  unfold pairOk at h
  cases h1 : sameDst a.o.dst b.o.dst with
  | true => rw [h1] at h; simp at h
  | false =>
    rw [h1] at h
    simp only at h
    split at h
    · cases h
    · rename_i h2
      refine ⟨fun d hd hb => ?_, fun D H id ob ha hb => ?_, ?_⟩
      · rw [hd, hb] at h1; simp [sameDst] at h1
      · rw [ha, hb] at h2
        simp only at h2
        cases hg : H.get id with
        | none => rfl
        | some x => rw [hg] at h2; simp at h2
      · cases h3 : bit b.an i with
        | true => exact .inl rfl
        | false =>
          rw [h3] at h
          simp only at h
          cases h4 : hits a.o.dst b.looks with
          | true => rw [h4] at h; simp at h
          | false =>
            rw [h4] at h
            simp only at h
            cases h5 : hits b.o.dst a.looks with
            | true => rw [h5] at h; simp at h
            | false =>
              rw [h5] at h
              simp only at h
              refine .inr ⟨hits_false h4, hits_false h5, fun he => ?_⟩
              rw [he] at h
              simp only at h
              cases h6 : a.k.isEff with
              | true => rw [h6] at h; simp at h
              | false =>
                rw [h6] at h
                simp only at h
                cases h7 : a.k.isNew with
                | true => rw [h7] at h; simp at h
                | false => exact ⟨rfl, rfl⟩
theorem pairsOk_some {i : Nat} {a : Rc} : ∀ {l : List Rc}, pairsOk i a l = true → ∀ (k : Nat) (b : Rc), l[k]? = some b → pairOk i a b = true
  | [], h, k, b, hb => by simp at hb
  | c :: l, h, k, b, hb => by
    simp only [pairsOk] at h
    split at h
    · rename_i g
      cases k with
      | zero => simp at hb; subst hb; exact g
      | succ k => exact pairsOk_some h k b (by simpa using hb)
    · cases h
theorem allPairs_some : ∀ {l : List Rc} {j : Nat}, allPairs j l = true → ∀ (i k : Nat) (a b : Rc), i < k → l[i]? = some a → l[k]? = some b → pairOk (j + i) a b = true
  | [], j, h, i, k, a, b, hik, ha, hb => by simp at ha
  | c :: l, j, h, i, k, a, b, hik, ha, hb => by
    simp only [allPairs] at h
    split at h
    · rename_i g
      cases k with
      | zero => omega
      | succ k =>
        cases i with
        | zero =>
          simp at ha; subst ha
          exact pairsOk_some g k b (by simpa using hb)
        | succ i =>
          have := allPairs_some h i k a b (by omega) (by simpa using ha) (by simpa using hb)
          rw [show j + (i + 1) = j + 1 + i from by omega]
          exact this
    · cases h
theorem readsOk_some {P : Program} {H0 : Hp} {effs : List (Nat × Nat × Hp)} : ∀ {l : List Rc} {j : Nat}, readsOk P H0 effs j l = true → ∀ (k : Nat) (r : Rc), l[k]? = some r → r.k = .read → scanR P (j + k) r H0 effs = true
  | [], j, h, k, r, hr, hk => by simp at hr
  | c :: l, j, h, k, r, hr, hk => by
    simp only [readsOk] at h
    cases k with
    | zero =>
      simp at hr; subst hr
      rw [hk] at h
      simp only at h
      split at h
      · rename_i g; simpa using g
      · cases h
    | succ k =>
      have h' : readsOk P H0 effs (j + 1) l = true := by
        split at h
        · split at h
          · exact h
          · cases h
        · exact h
      have := readsOk_some h' k r (by simpa using hr) hk
      rw [show j + (k + 1) = j + 1 + k from by omega]
      exact this

/-- Memory behind the last acting operation that is done. -/
def lastG (dn : Nat → Bool) (H0 : Hp) : List (Nat × Nat × Hp) → Hp
  | [] => H0
  | (e, _, G) :: l => if dn e = true then G else lastG dn H0 l
theorem scan_ok {P : Program} {dn : Nat → Bool} {j : Nat} {r : Rc} {H0 : Hp} (hj : ∀ i, bit r.an i = true → dn i = true) : ∀ {l : List (Nat × Nat × Hp)}, scanR P j r H0 l = true → (∀ e ae G, (e, ae, G) ∈ l → dn e = true → bit ae j = false) →
    readOk P r (lastG dn H0 l) = true
  | [], h, _ => h
  | (e, ae, G) :: l, h, hb => by
    simp only [scanR] at h
    simp only [lastG]
    by_cases hd : dn e = true
    · rw [if_pos hd]
      rw [hb e ae G List.mem_cons_self hd] at h
      simp only at h
      split at h
      · cases h
      · assumption
    · rw [if_neg hd]
      refine scan_ok hj ?_ (fun e' ae' G' h' => hb e' ae' G' (List.mem_cons_of_mem _ h'))
      split at h
      · exact h
      · split at h
        · cases h
        · split at h
          · rename_i g; exact absurd (hj e g) hd
          · exact h
theorem readOk_some {P : Program} {r : Rc} {H : Hp} (h : readOk P r H = true) : readA P r.F H r.o = some r.v := by
  unfold readOk at h
  split at h
  · rename_i v hv; rw [hv, aveq_eq _ _ h]
  · cases h
theorem effsOf_mem : ∀ {l : List Rc} {j : Nat} {acc : List (Nat × Nat × Hp)} {e ae : Nat} {G : Hp}, (e, ae, G) ∈ effsOf j l acc → (e, ae, G) ∈ acc ∨ ∃ (k : Nat) (r : Rc) (D : List ADef), l[k]? = some r ∧ e = j + k ∧ ae = r.an ∧ r.k = .eff D G
  | [], j, acc, e, ae, G, h => .inl h
  | r :: l, j, acc, e, ae, G, h => by
    simp only [effsOf] at h
    have step : ∀ acc', (e, ae, G) ∈ effsOf (j + 1) l acc' → (e, ae, G) ∈ acc' ∨ ∃ (k : Nat) (x : Rc) (D : List ADef), (r :: l)[k]? = some x ∧ e = j + k ∧ ae = x.an ∧ x.k = .eff D G := by
      intro acc' h
      rcases effsOf_mem h with q | ⟨k, x, D, q1, q2, q3, q4⟩
      · exact .inl q
      · exact .inr ⟨k + 1, x, D, by simpa using q1, by omega, q3, q4⟩
    split at h
    · rename_i D H hk
      rcases step _ h with q | q
      · rcases List.mem_cons.1 q with q | q
        · simp only [Prod.mk.injEq] at q
          exact .inr ⟨0, r, D, by simp, by simpa using q.1, q.2.1, by rw [hk, q.2.2]⟩
        · exact .inl q
      · exact .inr q
    · exact step _ h
def Sub (G H : Hp) : Prop := H.next = G.next ∧ ∀ b o, G.get b = some o → H.get b = some o
theorem Sub.refl (G : Hp) : Sub G G := ⟨rfl, fun _ _ h => h⟩
theorem lastG_sub {dn : Nat → Bool} {H0 : Hp} : ∀ (l : List Rc) (j : Nat) (acc : List (Nat × Nat × Hp)) (H : Hp), allPairs j l = true → (∀ (k : Nat) (r : Rc) (id : Nat) (ob : Ob), l[k]? = some r → r.k = .new id ob → (lastG dn H0 acc).get id = none) → Sub (lastG dn H0 acc) H →
    Sub (lastG dn H0 (effsOf j l acc)) (foldH dn j l H)
  | [], j, acc, H, _, _, hs => hs
  | r :: l, j, acc, H, hp, hn, hs => by
    have hp0 := hp
    simp only [allPairs] at hp
    split at hp
    · rename_i hpr
      simp only [effsOf, foldH]
      split
      · rename_i D G hk
        refine lastG_sub l (j + 1) _ _ hp ?_ ?_
        · intro k x id ob hx hnew
          simp only [lastG]
          split
          · exact (pairOk_some (pairsOk_some hpr k x hx)).2.1 D G id ob hk hnew
          · exact hn (k + 1) x id ob (by simpa using hx) hnew
        · simp only [lastG]
          split
          · simp only [hk, Kd.heap]; exact Sub.refl _
          · exact hs
      · rename_i hne
        refine lastG_sub l (j + 1) _ _ hp (fun k x id ob hx => hn (k + 1) x id ob (by simpa using hx)) ?_
        split
        · cases hk : r.k with
          | eff D G => exact absurd hk (hne D G)
          | new id ob =>
            refine ⟨hs.1, fun b o hb => ?_⟩
            show (T.put H.t id ob).get b = _
            rw [T.get_put]
            have : b ≠ id := by
              intro e; subst e
              rw [hn 0 r b ob (by simp) hk] at hb; cases hb
            rw [if_neg this]
            exact hs.2 b o hb
          | _ => exact hs
        · exact hs
    · cases hp

/-- What an operation leaves alone stays beside it. -/
theorem HRel.frame {φ φ' : Phi} {H H' H1 H1' : Hp} {w w' : World} (h1 : HRel φ H1 w) (sub : Sub H H1) (p : Post φ H w φ' H' w') (hn' : H1'.next = H'.next)
    (g : ∀ b o, H1'.get b = some o → H'.get b = some o ∨ (H1.get b = some o ∧ H.get b = none)) : HRel φ' H1' w' ∧ Keep φ H1 w φ' H1' w' := by
  have old : ∀ b o n x, H1.get b = some o → H.get b = none → φ b = some (n, x) → n < w.heap.size ∧ ∀ c oc y, H.get c = some oc → φ c ≠ some (n, y) := by
    intro b o n x hb hn hx
    refine ⟨h1.block_lt hb hx, fun c oc y hc hy => ?_⟩
    have := h1.inj c b oc o n y x (sub.2 c oc hc) hb hy hx
    subst this
    rw [hn] at hc; cases hc
  refine ⟨⟨by rw [hn']; exact p.rel.fresh, fun b o hb => ?_, fun b b' o o' n x x' hb hb' hx hx' => ?_⟩, ?_⟩
  · rcases g b o hb with q | ⟨q1, q2⟩
    · exact p.rel.live b o q
    · obtain ⟨n, N, s, k1, k2⟩ := h1.live b o q1
      obtain ⟨c1, c2⟩ := old b o n _ q1 q2 k1
      exact ⟨n, N, s, p.le _ _ k1, by rw [p.keep.same n c1 c2]; exact k2.mono p.le⟩
  · have mix : ∀ b b' o o' n x x', H'.get b = some o → H1.get b' = some o' → H.get b' = none → φ' b = some (n, x) → φ' b' = some (n, x') → b = b' := by
      intro b b' o o' n x x' q q1 q2 hx hx'
      obtain ⟨n', N, s, k1, k2⟩ := h1.live b' o' q1
      have := p.le _ _ k1
      rw [this] at hx'
      simp only [Option.some.injEq, Prod.mk.injEq] at hx'
      obtain ⟨rfl, _⟩ := hx'
      obtain ⟨c1, c2⟩ := old b' o' n' _ q1 q2 k1
      rcases p.keep.img b o n' x q hx with r | ⟨b0, o0, x0, r1, r2⟩
      · omega
      · exact absurd r2 (c2 b0 o0 x0 r1)
    rcases g b o hb with q | ⟨q1, q2⟩ <;> rcases g b' o' hb' with r | ⟨r1, r2⟩
    · exact p.rel.inj b b' o o' n x x' q r hx hx'
    · exact mix b b' o o' n x x' q r1 r2 hx hx'
    · exact (mix b' b o' o n x' x r q1 q2 hx' hx).symm
    · obtain ⟨m, N, s, k1, _⟩ := h1.live b o q1
      obtain ⟨m', N', s', k1', _⟩ := h1.live b' o' r1
      rw [p.le _ _ k1] at hx
      rw [p.le _ _ k1'] at hx'
      simp only [Option.some.injEq, Prod.mk.injEq] at hx hx'
      obtain ⟨rfl, _⟩ := hx
      obtain ⟨rfl, _⟩ := hx'
      exact h1.inj b b' o o' _ _ _ q1 r1 k1 k1'
  · refine ⟨p.keep.size, fun b o n x hb hx => ?_, fun n hn hh => p.keep.same n hn (fun b o x hb => hh b o x (sub.2 b o hb)), p.keep.os, p.keep.tape, p.keep.output⟩
    rcases g b o hb with q | ⟨q1, q2⟩
    · rcases p.keep.img b o n x q hx with r | ⟨b0, o0, x0, r1, r2⟩
      · exact .inl r
      · exact .inr ⟨b0, o0, x0, sub.2 b0 o0 r1, r2⟩
    · obtain ⟨m, N, s, k1, _⟩ := h1.live b o q1
      rw [p.le _ _ k1] at hx
      exact .inr ⟨b, o, _, q1, k1.trans hx⟩
end Go.Ae
