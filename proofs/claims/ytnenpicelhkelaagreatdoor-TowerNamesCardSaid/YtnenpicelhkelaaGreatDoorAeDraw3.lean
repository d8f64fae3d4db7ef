/-
  A part of an evaluator of translated programs, and of the proof that what it answers is what the model says; no condition.
-/
import Derived.Test.YtnenpicelhkelaaGreatDoorAeDraw2
namespace Go.Ae
set_option linter.unusedSectionVars false
set_option linter.unusedVariables false
set_option linter.unusedSimpArgs false

theorem foldH_none {dn : Nat → Bool} {id : Nat} : ∀ (l : List Rc) (j : Nat) (H : Hp), H.get id = none → (∀ (k : Nat) (r : Rc), l[k]? = some r → (∀ D G, r.k = .eff D G → G.get id = none) ∧ (∀ id' ob, r.k = .new id' ob → id' ≠ id)) → (foldH dn j l H).get id = none
  | [], j, H, h, _ => h
  | r :: l, j, H, h, hh => by
    simp only [foldH]
    refine foldH_none l (j + 1) _ ?_ (fun k x hx => hh (k + 1) x (by simpa using hx))
    obtain ⟨h1, h2⟩ := hh 0 r (by simp)
    split
    · cases hk : r.k with
      | eff D G => exact h1 D G hk
      | new id' ob =>
        show (T.put H.t id' ob).get id = _
        rw [T.get_put, if_neg (fun e => h2 id' ob hk e.symm)]
        exact h
      | _ => exact h
    · exact h
theorem foldD_noeff {dn : Nat → Bool} : ∀ (l : List Rc) (j : Nat) (D : List ADef), (∀ (k : Nat) (r : Rc), l[k]? = some r → dn (j + k) = true → r.k.isEff = false) → foldD dn j l D = D
  | [], j, D, _ => rfl
  | r :: l, j, D, h => by
    simp only [foldD]
    have e : (if dn j = true then r.k.defers D else D) = D := by
      by_cases hd : dn j = true
      · have := h 0 r (by simp) (by simpa using hd)
        cases hk : r.k <;> simp_all [Kd.isEff, Kd.defers]
      · simp [hd]
    rw [e]
    exact foldD_noeff l (j + 1) D (fun k x hx hd => h (k + 1) x (by simpa using hx) (by rw [show j + (k + 1) = j + 1 + k from by omega]; exact hd))

section
variable {P : Program} {K : Hook} {R : Rec} {ro : Option Nat} {ops : Array Oper} {base : Nat} {F0 : Fr} {D0 : List ADef} {H0 : Hp} {rs : List Rc} (S : Sw P K R ro ops base F0 D0 H0 rs)
  {φ0 : Phi} {w0 : World} {listed : Array Bool} {φ : Phi} {a : Act} {w : World} (I : Inv ops base F0 D0 H0 rs φ0 w0 listed φ a w)
  {j : Nat} {r : Rc} (hr : rs[j]? = some r) (hnot : dn listed j = false) (hpre : ∀ e ∈ r.o.after, Region.binds .any e = true → dn listed e.on = true)
include S I hr hnot hpre
theorem quiet_folds (h1 : r.k.isEff = false) (h2 : r.k.isNew = false) :
    foldH (dn (listed.setIfInBounds j true)) 0 rs H0 = foldH (dn listed) 0 rs H0 ∧ foldD (dn (listed.setIfInBounds j true)) 0 rs D0 = foldD (dn listed) 0 rs D0 := by
  have hj := j_lt S I hr hnot hpre
  constructor
  · refine foldH_congr _ _ _ (fun k x hx => ?_)
    rw [Nat.zero_add, dn_set hj]
    by_cases e : k = j
    · subst e
      rw [hr] at hx
      simp only [Option.some.injEq] at hx
      subst hx
      exact .inr ⟨h1, h2⟩
    · rw [if_neg e]; exact .inl rfl
  · refine foldD_congr _ _ _ (fun k x hx => ?_)
    rw [Nat.zero_add, dn_set hj]
    by_cases e : k = j
    · subst e
      rw [hr] at hx
      simp only [Option.some.injEq] at hx
      subst hx
      exact .inr h1
    · rw [if_neg e]; exact .inl rfl
/-- An operation that leaves memory alone. -/
theorem quiet_more (h1 : r.k.isEff = false) (h2 : r.k.isNew = false) {V : Value} (hv : cv φ r.v = some V) :
    Inv ops base F0 D0 H0 rs φ0 w0 (listed.setIfInBounds j true) φ (a.put r.o.dst V) w := by
  obtain ⟨q1, q2⟩ := quiet_folds S I hr hnot hpre h1 h2
  refine Inv.more S I hr hnot hpre (PhiLe.refl _) (fun _ _ => rfl) (fun i hi _ hd => I.fresh i hi hd) hv rfl ?_ ?_ ?_ ?_
  · rw [q2]; exact I.defs
  · rw [q1]; exact I.rel
  · rw [q1]; exact Keep.refl _ _ _
  · rw [q1]; exact Nat.le_refl _
theorem post_noeff (hk : r.k.isEff = true ∨ r.k.isNew = true) (k : Nat) (x : Rc) (hx : (rs.drop (j + 1))[k]? = some x) (hd : dn listed (j + 1 + k) = true) : x.k.isEff = false :=
  no_later_eff S I hr hnot hpre hk (show j < j + 1 + k by omega) (by rw [List.getElem?_drop] at hx; exact hx) hd
theorem new_more {id : Nat} {ob : Ob} (hk : r.k = .new id ob) {s : Sem Next} (hn : NewOk P φ (foldH (dn listed) 0 rs H0) w id r.v ob s) :
    ∃ φ' w' V, PhiLe φ φ' ∧ s.run P w = .ok (.value V) w' ∧ Inv ops base F0 D0 H0 rs φ0 w0 (listed.setIfInBounds j true) φ' (a.put r.o.dst V) w' := by
  have hid := S.newId hr hk
  have hjs : j < ops.size := by rw [← I.size]; exact j_lt S I hr hnot hpre
  have hN := foldH_news (dn := dn listed) (rs.drop (j + 1)) (j + 1) (r.k.heap (foldH (dn listed) 0 (rs.take j) H0)) (post_noeff S I hr hnot hpre (.inr (by rw [hk]; rfl)))
  have hO := foldH_news (dn := dn listed) (rs.drop (j + 1)) (j + 1) (foldH (dn listed) 0 (rs.take j) H0) (post_noeff S I hr hnot hpre (.inr (by rw [hk]; rfl)))
  have hnone : newAt (dn listed) (j + 1) (rs.drop (j + 1)) id = none := by
    cases h : newAt (dn listed) (j + 1) (rs.drop (j + 1)) id with
    | none => rfl
    | some o =>
      obtain ⟨k, x, q1, q2, q3⟩ := newAt_some h
      rw [List.getElem?_drop] at q1
      have := S.newId q1 q3
      omega
  have hget : ∀ b, (foldH (dn (listed.setIfInBounds j true)) 0 rs H0).get b = if b = id then some ob else (foldH (dn listed) 0 rs H0).get b := by
    intro b
    rw [foldH_set S I hr hnot hpre, foldH_dn S I hr hnot hpre, hN.2, hO.2]
    have hheap : (r.k.heap (foldH (dn listed) 0 (rs.take j) H0)).get b = if b = id then some ob else (foldH (dn listed) 0 (rs.take j) H0).get b := by
      rw [hk]
      show (T.put _ id ob).get b = _
      rw [T.get_put]
      try rfl
    rw [hheap]
    by_cases e : b = id
    · subst e; rw [hnone]
      try simp
    · simp [e]
  have hnx : (foldH (dn (listed.setIfInBounds j true)) 0 rs H0).next = (foldH (dn listed) 0 rs H0).next := by
    rw [foldH_set S I hr hnot hpre, foldH_dn S I hr hnot hpre, hN.1, hO.1, hk]; rfl
  have hf : φ id = none := by rw [hid]; exact I.fresh j hjs hnot
  obtain ⟨φ', w', V, c1, c2, c3, c4, c5, c6⟩ := NewOk.post hn I.rel hf hget (Nat.le_of_eq hnx.symm) (by rw [hnx, hid]; have := I.next; omega)
  refine ⟨φ', w', V, c1, c5, Inv.more S I hr hnot hpre c1 (fun b hb => c6 b (by omega)) (fun i hi hij hd => by rw [c6 _ (by omega)]; exact I.fresh i hi hd) c4 rfl ?_ c2 c3 (Nat.le_of_eq hnx.symm)⟩
  have : foldD (dn (listed.setIfInBounds j true)) 0 rs D0 = foldD (dn listed) 0 rs D0 := by
    rw [foldD_set S I hr hnot hpre, foldD_dn S I hr hnot hpre, hk]; rfl
  rw [this]
  exact I.defs.mono c1
theorem pre_done (hk : r.k.isEff = true) (k : Nat) (x : Rc) (hx : (rs.take j)[k]? = some x) : dn listed k = true ∨ (x.k.isEff = false ∧ x.k.isNew = false) := by
  have hkj : k < j := by
    have := (List.getElem?_eq_some_iff.1 hx).1
    simp at this; omega
  have hx' : rs[k]? = some x := by rw [List.getElem?_take, if_pos hkj] at hx; exact hx
  rcases (pairOk_some (S.pair hkj hx' hr)).2.2 with q | ⟨_, _, q⟩
  · exact .inl (anc_done S I hr hpre k q)
  · exact .inr (q hk)
theorem eff_more {D' : List ADef} {H' : Hp} (hk : r.k = .eff D' H') :
    DRel φ r.D a.defers ∧ HRel φ r.H w ∧ ∀ φ' w' (a' : Act) V, Post φ r.H w φ' H' w' → cv φ' r.v = some V → a'.tmps = a.tmps → DRel φ' D' a'.defers →
      Inv ops base F0 D0 H0 rs φ0 w0 (listed.setIfInBounds j true) φ' (a'.put r.o.dst V) w' := by
  have hke : r.k.isEff = true := by rw [hk]; rfl
  have f := S.sf j r hr
  have hH : r.H = foldH (dn listed) 0 (rs.take j) H0 := by
    rw [f.dH]
    exact foldH_congr _ _ _ (fun k x hx => by
      rw [Nat.zero_add]
      rcases pre_done S I hr hnot hpre hke k x hx with q | q
      · exact .inl q.symm
      · exact .inr q)
  have hD : r.D = foldD (dn listed) 0 (rs.take j) D0 := by
    rw [f.dD]
    exact foldD_congr _ _ _ (fun k x hx => by
      rw [Nat.zero_add]
      rcases pre_done S I hr hnot hpre hke k x hx with q | q
      · exact .inl q.symm
      · exact .inr q.1)
  have hno := post_noeff S I hr hnot hpre (.inl hke)
  have hDD : foldD (dn listed) 0 rs D0 = r.D := by
    rw [foldD_dn S I hr hnot hpre, ← hD]
    exact foldD_noeff _ _ _ hno
  have hO := foldH_news (dn := dn listed) (rs.drop (j + 1)) (j + 1) r.H hno
  have hN := foldH_news (dn := dn listed) (rs.drop (j + 1)) (j + 1) H' hno
  have hold : foldH (dn listed) 0 rs H0 = foldH (dn listed) (j + 1) (rs.drop (j + 1)) r.H := by rw [foldH_dn S I hr hnot hpre, ← hH]
  have hset : foldH (dn (listed.setIfInBounds j true)) 0 rs H0 = foldH (dn listed) (j + 1) (rs.drop (j + 1)) H' := by rw [foldH_set S I hr hnot hpre, hk]; rfl
  have hp1 : ∀ b o, newAt (dn listed) (j + 1) (rs.drop (j + 1)) b = some o → r.H.get b = none := by
    intro b o hb
    obtain ⟨k, x, q1, q2, q3⟩ := newAt_some hb
    rw [List.getElem?_drop] at q1
    have hid := S.newId q1 q3
    rw [f.dH]
    refine foldH_none _ _ _ (by rw [hid]; exact S.none _) (fun i y hy => ?_)
    have hij : i < j := by
      have := (List.getElem?_eq_some_iff.1 hy).1
      simp at this; omega
    have hy' : rs[i]? = some y := by rw [List.getElem?_take, if_pos hij] at hy; exact hy
    refine ⟨fun D G hy2 => (pairOk_some (S.pair (show i < j + 1 + k by omega) hy' q1)).2.1 D G b o hy2 q3, fun id' ob' hy2 => ?_⟩
    have := S.newId hy' hy2
    omega
  have hsub : Sub r.H (foldH (dn listed) 0 rs H0) := by
    rw [hold]
    refine ⟨hO.1, fun b o hb => ?_⟩
    rw [hO.2]
    cases hn : newAt (dn listed) (j + 1) (rs.drop (j + 1)) b with
    | none => exact hb
    | some o' => rw [hp1 b o' hn] at hb; cases hb
  have hHr : HRel φ r.H w := I.rel.less hsub.1.symm hsub.2
  have hnext := I.next
  rw [hsub.1] at hnext
  refine ⟨by rw [← hDD]; exact I.defs, hHr, fun φ' w' a' V post hv ht hd => ?_⟩
  obtain ⟨c1, c2⟩ := HRel.frame (H1' := foldH (dn (listed.setIfInBounds j true)) 0 rs H0) I.rel hsub post (by rw [hset]; exact hN.1) (by
    intro b o hb
    rw [hset, hN.2] at hb
    cases hn : newAt (dn listed) (j + 1) (rs.drop (j + 1)) b with
    | none => rw [hn] at hb; exact .inl hb
    | some o' =>
      rw [hn] at hb
      simp only [Option.some.injEq] at hb
      subst hb
      exact .inr ⟨by rw [hold, hO.2, hn], hp1 b o' hn⟩)
  refine Inv.more S I hr hnot hpre post.le (fun b hb => post.old b (by omega)) (fun i hi hij hdi => ?_) hv ht ?_ c1 c2 ?_
  · rw [post.old _ (by omega)]; exact I.fresh i hi hdi
  · rw [foldD_set S I hr hnot hpre, hk]
    simp only [Kd.defers]
    rw [foldD_noeff _ _ _ hno]
    exact hd
  · rw [hset, hN.1, hsub.1]; exact post.next

theorem draw_step (hK : HookOk P K) (hR : RecOk P R) {FN : Fence} (hFN : FenceOk φ ro FN) {Q : Exit → Act → World → Prop} {Kk : Act → World → Prop}
    (hq : ∀ φ' a' w', PhiLe φ φ' → Inv ops base F0 D0 H0 rs φ0 w0 (listed.setIfInBounds j true) φ' a' w' → Kk a' w') : wpOpIn FN 0 P ops Q j Kk a w := by
  have f := S.sf j r hr
  have hF := trel_at S I hr hnot hpre
  unfold wpOpIn
  simp only [f.o]
  rcases step_cases f.step with ⟨hk, hv, hw⟩ | ⟨hw, hc⟩
  · rw [wanted_sound hw hF]
    simp only [Bool.false_eq_true, if_false]
    exact ⟨fun g _ => hFN.fn g, hq φ _ w (PhiLe.refl _) (quiet_more S I hr hnot hpre (by rw [hk]; rfl) (by rw [hk]; rfl) (by rw [hv]; exact cv_undef φ))⟩
  · rw [wanted_sound hw hF]
    simp only [if_true]
    rcases hc with ⟨hk, hx⟩ | ⟨hk, hx⟩ | ⟨ob, hk, hx⟩ | hx
    · obtain ⟨V, hv, rr⟩ := pure_sound hx hF
      exact val_wp hFN.fn (pure_nd hx) (rr w) (hq φ _ w (PhiLe.refl _) (quiet_more S I hr hnot hpre (by rw [hk]; rfl) (by rw [hk]; rfl) hv))
    · have hs := readsOk_some S.reads j r hr hk
      rw [Nat.zero_add] at hs
      have hro := readOk_some (scan_ok (dn := dn listed) (anc_done S I hr hpre) hs (fun e ae G he hd => by
        rcases effsOf_mem he with q | ⟨k, x, D, q1, q2, q3, q4⟩
        · cases q
        · rw [Nat.zero_add] at q2
          subst q2 q3
          exact later S I hr hnot hpre hd q1))
      have hsub := lastG_sub (dn := dn listed) (H0 := H0) rs 0 [] H0 S.pairs (fun k x id ob hx hn => by
        have := S.newId hx hn
        rw [this]; exact S.none k) (Sub.refl _)
      obtain ⟨V, hv, rr⟩ := read_sound hro hF (I.rel.less hsub.1.symm hsub.2)
      exact val_wp hFN.fn (read_nd hro) rr (hq φ _ w (PhiLe.refl _) (quiet_more S I hr hnot hpre (by rw [hk]; rfl) (by rw [hk]; rfl) hv))
    · have hid := S.newId hr hk
      have hjs : j < ops.size := by rw [← I.size]; exact j_lt S I hr hnot hpre
      have hx' : newA P r.F ⟨(foldH (dn listed) 0 rs H0).next, .leaf⟩ r.o (base + j) = some (r.v, ob) := by rw [newA_next (m := r.H.next)]; exact hx
      have hl : HRel φ ⟨(foldH (dn listed) 0 rs H0).next, .leaf⟩ w := I.rel.less rfl (fun b o hb => by
        simp only [Hp.get, T.get_leaf] at hb; cases hb)
      have hn := new_sound hx' hF hl (I.fresh j hjs hnot)
      obtain ⟨φ', w', V, c1, c2, c3⟩ := new_more S I hr hnot hpre hk hn
      exact val_wp hFN.fn (new_nd hx) c2 (hq φ' _ w' c1 c3)
    · have hk : ∃ D1 H1, r.k = .eff D1 H1 := by
        rcases hx with ⟨H1, e, _⟩ | ⟨g, H1, e, _⟩ | ⟨d, e, _⟩ <;> exact ⟨_, _, e⟩
      obtain ⟨D1, H1, hk⟩ := hk
      obtain ⟨c1, c2, c3⟩ := eff_more S I hr hnot hpre hk
      exact act_sound hK hR (ops := ops) hx hk hFN hF c1 c2 (fun φ' w' a' V post hv ht hd => hq φ' _ w' post.le (c3 φ' w' a' V post hv ht hd))
end
end Go.Ae
