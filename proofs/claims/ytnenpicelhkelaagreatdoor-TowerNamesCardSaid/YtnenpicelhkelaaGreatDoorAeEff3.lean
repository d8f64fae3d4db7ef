/-
  A part of an evaluator of translated programs, and of the proof that what it answers is what the model says; no condition.
-/
import Derived.Test.YtnenpicelhkelaaGreatDoorAeEff2
namespace Go.Ae
set_option linter.unusedVariables false
set_option linter.unusedSimpArgs false

/-- A block is known under another name, its contents changed. -/
theorem HRel.move {φ : Phi} {H H1 : Hp} {w w1 : World} {id b n N s s' : Nat} {o o' : Ob} {obj : Obj} (h : HRel φ H w) (hnx : H.next ≤ id) (hb : H.get b = some o) (hn : φ b = some (n, N, s))
    (hget : ∀ j, H1.get j = if j = id then some o' else if j = b then none else H.get j) (hnext : H.next ≤ H1.next) (hlt : id < H1.next)
    (hw : ∀ j, w1.heap[j]? = if j = n then some obj else w.heap[j]?) (ho : ORel φ o' N s' (some obj)) (e1 : w1.os = w.os) (e2 : w1.tape = w.tape) (e3 : w1.output = w.output) (e4 : w1.heap.size = w.heap.size) :
    Post φ H w (ext φ id n N s') H1 w1 := by
  have hid := h.fresh id hnx
  have hle := ext_le (n := n) (N := N) (s := s') hid
  have hbid : b ≠ id := by rintro rfl; rw [hid] at hn; cases hn
  refine ⟨hle, ⟨?_, ?_, ?_⟩, ⟨?_, ?_, ?_, e1, e2, e3⟩, hnext, fun c hc => by have : c ≠ id := by omega
                                                                             simp [ext, this]⟩
  · intro c hc
    have : c ≠ id := by omega
    simp only [ext, this, if_false]
    exact h.fresh c (by omega)
  · intro c oc hc
    rw [hget] at hc
    by_cases e : c = id
    · subst e
      simp at hc; subst hc
      exact ⟨n, N, s', by simp [ext], by rw [hw, if_pos rfl]; exact ho.mono hle⟩
    · rw [if_neg e] at hc
      by_cases eb : c = b
      · rw [if_pos eb] at hc; cases hc
      · rw [if_neg eb] at hc
        obtain ⟨m, N', t, h1, h2⟩ := h.live c oc hc
        refine ⟨m, N', t, hle _ _ h1, ?_⟩
        have : m ≠ n := by
          intro e'; subst e'
          exact eb (h.inj c b oc o m _ _ hc hb h1 hn)
        rw [hw, if_neg this]
        exact h2.mono hle
  · intro c c' oc oc' m x x' hc hc' hm hm'
    rw [hget] at hc hc'
    have f : ∀ d od y, (if d = id then some o' else if d = b then none else H.get d) = some od → ext φ id n N s' d = some (m, y) →
        ∃ d' od' y', H.get d' = some od' ∧ φ d' = some (m, y') ∧ ((d = id ∧ d' = b) ∨ (d ≠ id ∧ d ≠ b ∧ d' = d)) := by
      intro d od y hd hy
      by_cases e : d = id
      · subst e
        simp [ext] at hy
        obtain ⟨rfl, _⟩ := hy
        exact ⟨b, o, _, hb, hn, .inl ⟨rfl, rfl⟩⟩
      · rw [if_neg e] at hd
        by_cases eb : d = b
        · rw [if_pos eb] at hd; cases hd
        · rw [if_neg eb] at hd
          simp only [ext, e, if_false] at hy
          exact ⟨d, od, y, hd, hy, .inr ⟨e, eb, rfl⟩⟩
    obtain ⟨d, od, y, g1, g2, g3⟩ := f c oc x hc hm
    obtain ⟨d', od', y', k1, k2, k3⟩ := f c' oc' x' hc' hm'
    have := h.inj d d' od od' m y y' g1 k1 g2 k2
    rcases g3 with ⟨p1, p2⟩ | ⟨p1, p2, p3⟩ <;> rcases k3 with ⟨q1, q2⟩ | ⟨q1, q2, q3⟩
    · rw [p1, q1]
    · exact absurd (by rw [← q3, ← this, p2]) q2
    · exact absurd (by rw [← p3, this, q2]) p2
    · rw [← p3, ← q3, this]
  · omega
  · intro c oc m x hc hm
    rw [hget] at hc
    by_cases e : c = id
    · subst e
      simp [ext] at hm
      obtain ⟨rfl, _⟩ := hm
      exact .inr ⟨b, o, _, hb, hn⟩
    · rw [if_neg e] at hc
      by_cases eb : c = b
      · rw [if_pos eb] at hc; cases hc
      · rw [if_neg eb] at hc
        simp only [ext, e, if_false] at hm
        exact .inr ⟨c, oc, x, hc, hm⟩
  · intro m hm hh
    have : m ≠ n := by
      intro e; subst e
      exact hh b o _ hb hn
    rw [hw, if_neg this]

theorem zeroCells_size (z : Array Value) (n : Nat) : (Builtin.zeroCells z n).size = n * z.size := size_zeroCells z n

theorem append_sound {P : Program} {φ : Phi} {H H' : Hp} {w : World} (hH : HRel φ H w) {ts : Array TypeId} {ty t t' : TypeId} {d' : TypeDesc} (h0 : ts[0]? = some t) (h1 : ts[1]? = some t') (hu' : P.underlying t' = some d') (hd : (∃ e', d' = .slice e') ∨ d' = .string)
    {s x v : AV} {S X : Value} (h : appendA P H t s x = some (v, H')) (hs : cv φ s = some S) (hx : cv φ x = some X) :
    ∃ φ' w' V, Post φ H w φ' H' w' ∧ cv φ' v = some V ∧ (Builtin.append_ ts ty #[S, X]).run P w = .ok V w' := by
  unfold appendA at h
  cases hu : P.underlying t with
  | none => rw [hu] at h; simp at h
  | some d =>
    rw [hu] at h
    cases d <;> (try simp only [reduceCtorEq] at h)
    rename_i e
    cases hi : P.info? e with
    | none => rw [hi] at h; simp at h
    | some i =>
      rw [hi] at h
      simp only at h
      cases hz : zeroA P e with
      | none => rw [hz] at h; split at h <;> simp_all
      | some zv =>
        rw [hz] at h
        split at h
        · rename_i z zv' hisz heq
          simp only [Option.some.injEq] at heq; subst heq
          simp only [beq_dec] at h
          by_cases hzl : (cellsA zv).length = z + 1
          case neg => simp [hzl] at h
          simp only [hzl, decide_true] at h
          cases hnc : newCells H (z + 1) x with
          | none => rw [hnc] at h; simp at h
          | some nc =>
            obtain ⟨n, new⟩ := nc
            rw [hnc] at h
            simp only at h
            obtain ⟨NEW, hNEW, hNl, hNr⟩ := newCells_sound (P := P) hH hnc hx
            obtain ⟨Z, hZ, rZ⟩ := zero_sound hz φ
            have hz0 : i.zero = some Z := by
              have := rZ w
              simp only [zeroValue, Sem.run_bind, run_typeInfo1 w hi, Result.andThen_ok] at this
              cases hiz : i.zero with
              | none => rw [hiz] at this; simp at this
              | some q => rw [hiz] at this; simp at this; rw [this]
            have hZs : Z.cells.size = z + 1 := by
              have := cvL_length (cells_sound hZ)
              simp at this; omega
            have hisz' : i.size = z + 1 := hisz
            rw [← hisz'] at hNr
            obtain ⟨hlen, hfirst⟩ := hNr w rfl
            split at h
            · -- nil, nothing new
              simp only [Option.some.injEq, Prod.mk.injEq] at h
              obtain ⟨rfl, rfl⟩ := h
              simp [cv] at hs; subst hs
              refine ⟨φ, w, .slice none 0 0, Post.refl hH, rfl, ?_⟩
              exact append_room_run (sCap := 0) (sLen := 0) (base := none) h0 h1 hu hu' hd hi hlen hfirst (by omega) rfl
            · rename_i b off len c
              simp only [ble_dec] at h
              by_cases hlc : len ≤ c
              case neg => simp [hlc] at h
              simp only [hlc, decide_true, Option.some.injEq, Prod.mk.injEq] at h
              obtain ⟨rfl, rfl⟩ := h
              obtain ⟨m, N, sh, hb, rfl⟩ := cv_slice hs
              have hN0 : NEW = [] := List.eq_nil_of_length_eq_zero (by simpa using hNl)
              subst hN0
              refine ⟨φ, w, _, Post.refl hH, hs, ?_⟩
              have := append_room_run (ty := ty) (sCap := c) (sLen := len) (n := 0) (base := some ⟨m, off + sh, none⟩) (w' := w) h0 h1 hu hu' hd hi hlen hfirst (by omega) rfl
              simpa [capOf] using this
            · rename_i b off len z'
              cases hc : cellsOf H b with
              | none => rw [hc] at h; simp at h
              | some cs =>
                rw [hc] at h
                simp only [beq_dec, ble_dec] at h
                split at h
                · rename_i cs' q1 q2
                  simp only [Option.some.injEq] at q1; subst q1
                  simp only [decide_eq_true_eq] at q2; subst q2
                  by_cases hlc : off + len * (z + 1) ≤ cs.length
                  case neg => simp [hlc] at h
                  simp only [hlc, decide_true, Option.some.injEq, Prod.mk.injEq] at h
                  obtain ⟨rfl, rfl⟩ := h
                  obtain ⟨m, N, sh, hb, rfl⟩ := cv_slice hs
                  have hN0 : NEW = [] := List.eq_nil_of_length_eq_zero (by simpa using hNl)
                  subst hN0
                  have hNN : cs.length + sh ≤ N := by
                    unfold cellsOf at hc
                    split at hc
                    · rename_i e' o' c' hg
                      simp at hc; subst hc
                      obtain ⟨n', N', s', C, fz, Pre, L, R, q1, q2, q3, q4, q5, q6, q7, q8⟩ := live_cells hH hg
                      rw [hb] at q1
                      simp only [Option.some.injEq, Prod.mk.injEq] at q1
                      obtain ⟨rfl, rfl, rfl⟩ := q1
                      have := congrArg List.length q5
                      simp at this
                      have := cvL_length q4
                      omega
                    · simp at hc
                  refine ⟨φ, w, _, Post.refl hH, hs, ?_⟩
                  have hle : len ≤ (N - (off + sh)) / (z + 1) := by
                    rw [Nat.le_div_iff_mul_le (by omega)]; omega
                  have := append_room_run (ty := ty) (sCap := (N - (off + sh)) / (z + 1)) (sLen := len) (n := 0) (base := some ⟨m, off + sh, none⟩) (w' := w) h0 h1 hu hu' hd hi hlen hfirst (by omega) rfl
                  simpa [capOf] using this
                · simp at h
            · rename_i n' hn0
              simp only [ble_dec] at h
              split at h
              · rename_i g1 g2 g3
                simp only [decide_eq_true_eq] at g2 g3
                simp only [Option.some.injEq, Prod.mk.injEq] at h
                obtain ⟨rfl, rfl⟩ := h
                simp [cv] at hs; subst hs
                have hnz : n ≠ 0 := fun e => hn0 e
                obtain ⟨hlen', hfirst'⟩ := hNr w.drew rfl
                have run := append_grow_run (ty := ty) (base := none) (sLen := 0) (sCap := 0) (OLD := []) h0 h1 hu hu' hd hi hz0 hlen hfirst' (by simp [Builtin.firstCells]) (by omega) (by rw [Nat.zero_add]; exact g2) (by omega)
                have hge := grownCap_ge w (0 + n) 0 e
                refine ⟨ext φ H.next w.heap.size (grownCap w (0 + n) 0 e * (z + 1)) 0, _, _, ?_, ?_, run⟩
                · refine HRel.alloc (N := grownCap w (0 + n) 0 e * (z + 1)) (s := 0) hH (Nat.le_refl _) rfl (Hp.get_new H _) (by simp) (by simp) ?_ rfl rfl rfl
                  refine ⟨_, (0, 0), [], NEW, (Builtin.zeroCells Z.cells (grownCap w (0 + n) 0 e - (0 + n))).toList, rfl, ?_, cvL_mono (ext_le (hH.fresh _ (Nat.le_refl _))) _ _ hNEW, by simp, rfl, fun h => by simp at h, fun q _ h => by simp at h⟩
                  simp only [Array.size_append, List.size_toArray, List.length_nil, Nat.zero_add, zeroCells_size, hZs, hNl, hisz]
                  rw [← Nat.add_mul]
                  congr 1
                  simp only [Nat.zero_add] at hge
                  omega
                · simp [cv, capOf, ext_self]
              · simp at h
            · rename_i b off len cap hn0 hn1
              have hnz : n ≠ 0 := by
                intro e0
                cases cap with
                | known c => exact hn0 c e0 rfl
                | toEnd z' => exact hn1 z' e0 rfl
              split at h
              · rename_i cs1 q1 q2 q3 q4
                simp only [ble_dec, decide_eq_true_eq] at q3 q4
                cases ht : takeN (len * (z + 1)) (dropA off cs1) with
                | none => rw [ht] at h; simp at h
                | some old =>
                  rw [ht] at h
                  cases hb : H.get b with
                  | none => rw [hb] at h; simp at h
                  | some ob =>
                    rw [hb] at h
                    cases ob <;> (try simp only [reduceCtorEq] at h)
                    rename_i e1 o cs
                    have hcs : cs1 = cs := by simp [cellsOf, hb] at q1; exact q1.symm
                    subst hcs
                    obtain ⟨m, N, sh, C, fz, Pre, L, R, k1, k2, k3, k4, k5, k6, k7, k8⟩ := live_cells hH hb
                    have hS : S = .slice (some ⟨m, off + sh, none⟩) len (capOf N (off + sh) cap) := by
                      simp only [cv, k1, Option.some.injEq] at hs
                      exact hs.symm
                    subst hS
                    have hnO : newCells H (z + 1) (.slice b off len cap) = some (len, old) := by
                      simp only [newCells, rowA, q1, ht]
                    obtain ⟨OLD, hOLD, hOl, hOr⟩ := newCells_sound (P := P) hH hnO hs
                    rw [← hisz'] at hOr
                    obtain ⟨hot, hol⟩ := takeN_some _ _ _ ht
                    simp only [dropA_eq] at hot hol
                    have hOLD' : OLD = (L.drop off).take (len * (z + 1)) := by
                      have := cvL_take (len * (z + 1)) (cvL_drop off k4)
                      rw [← hot, hOLD] at this
                      simpa using this
                    have hLl := cvL_length k4
                    have hnew := cvL_append hOLD hNEW
                    have hCl : C.size = Pre.length + (L.length + R.length) := by rw [← Array.length_toList, k5]; simp
                    have hdl : len * (z + 1) ≤ cs1.length - off := by simpa using hol
                    -- growing
                    have grow : capOf N (off + sh) cap < len + n → ∀ H1 : Hp, H1.next = H.next → (∀ b o, H1.get b = some o → H.get b = some o) →
                        ∃ φ' w' V, Post φ H w φ' (H1.new (.cells e true (old ++ new))) w' ∧ cv φ' (.slice H.next 0 (len + n) (.toEnd (z + 1))) = some V ∧
                          (Builtin.append_ ts ty #[.slice (some ⟨m, off + sh, none⟩) len (capOf N (off + sh) cap), X]).run P w = .ok V w' := by
                      intro hgr H1 hnx hsub
                      have p0 := Post.less hH hnx hsub
                      have run := append_grow_run (ty := ty) h0 h1 hu hu' hd hi hz0 hlen (hNr w.drew rfl).2 (hOr w.drew rfl).2 hgr q3 q4
                      have hge := grownCap_ge w (len + n) (capOf N (off + sh) cap) e
                      have hf1 : φ H1.next = none := p0.rel.fresh _ (Nat.le_refl _)
                      refine ⟨ext φ H1.next w.heap.size (grownCap w (len + n) (capOf N (off + sh) cap) e * (z + 1)) 0, _, _, ?_, ?_, run⟩
                      · refine p0.trans (HRel.alloc (N := grownCap w (len + n) (capOf N (off + sh) cap) e * (z + 1)) (s := 0) p0.rel (Nat.le_refl _) rfl (Hp.get_new H1 _) (by simp) (by simp) ?_ rfl rfl rfl)
                        refine ⟨_, (0, 0), [], OLD ++ NEW, (Builtin.zeroCells Z.cells (grownCap w (len + n) (capOf N (off + sh) cap) e - (len + n))).toList, rfl, ?_, cvL_mono (ext_le hf1) _ _ hnew, by simp, rfl, fun h => by simp at h, fun q _ h => by simp at h⟩
                        simp only [Array.size_append, List.size_toArray, zeroCells_size, hZs, hNl, hOl]
                        rw [← Nat.add_mul, ← Nat.add_mul]
                        congr 1
                        omega
                      · simp [cv, capOf, hnx, ext_self]
                    cases cap with
                    | known c =>
                      simp only [ble_dec] at h
                      by_cases hlc : len + n ≤ c
                      · simp only [hlc, decide_true] at h
                        cases hsp : splice new (off + len * (z + 1)) cs1 with
                        | none => rw [hsp] at h; simp at h
                        | some cs' =>
                          rw [hsp] at h
                          simp only [Option.some.injEq, Prod.mk.injEq] at h
                          obtain ⟨rfl, rfl⟩ := h
                          obtain ⟨w', r, post⟩ := splice_store (P := P) hH hb hsp hNEW q2 k1
                          refine ⟨φ, w', _, post, by simp only [cv, k1]; rfl, ?_⟩
                          refine append_room_run (base := some ⟨m, off + sh, none⟩) h0 h1 hu hu' hd hi hlen hfirst hlc ?_
                          simp only [addr_add, hisz']
                          exact r
                      · simp only [hlc, decide_false, Option.some.injEq, Prod.mk.injEq] at h
                        obtain ⟨rfl, rfl⟩ := h
                        exact grow (by simp only [capOf]; omega) H rfl (fun _ _ h => h)
                    | toEnd z' =>
                      simp only [beq_dec] at h
                      split at h
                      · rename_i g1 g2
                        simp only [decide_eq_true_eq] at g1 g2
                        subst g1 g2
                        simp only [Option.some.injEq, Prod.mk.injEq] at h
                        obtain ⟨rfl, rfl⟩ := h
                        by_cases hroom : len + n ≤ capOf N (off + sh) (.toEnd (z + 1))
                        · -- in place, under a new name
                          have hroom' : (len + n) * (z + 1) ≤ N - (off + sh) := by
                            simp only [capOf] at hroom
                            exact (Nat.le_div_iff_mul_le (by omega)).1 hroom
                          rw [Nat.add_mul] at hroom'
                          have hnp : 0 < n * (z + 1) := Nat.mul_pos (by omega) (by omega)
                          obtain ⟨w', r, hh, hsz, ho, ht', hq⟩ := store_run (P := P) m e1 fz NEW (off + sh + len * (z + 1)) 0 C w k2 (by omega) (by rw [k3]; exact k8) (one_cells hNEW q2)
                          refine ⟨_, w', _, HRel.move (id := H.next) (s' := off + sh) (o' := .cells e1 true (old ++ new)) hH (Nat.le_refl _) hb k1 ?_ (by simp) (by simp) hh ?_ ho ht' hq hsz, by simp only [cv, ext, if_true]; rfl, ?_⟩
                          · intro j
                            rw [Hp.get_new, Hp.get_del]
                            rfl
                          · refine ⟨_, fz, C.toList.take (off + sh), OLD ++ NEW, C.toList.drop (off + sh + len * (z + 1) + NEW.length), rfl, ?_, hnew, ?_, ?_, fun h => by simp at h, k8⟩
                            · simp only [List.size_toArray, List.length_append, List.length_take, List.length_drop, Array.length_toList]
                              omega
                            · simp only [Nat.add_zero]
                              subst k6
                              have t1 : C.toList.take (off + Pre.length + len * (z + 1)) = C.toList.take (off + Pre.length) ++ OLD := by
                                by_cases hge : off ≤ L.length
                                case neg =>
                                  have h0' : len * (z + 1) = 0 := by
                                    omega
                                  rw [h0', Nat.add_zero, hOLD', h0', List.take_zero, List.append_nil]
                                rw [List.take_add, hOLD', k5]
                                congr 1
                                rw [List.drop_append, List.drop_of_length_le (by omega), List.nil_append]
                                rw [show off + Pre.length - Pre.length = off from by omega, List.drop_append_of_le_length (by omega)]
                                rw [List.take_append_of_le_length (by simp; omega)]
                              rw [t1]
                              simp [List.append_assoc]
                            · simp; omega
                          · have := append_room_run (ty := ty) (base := some ⟨m, off + sh, none⟩) h0 h1 hu hu' hd hi hlen hfirst hroom (w' := w') (by
                              simp only [Addr.add, hisz']
                              split
                              · rename_i e0
                                rw [e0, Nat.add_zero] at r
                                exact r
                              · exact r)
                            simpa using this
                        · exact grow (by omega) (H.del b) rfl (fun c oc hc => by
                            rw [Hp.get_del] at hc
                            by_cases e' : c = b
                            · rw [if_pos e'] at hc; cases hc
                            · rw [if_neg e'] at hc; exact hc)
                      · simp at h
              · simp at h
            · simp at h
        · simp at h
end Go.Ae
