/-
  A part of an evaluator of translated programs, and of the proof that what it answers is what the model says; no condition.
-/
import Derived.Test.YtnenpicelhkelaaGreatDoorAeEff3
namespace Go.Ae
set_option linter.unusedVariables false
set_option linter.unusedSimpArgs false

theorem takeN_le {α : Type} : ∀ (n : Nat) (l : List α), n ≤ l.length → takeN n l = some (l.take n)
  | 0, l, _ => by simp [takeN_zero]
  | n + 1, [], h => by simp at h
  | n + 1, a :: l, h => by
    have := takeN_le n l (by simpa using h)
    simp [takeN_cons, this]
theorem rowA_less {H : Hp} {b off n k : Nat} {l : List AV} (h : rowA H b off n = some l) (hk : k ≤ n) : rowA H b off k = some (l.take k) := by
  unfold rowA at *
  cases hc : cellsOf H b with
  | none => rw [hc] at h; simp at h
  | some c =>
    rw [hc] at h
    simp only at h ⊢
    obtain ⟨e, hl⟩ := takeN_some _ _ _ h
    rw [takeN_le _ _ (by omega), e, List.take_take, Nat.min_eq_left hk]

section
variable {P : Program} {φ : Phi} {H : Hp} {w : World} (hH : HRel φ H w)
include hH
theorem first_less {z : Nat} {x : AV} {X : Value} {n k : Nat} {new : List AV} (h : newCells H z x = some (n, new)) (hx : cv φ x = some X) (hk : k ≤ n) :
    ∃ NEW, cvL φ (new.take (k * z)) = some NEW ∧ (Builtin.firstCells z k X).run P w = .ok NEW.toArray w := by
  unfold newCells at h
  split at h
  · simp only [Option.some.injEq, Prod.mk.injEq] at h
    obtain ⟨rfl, rfl⟩ := h
    simp [cv] at hx; subst hx
    exact ⟨[], by simp [cvL], rfl⟩
  · rename_i b off m c
    obtain ⟨mb, N, s, hb, rfl⟩ := cv_slice hx
    cases hr : rowA H b off (m * z) with
    | none => rw [hr] at h; simp at h
    | some l =>
      rw [hr] at h
      simp only [Option.some.injEq, Prod.mk.injEq] at h
      obtain ⟨rfl, rfl⟩ := h
      obtain ⟨L, hL, hlen, r⟩ := row_sound (P := P) hH (rowA_less hr (Nat.mul_le_mul_right z hk)) hb
      exact ⟨L, hL, by simpa [Builtin.firstCells] using r⟩
  · rename_i s
    have h0 := h
    obtain ⟨rfl, hs⟩ := cv_str hx
    simp only [beq_dec] at h
    split at h
    · rename_i g
      simp only [decide_eq_true_eq] at g
      subst g
      simp only [Option.some.injEq, Prod.mk.injEq] at h
      obtain ⟨rfl, rfl⟩ := h
      have hxs : cv φ (.str (s.take k)) = some (.string (toBytes (s.take k))) := str_cv φ (fun n hn => hs n (List.mem_of_mem_take hn))
      have hn : newCells H 1 (.str (s.take k)) = some ((s.take k).length, (s.take k).map fun n => .int .u8 (Int.ofNat n)) := by
        simp [newCells, beq_dec]
      obtain ⟨NEW, h1, h2, h3⟩ := newCells_sound (P := P) hH hn hxs
      refine ⟨NEW, by simpa [← List.map_take] using h1, ?_⟩
      have r := (h3 w rfl).2
      simp only [Builtin.firstCells, Sem.run_pure, Result.ok.injEq] at r ⊢
      refine ⟨?_, trivial⟩
      rw [← r.1]
      have e1 := take_bytes s 0 k hk (Nat.zero_le _)
      have e2 := take_bytes (s.take k) 0 (s.take k).length (Nat.le_refl _) (Nat.zero_le _)
      simp only [List.drop_zero, Nat.sub_zero, List.take_length] at e1 e2
      rw [e1, e2]
    · simp at h
  · simp at h
end

/-- What an acting operation comes to. -/
def EffOk (P : Program) (φ : Phi) (H : Hp) (w : World) (v : AV) (H' : Hp) (s : Sem Next) : Prop :=
  ∃ φ' w' V N, Post φ H w φ' H' w' ∧ cv φ' v = some V ∧ s.run P w = .ok N w' ∧ (N = .value V ∨ (N = .skip ∧ V = undef))
theorem cv_undef (φ : Phi) : cv φ undefA = some undef := by simp [undefA, cv, cvL, undef]

theorem rep_nil (n : Nat) : rep ([] : List Value) n = [] := by
  induction n with
  | zero => rfl
  | succ n ih => simp [rep, ih]
theorem zeroCells_rep (z : List Value) (n : Nat) : (Builtin.zeroCells z.toArray n).toList = rep z n := by
  cases z with
  | nil => simp [Builtin.zeroCells, rep_nil]
  | cons a l =>
    simp only [Builtin.zeroCells, List.size_toArray]
    rw [range_rep _ n (.inl (by simp))]

theorem eff_sound {P : Program} {F : Fr} {o : Oper} {v : AV} {H H' : Hp} (h : effA P F H o = some (v, H')) {φ : Phi} {a : Act} (hF : TRel φ F a.tmps) {w : World} (hH : HRel φ H w) :
    EffOk P φ H w v H' (execOp a.eval o) := by
  obtain ⟨dst, op, ty, pos, after, guard⟩ := o
  have upd : ∀ t m k x, (match P.underlying t, aeval F m, aeval F k, aeval F x with
      | some (.map kt _), some (.map b), some k, some v => (match P.underlying kt, H.get b with
        | some kd, some (.map es c) => (match plainKey kd k, setEn P kt k v c es with
          | true, some (es', c') => some (undefA, H.put b (.map es' c'))
          | _, _ => none)
        | _, _ => none)
      | _, _, _, _ => none) = some (v, H') →
      EffOk P φ H w v H' (do Instr.mapUpdate t (a.eval m) (a.eval k) (a.eval x); pure Next.skip) := by
    intro t m k x h
    split at h
    · rename_i kt et b k' v' hu hm hk hx
      split at h
      · rename_i kd es c hkd hg
        split at h
        · rename_i es' c' hp hs
          simp only [Option.some.injEq, Prod.mk.injEq] at h
          obtain ⟨rfl, rfl⟩ := h
          obtain ⟨M, hM, em⟩ := eval_sound hF hm
          obtain ⟨K, hK, ek⟩ := eval_sound hF hk
          obtain ⟨X, hX, ex⟩ := eval_sound hF hx
          obtain ⟨n, y, hb, rfl⟩ := cv_map hM
          obtain ⟨w', r, post⟩ := update_sound hH hu hkd hb hg hK hX hp hs
          exact ⟨φ, w', undef, .skip, post, cv_undef φ, skip_run (by rw [em, ek, ex]; exact r), .inr ⟨rfl, rfl⟩⟩
        · simp at h
      · simp at h
    · simp at h
  cases op <;> simp only [effA, reduceCtorEq] at h
  case store t x y =>
    split at h
    · rename_i b off v' hx hy
      cases hs : storeA P H t b off v' with
      | none => rw [hs] at h; simp at h
      | some H2 =>
        rw [hs] at h
        simp only [Option.some.injEq, Prod.mk.injEq] at h
        obtain ⟨rfl, rfl⟩ := h
        obtain ⟨X, hX, ex⟩ := eval_sound hF hx
        obtain ⟨Y, hY, ey⟩ := eval_sound hF hy
        obtain ⟨n, N, s, hb, rfl⟩ := cv_ptr hX
        obtain ⟨w', r, post⟩ := store_sound (P := P) hH hs hY hb
        refine ⟨φ, w', undef, .skip, post, cv_undef φ, ?_, .inr ⟨rfl, rfl⟩⟩
        simp only [execOp, ex, ey]
        exact skip_run (by simp [Instr.storeAt, Instr.sureAddr, r])
    · simp at h
  case mapUpdate t m k x => exact upd t m k x h
  case insert t m k x => exact upd t m k x h
  case call c =>
    obtain ⟨cal, xs, ts⟩ := c
    cases cal <;> (try simp only [reduceCtorEq] at h)
    rename_i bi
    cases bi <;> (try simp only [reduceCtorEq] at h)
    case append =>
      split at h
      · rename_i t t' s x h0 h1 hxs
        have hex := evals_sound hF hxs
        obtain ⟨S, r1, hS, hr1, e1⟩ := cvL_cons.1 hex
        obtain ⟨X, r2, hX, hr2, e2⟩ := cvL_cons.1 hr1
        simp [cvL] at hr2; subst hr2; subst e2
        have hargs : xs.map a.eval = #[S, X] := by
          apply Array.ext'
          simpa using e1
        have fin : ∀ d', P.underlying t' = some d' → ((∃ e', d' = .slice e') ∨ d' = .string) → appendA P H t s x = some (v, H') → EffOk P φ H w v H' (execOp a.eval ⟨dst, .call ⟨.builtin .append, xs, ts⟩, ty, pos, after, guard⟩) := by
          intro d' hu' hd h
          obtain ⟨φ', w', V, post, hv, r⟩ := append_sound (ty := ty) hH h0 h1 hu' hd h hS hX
          refine ⟨φ', w', V, .value V, post, hv, ?_, .inl rfl⟩
          simp only [execOp, resolve, Sem.run_bind, Sem.run_pure, Result.andThen_ok, invoke, builtin, hargs, r]
        split at h
        · rename_i e' hu'; exact fin _ hu' (.inl ⟨_, rfl⟩) h
        · rename_i hu'; exact fin _ hu' (.inr rfl) h
        · simp at h
      · simp at h
    case copy =>
      split at h
      · rename_i t d x h0 hxs
        have hex := evals_sound hF hxs
        obtain ⟨D, r1, hD, hr1, e1⟩ := cvL_cons.1 hex
        obtain ⟨X, r2, hX, hr2, e2⟩ := cvL_cons.1 hr1
        simp [cvL] at hr2; subst hr2; subst e2
        have hargs : xs.map a.eval = #[D, X] := by
          apply Array.ext'
          simpa using e1
        have fin : ∀ w' V, Post φ H w φ H' w' → cv φ v = some V → (Builtin.copy_ ts ty #[D, X]).run P w = .ok V w' → EffOk P φ H w v H' (execOp a.eval ⟨dst, .call ⟨.builtin .copy, xs, ts⟩, ty, pos, after, guard⟩) := by
          intro w' V post hv r
          refine ⟨φ, w', V, .value V, post, hv, ?_, .inl rfl⟩
          simp only [execOp, resolve, Sem.run_bind, Sem.run_pure, Result.andThen_ok, invoke, builtin, hargs, r]
        split at h
        · rename_i e hu
          split at h
          · rename_i b off n c m new hsz hnc
            split at h
            · rename_i e' o' cs hb ha
              cases ht : takeN (Nat.min m n) new with
              | none => rw [ht] at h; simp at h
              | some l =>
                rw [ht] at h
                simp only at h
                cases hs : splice l off cs with
                | none => rw [hs] at h; simp at h
                | some cs' =>
                  rw [hs] at h
                  simp only [Option.some.injEq, Prod.mk.injEq] at h
                  obtain ⟨rfl, rfl⟩ := h
                  obtain ⟨et, hl⟩ := takeN_some _ _ _ ht
                  obtain ⟨bn, N, s, hn, rfl⟩ := cv_slice hD
                  obtain ⟨NEW, hN, rf⟩ := first_less (P := P) (k := Nat.min m n) hH hnc hX (Nat.min_le_left _ _)
                  obtain ⟨_, _, _, rl⟩ := newCells_sound (P := P) hH hnc hX
                  rw [Nat.mul_one, ← et] at hN
                  have hal : atoms l = true := by
                    rw [et]
                    have : ∀ (l : List AV) (k : Nat), atoms l = true → atoms (l.take k) = true := by
                      intro l
                      induction l with
                      | nil => intro k _; simp [atoms]
                      | cons a l ih =>
                        intro k hk
                        cases k with
                        | zero => simp [atoms]
                        | succ k =>
                          simp only [atoms] at hk
                          split at hk
                          · rename_i g; simp [atoms, g, ih k hk]
                          · simp at hk
                    exact this _ _ ha
                  obtain ⟨w', r, post⟩ := splice_store (P := P) hH hb hs hN hal hn
                  refine fin w' _ post rfl ?_
                  simp only [Builtin.copy_, h0, List.getElem?_toArray, List.getElem?_cons_zero, List.getElem?_cons_succ, Sem.run_bind, run_underlying1 w hu, run_size1 w hsz, Result.andThen_ok, (rl w rfl).1, rf, r, Sem.run_pure, goInt]
                  rfl
            · simp at h
          · rename_i m new hsz hnc
            simp only [Option.some.injEq, Prod.mk.injEq] at h
            obtain ⟨rfl, rfl⟩ := h
            simp [cv] at hD; subst hD
            obtain ⟨NEW, hN, rf⟩ := first_less (P := P) (k := 0) hH hnc hX (Nat.zero_le _)
            obtain ⟨_, _, _, rl⟩ := newCells_sound (P := P) hH hnc hX
            refine fin w _ (Post.refl hH) rfl ?_
            have e0 : Nat.min m 0 = 0 := Nat.min_zero m
            simp only [Builtin.copy_, h0, List.getElem?_toArray, List.getElem?_cons_zero, List.getElem?_cons_succ, Sem.run_bind, run_underlying1 w hu, run_size1 w hsz, Result.andThen_ok, (rl w rfl).1, e0, rf, Sem.run_pure, goInt]
            rfl
          · simp at h
        · simp at h
      · simp at h
    case clear =>
      split at h
      · rename_i t x rest h0 hxs
        have hex := evals_sound hF hxs
        obtain ⟨X, r1, hX, hr1, e1⟩ := cvL_cons.1 hex
        have hargs : (xs.map a.eval)[0]? = some X := by
          rw [← Array.getElem?_toList, Array.toList_map, e1]; rfl
        have fin : ∀ w', v = .tup [] → Post φ H w φ H' w' → (Builtin.clear_ ts ty (xs.map a.eval)).run P w = .ok (.tuple #[]) w' → EffOk P φ H w v H' (execOp a.eval ⟨dst, .call ⟨.builtin .clear, xs, ts⟩, ty, pos, after, guard⟩) := by
          intro w' hv post r
          refine ⟨φ, w', _, .value (.tuple #[]), post, by rw [hv]; rfl, ?_, .inl rfl⟩
          simp only [execOp, resolve, Sem.run_bind, Sem.run_pure, Result.andThen_ok, invoke, builtin, r]
        split at h
        · rename_i e hu
          simp only [Option.some.injEq, Prod.mk.injEq] at h
          obtain ⟨rfl, rfl⟩ := h
          simp [cv] at hX; subst hX
          refine fin w rfl (Post.refl hH) ?_
          simp [Builtin.clear_, h0, hargs, run_underlying1 w hu]
        · rename_i e b off c hu
          simp only [Option.some.injEq, Prod.mk.injEq] at h
          obtain ⟨rfl, rfl⟩ := h
          obtain ⟨bn, N, s, hn, rfl⟩ := cv_slice hX
          refine fin w rfl (Post.refl hH) ?_
          simp [Builtin.clear_, h0, hargs, run_underlying1 w hu]
        · rename_i e b off n c hn0 hu
          split at h
          · rename_i z e' o' cs hz hb
            split at h
            · rename_i cs' ha hs
              simp only [Option.some.injEq, Prod.mk.injEq] at h
              obtain ⟨rfl, rfl⟩ := h
              obtain ⟨bn, N, s, hn, rfl⟩ := cv_slice hX
              obtain ⟨Z, hZ, rZ⟩ := zero_sound hz φ
              have hZc := cells_sound hZ
              have hat : ∀ n, atoms (rep (cellsA z) n) = true := by
                intro n
                have : ∀ a b : List AV, atoms a = true → atoms b = true → atoms (a ++ b) = true := by
                  intro a b ha hb
                  induction a with
                  | nil => exact hb
                  | cons x a ih =>
                    simp only [atoms] at ha
                    split at ha
                    · rename_i g; simp [atoms, g, ih ha]
                    · simp at ha
                induction n with
                | zero => rfl
                | succ n ih => exact this _ _ ha ih
              obtain ⟨w', r, post⟩ := splice_store (P := P) hH hb hs (cvL_rep hZc n) (hat n) hn
              refine fin w' rfl post ?_
              cases n with
              | zero => exact absurd rfl (fun e => hn0 e)
              | succ n =>
                have hzr : (Builtin.zeroCells Z.cells (n + 1)).toList = rep Z.cells.toList (n + 1) := by
                  have := zeroCells_rep Z.cells.toList (n + 1)
                  simpa using this
                simp only [Builtin.clear_, h0, hargs, Sem.run_bind, run_underlying1 w hu, Result.andThen_ok, rZ w, hzr, r, Sem.run_pure]
            · simp at h
          · simp at h
        · simp at h
      · simp at h
end Go.Ae
