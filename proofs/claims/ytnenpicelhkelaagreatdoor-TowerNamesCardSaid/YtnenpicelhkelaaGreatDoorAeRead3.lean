/-
  A part of an evaluator of translated programs, and of the proof that what it answers is what the model says; no condition.
-/
import Derived.Test.YtnenpicelhkelaaGreatDoorAeRead2
namespace Go.Ae
set_option linter.unusedVariables false
set_option linter.unusedSimpArgs false

theorem optO {φ : Phi} {F : Fr} {a : Act} (hF : TRel φ F a.tmps) {x : Option Operand} {r : Option AV} (h : aevalO F x = some r) : BndOk φ r (x.map a.eval) := by
  have := evalO_sound hF h
  cases r with
  | none => simp only at this; subst this; rfl
  | some v => obtain ⟨y, V, rfl, hV, e⟩ := this; exact ⟨V, by simp [e], hV⟩

theorem lookup_run {P : Program} {w : World} {t kt et : TypeId} (hu : P.underlying t = some (.map kt et)) {X K : Value} {ok : Bool} {ES : List MapEntry}
    (he : (X = .map none ∧ ES = []) ∨ (∃ n clk, X = .map (some n) ∧ w.heap[n]? = some (.map ES.toArray clk)))
    (hck : ∀ e, (Instr.checkKey e 10000 kt K).run P w = .ok () w) {R : Option (Nat × Value)} (hR : (Instr.findKey kt K ES).run P w = .ok R w) {u : Value} {b : Bool}
    (h : (∃ j, R = some (j, u) ∧ b = true) ∨ (R = none ∧ b = false ∧ (zeroValue et).run P w = .ok u w)) :
    (Instr.lookup t X K ok).run P w = .ok (if ok then .tuple #[u, .bool b] else u) w := by
  rcases he with ⟨rfl, rfl⟩ | ⟨n, clk, rfl, hn⟩
  · simp only [Instr.lookup, Sem.run_bind, run_underlying1 w hu, Result.andThen_ok, Sem.run_pure, hck, hR]
    rcases h with ⟨j, rfl, rfl⟩ | ⟨rfl, rfl, hz⟩
    · simp
    · simp [hz]
  · have hg : (getObj n).run P w = .ok (.map ES.toArray clk) w := by simp [getObj, Sem.run, hn]
    simp only [Instr.lookup, Sem.run_bind, run_underlying1 w hu, Result.andThen_ok, hg, Sem.run_pure, hck, hR]
    rcases h with ⟨j, rfl, rfl⟩ | ⟨rfl, rfl, hz⟩
    · simp
    · simp [hz]

theorem read_sound {P : Program} {F : Fr} {o : Oper} {v : AV} {H : Hp} (h : readA P F H o = some v) {φ : Phi} {a : Act} (hF : TRel φ F a.tmps) {w : World} (hH : HRel φ H w) :
    ∃ V, cv φ v = some V ∧ (execOp a.eval o).run P w = .ok (.value V) w := by
  obtain ⟨dst, op, ty, pos, after, guard⟩ := o
  cases op <;> simp only [readA, reduceCtorEq] at h
  case load t x =>
    cases hx : aeval F x with
    | none => rw [hx] at h; simp at h
    | some p =>
      rw [hx] at h
      obtain ⟨X, hX, ex⟩ := eval_sound hF hx
      cases p <;> (try simp only [reduceCtorEq] at h)
      rename_i b off
      obtain ⟨n, N, s, hb, rfl⟩ := cv_ptr hX
      obtain ⟨V, hV, r⟩ := load_sound (P := P) hH h hb
      refine ⟨V, hV, ?_⟩
      simp only [execOp, ex]
      exact val_run (by simp [Instr.loadAt, Instr.sureAddr, r])
  case slice t x lo hi mx =>
    cases hx : aeval F x with
    | none => rw [hx] at h; split at h <;> simp_all
    | some p =>
      cases h1 : aevalO F lo with
      | none => rw [hx, h1] at h; split at h <;> simp_all
      | some l =>
        cases h2 : aevalO F hi with
        | none => rw [hx, h1, h2] at h; split at h <;> simp_all
        | some hh =>
          cases h3 : aevalO F mx with
          | none => rw [hx, h1, h2, h3] at h; split at h <;> simp_all
          | some m =>
            rw [hx, h1, h2, h3] at h
            obtain ⟨X, hX, ex⟩ := eval_sound hF hx
            have hmh : m = none ∨ hh ≠ none := by
              cases m with
              | none => exact .inl rfl
              | some m => cases hh with
                | none => simp at h
                | some u => exact .inr (by simp)
            have h' : sliceA P H t p l hh m = some v := by
              cases hh with
              | none => cases m with
                | none => exact h
                | some m => simp at h
              | some u => exact h
            obtain ⟨V, hV, r⟩ := slice_sound (P := P) hH h' hX (optO hF h1) (optO hF h2) (optO hF h3) hmh
            refine ⟨V, hV, ?_⟩
            simp only [execOp, ex]
            exact val_run r
  case convert s d x =>
    cases hx : aeval F x with
    | none => rw [hx] at h; split at h <;> simp_all
    | some p =>
      rw [hx] at h
      obtain ⟨X, hX, ex⟩ := eval_sound hF hx
      split at h
      · rename_i e b off n c hu1 hu2 hp
        simp only [Option.some.injEq] at hp; subst hp
        obtain ⟨m, N, s', hb, rfl⟩ := cv_slice hX
        cases he : P.underlying e with
        | none => rw [he] at h; simp at h
        | some de =>
          rw [he] at h
          cases de <;> (try simp only [reduceCtorEq] at h)
          rename_i k
          cases k <;> (try simp only [reduceCtorEq] at h)
          cases hr : rowA H b off n with
          | none => rw [hr] at h; simp at h
          | some l =>
            rw [hr] at h
            simp only at h
            cases hs : bytesA l with
            | none => rw [hs] at h; simp at h
            | some sl =>
              rw [hs] at h; simp at h; subst h
              obtain ⟨L, hL, hlen, _⟩ := row_sound (P := P) hH hr hb
              obtain ⟨e1, e2⟩ := bytes_sound hs hL
              have hcell : ∀ i, i < n → w.cell? ⟨m, off + s' + i, none⟩ = some (.int .u8 ((sl.map Int.ofNat).getD i 0)) := by
                intro i hi
                unfold rowA at hr
                cases hc : cellsOf H b with
                | none => rw [hc] at hr; simp at hr
                | some c' =>
                  rw [hc] at hr
                  simp only [dropA_eq] at hr
                  obtain ⟨e3, hl3⟩ := takeN_some _ _ _ hr
                  unfold cellsOf at hc
                  split at hc
                  · rename_i e' o' c'' hg
                    simp at hc; subst hc
                    obtain ⟨n', N', s'', C, fz, Pre, L', R, q1, q2, q3, q4, q5, q6, q7, q8⟩ := live_cells hH hg
                    have hcv := cvL_take n (cvL_drop off q4)
                    rw [← e3] at hcv
                    rw [hL] at hcv
                    simp only [Option.some.injEq] at hcv
                    have hi' : L'[off + i]? = some (.int .u8 ((sl.map Int.ofNat).getD i 0)) := by
                      have : L[i]? = some (.int .u8 ((sl.map Int.ofNat).getD i 0)) := by
                        subst e1
                        have hil : i < sl.length := by simp at hlen; omega
                        simp [List.getElem?_map, List.getElem?_eq_getElem hil, List.getD, hil]
                      rw [hcv, List.getElem?_take, if_pos hi, List.getElem?_drop] at this
                      exact this
                    have := cell_live hH hg hb q4 hi'
                    rw [show off + s' + i = off + i + s' from by omega]
                    exact this
                  · simp at hc
              have hlen' : (sl.map Int.ofNat).length = n := by subst e1; simpa using hlen
              have run := run_convert_bytes_arg (P := P) w s e hu1 he m (off + s') n (capOf N (off + s') c) (sl.map Int.ofNat) hlen' hcell d hu2
              refine ⟨_, str_cv φ e2, ?_⟩
              simp only [execOp, ex]
              refine val_run ?_
              rw [run]
              congr 2
              simp [strOfNums, toBytes]
      · rename_i e hu1 hu2 hp
        simp only [Option.some.injEq] at hp; subst hp
        simp [cv] at hX; subst hX
        cases he : P.underlying e with
        | none => rw [he] at h; simp at h
        | some de =>
          rw [he] at h
          cases de <;> (try simp only [reduceCtorEq] at h)
          rename_i k
          cases k <;> (try simp only [reduceCtorEq, Option.some.injEq] at h)
          subst h
          refine ⟨_, str_cv φ (by simp), ?_⟩
          simp only [execOp, ex]
          refine val_run ?_
          rw [run_convert_bytes_nil (P := P) w s e hu1 he 0 0 d hu2]
          rfl
      · simp at h
  case lookup t m k ok =>
    cases hm : aeval F m with
    | none => rw [hm] at h; split at h <;> simp_all
    | some p =>
      cases hk : aeval F k with
      | none => rw [hm, hk] at h; split at h <;> simp_all
      | some q =>
        rw [hm, hk] at h
        obtain ⟨X, hX, ex⟩ := eval_sound hF hm
        obtain ⟨K, hK, ek⟩ := eval_sound hF hk
        split at h
        · rename_i kt et m' k' hu hp hq
          simp only [Option.some.injEq] at hp hq; subst hp; subst hq
          cases hkd : P.underlying kt with
          | none => rw [hkd] at h; simp at h
          | some kd =>
            cases hes : entriesA H p with
            | none => rw [hkd, hes] at h; simp at h
            | some es =>
              rw [hkd, hes] at h
              simp only at h
              cases hpl : plainKey kd q with
              | false => rw [hpl] at h; simp at h
              | true =>
                rw [hpl] at h
                simp only at h
                cases hf : findA P kt q es with
                | none => rw [hf] at h; simp at h
                | some r =>
                  rw [hf] at h
                  have src : ∃ ES : List MapEntry, cvEs φ es = some ES ∧ ((X = .map none ∧ ES = []) ∨ (∃ n clk, X = .map (some n) ∧ w.heap[n]? = some (.map ES.toArray clk))) := by
                    unfold entriesA at hes
                    split at hes
                    · simp at hes; subst hes
                      simp [cv] at hX; subst hX
                      exact ⟨[], rfl, .inl ⟨rfl, rfl⟩⟩
                    · rename_i b
                      obtain ⟨n, x, hb, rfl⟩ := cv_map hX
                      split at hes
                      · rename_i es' clk hg
                        simp at hes; subst hes
                        obtain ⟨n', N, s, q1, ES, q2, q3⟩ := hH.live b _ hg
                        rw [hb] at q1
                        simp only [Option.some.injEq, Prod.mk.injEq] at q1
                        obtain ⟨rfl, rfl⟩ := q1
                        exact ⟨ES, q2, .inr ⟨_, _, rfl, q3⟩⟩
                      · simp at hes
                    · simp at hes
                  obtain ⟨ES, hES, hsrc⟩ := src
                  obtain ⟨R, hR, hOk⟩ := findKey_sound (P := P) hkd hK hpl w hf hES
                  have hck := fun e => checkKey_plain (P := P) hkd hK hpl e w
                  cases r with
                  | none =>
                    simp only [FoundOk] at hOk
                    subst hOk
                    cases hz : zeroA P et with
                    | none => rw [hz] at h; simp at h
                    | some z =>
                      rw [hz] at h
                      simp only [Option.some.injEq] at h
                      obtain ⟨Z, hZ, rZ⟩ := zero_sound hz φ
                      have rr := lookup_run (ok := ok) hu hsrc hck hR (u := Z) (b := false) (.inr ⟨rfl, rfl, rZ w⟩)
                      cases ok with
                      | true =>
                        simp only at h; subst h
                        refine ⟨.tuple #[Z, .bool false], by simp [cv, cvL, hZ], ?_⟩
                        simp only [execOp, ex, ek]
                        exact val_run (by simpa using rr)
                      | false =>
                        simp only at h; subst h
                        refine ⟨Z, hZ, ?_⟩
                        simp only [execOp, ex, ek]
                        exact val_run (by simpa using rr)
                  | some u =>
                    obtain ⟨j, U, rfl, hU⟩ := hOk
                    simp only [Option.some.injEq] at h
                    have rr := lookup_run (ok := ok) hu hsrc hck hR (u := U) (b := true) (.inl ⟨j, rfl, rfl⟩)
                    cases ok with
                    | true =>
                      simp only at h; subst h
                      refine ⟨.tuple #[U, .bool true], by simp [cv, cvL, hU], ?_⟩
                      simp only [execOp, ex, ek]
                      exact val_run (by simpa using rr)
                    | false =>
                      simp only at h; subst h
                      refine ⟨U, hU, ?_⟩
                      simp only [execOp, ex, ek]
                      exact val_run (by simpa using rr)
        · simp at h
  case next it isStr =>
    cases hx : aeval F it with
    | none => rw [hx] at h; split at h <;> simp_all
    | some p =>
      rw [hx] at h
      obtain ⟨X, hX, ex⟩ := eval_sound hF hx
      split at h
      · rename_i b hp
        simp only [Option.some.injEq] at hp; subst hp
        obtain ⟨n, N, s, hb, rfl⟩ := cv_ptr hX
        cases hg : H.get b with
        | none => rw [hg] at h; simp at h
        | some ob =>
          rw [hg] at h
          obtain ⟨n', N', s', q1, q2⟩ := hH.live b _ hg
          rw [hb] at q1
          simp only [Option.some.injEq, Prod.mk.injEq] at q1
          obtain ⟨rfl, rfl, rfl⟩ := q1
          cases ob <;> (try simp only [reduceCtorEq] at h)
          rename_i m since seen stepped
          cases m with
          | none =>
            simp at h; subst h
            obtain ⟨rfl, q2⟩ := q2
            refine ⟨_, rfl, ?_⟩
            simp only [execOp, ex]
            refine val_run ?_
            simp [Instr.next, getObj, Sem.run, q2]
          | some mb =>
            simp only at h
            obtain ⟨rfl, mn, x, hmb, q2⟩ := q2
            cases hgm : H.get mb with
            | none => rw [hgm] at h; simp at h
            | some obm =>
              rw [hgm] at h
              cases obm <;> (try simp only [reduceCtorEq] at h)
              rename_i es clk
              cases es <;> (try simp only [reduceCtorEq] at h)
              simp at h; subst h
              obtain ⟨n'', N'', s'', r1, ES, r2, r3⟩ := hH.live mb _ hgm
              rw [hmb] at r1
              simp only [Option.some.injEq, Prod.mk.injEq] at r1
              obtain ⟨rfl, rfl⟩ := r1
              simp [cvEs] at r2; subst r2
              refine ⟨_, rfl, ?_⟩
              simp only [execOp, ex]
              refine val_run ?_
              simp [Instr.next, getObj, Sem.run, q2, r3, choose, Question.forced]
      · simp at h
  case call c =>
    obtain ⟨callee, xs, ts⟩ := c
    cases callee <;> (try simp only [reduceCtorEq] at h)
    rename_i b
    cases b <;> (try simp only [reduceCtorEq] at h)
    cases h1 : aevals F xs.toList with
    | none => rw [h1] at h; split at h <;> simp_all
    | some l =>
      have e1 := evals_sound hF h1
      rw [h1] at h
      cases ht : ts[0]? with
      | none => rw [ht] at h; simp at h
      | some t =>
        rw [ht] at h
        split at h
        · rename_i t' b r q1 q2
          simp only [Option.some.injEq] at q1 q2; subst q1; subst q2
          obtain ⟨X, L, hX, hL, e⟩ := cvL_cons.1 e1
          obtain ⟨n, x, hb, rfl⟩ := cv_map hX
          have hargs : (xs.map a.eval)[0]? = some (.map (some n)) := by
            rw [← Array.getElem?_toList]; simp only [Array.toList_map]; rw [e]; simp
          split at h
          · rename_i kt et es clk hu hg
            simp at h; subst h
            obtain ⟨n', N, s, q1, ES, q2, q3⟩ := hH.live b _ hg
            rw [hb] at q1
            simp only [Option.some.injEq, Prod.mk.injEq] at q1
            obtain ⟨rfl, rfl⟩ := q1
            refine ⟨_, rfl, ?_⟩
            have hres : ∀ w, (resolve a.eval { callee := .builtin .len, args := xs, argTypes := ts } ty).run P w = .ok { target := .builtin .len ts ty (xs.map fun | .const _ => true | _ => false), args := xs.map a.eval } w := fun w => rfl
            have hlen := cvEs_length q2
            simp only [execOp, Sem.run_bind, hres, Result.andThen_ok, invoke, builtin, Builtin.len_, ht, hargs, run_underlying1 w hu]
            simp [getObj, Sem.run, q3, goInt, hlen]
          · simp at h
        · simp at h
end Go.Ae
