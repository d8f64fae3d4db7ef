/-
  A part of an evaluator of translated programs, and of the proof that what it answers is what the model says; no condition.
-/
import Derived.Test.YtnenpicelhkelaaGreatDoorAePure4
namespace Go.Ae
set_option linter.unusedVariables false
set_option linter.unusedSimpArgs false

theorem min_sound {P : Program} {φ : Phi} : ∀ {l : List AV} {x v : AV} {X : Value} {L : List Value}, minA x l = some v → cv φ x = some X → cvL φ l = some L → ∃ V, cv φ v = some V ∧ ∀ w, (L.foldlM Builtin.min2 X).run P w = .ok V w
  | [], x, v, X, L, h, hx, hl => by
    simp [minA] at h; subst h
    simp [cvL] at hl; subst hl
    exact ⟨X, hx, fun w => rfl⟩
  | y :: l, x, v, X, L, h, hx, hl => by
    obtain ⟨Y, M, hy, hm, rfl⟩ := cvL_cons.1 hl
    cases x <;> cases y <;> simp only [minA, reduceCtorEq] at h
    rename_i k a k' b
    obtain rfl := cv_int hx; obtain rfl := cv_int hy
    rw [ilt_eq] at h
    obtain ⟨V, hV, r⟩ := min_sound (P := P) (X := .int k (match decide (b < a) with | true => b | false => a)) h rfl hm
    refine ⟨V, hV, fun w => ?_⟩
    rw [List.foldlM_cons]
    have e : (Builtin.min2 (.int k a) (.int k' b)).run P w = .ok (.int k (match decide (b < a) with | true => b | false => a)) w := by
      simp only [Builtin.min2, Sem.run_pure]
      by_cases hb : b < a <;> simp [hb]
    rw [Sem.run_bind, e]
    exact r w
theorem max_sound {P : Program} {φ : Phi} : ∀ {l : List AV} {x v : AV} {X : Value} {L : List Value}, maxA x l = some v → cv φ x = some X → cvL φ l = some L → ∃ V, cv φ v = some V ∧ ∀ w, (L.foldlM Builtin.max2 X).run P w = .ok V w
  | [], x, v, X, L, h, hx, hl => by
    simp [maxA] at h; subst h
    simp [cvL] at hl; subst hl
    exact ⟨X, hx, fun w => rfl⟩
  | y :: l, x, v, X, L, h, hx, hl => by
    obtain ⟨Y, M, hy, hm, rfl⟩ := cvL_cons.1 hl
    cases x <;> cases y <;> simp only [maxA, reduceCtorEq] at h
    rename_i k a k' b
    obtain rfl := cv_int hx; obtain rfl := cv_int hy
    rw [ilt_eq] at h
    obtain ⟨V, hV, r⟩ := max_sound (P := P) (X := .int k (match decide (a < b) with | true => b | false => a)) h rfl hm
    refine ⟨V, hV, fun w => ?_⟩
    rw [List.foldlM_cons]
    have e : (Builtin.max2 (.int k a) (.int k' b)).run P w = .ok (.int k (match decide (a < b) with | true => b | false => a)) w := by
      simp only [Builtin.max2, Sem.run_pure]
      by_cases hb : a < b
      · have : b > a := hb
        simp [hb]
      · have : ¬ b > a := hb
        simp [hb]
    rw [Sem.run_bind, e]
    exact r w

theorem addr_add (n off s k : Nat) : (⟨n, off + s, none⟩ : Addr).add k = ⟨n, off + k + s, none⟩ := by
  unfold Addr.add
  split
  · simp_all
  · simp; omega

theorem pure_sound {P : Program} {F : Fr} {o : Oper} {v : AV} (h : pureA P F o = some v) {φ : Phi} {a : Act} (hF : TRel φ F a.tmps) :
    ∃ V, cv φ v = some V ∧ ∀ w, (execOp a.eval o).run P w = .ok (.value V) w := by
  obtain ⟨dst, op, ty, pos, after, guard⟩ := o
  cases op <;> simp only [pureA, reduceCtorEq] at h
  case move x => obtain ⟨V, hV, e⟩ := eval_sound hF h; exact ⟨V, hV, fun w => by simp [execOp, e]⟩
  case assign x => obtain ⟨V, hV, e⟩ := eval_sound hF h; exact ⟨V, hV, fun w => by simp [execOp, e]⟩
  case pick c x y =>
    cases hc : aeval F c with
    | none => rw [hc] at h; simp at h
    | some b =>
      rw [hc] at h
      cases b <;> (try simp only [reduceCtorEq] at h)
      rename_i b
      obtain ⟨C, hC, ec⟩ := eval_sound hF hc
      obtain rfl := cv_bool hC
      cases b with
      | true =>
        simp only at h
        obtain ⟨V, hV, e⟩ := eval_sound hF h
        exact ⟨V, hV, fun w => by simp [execOp, ec, asBool, e]⟩
      | false =>
        simp only at h
        obtain ⟨V, hV, e⟩ := eval_sound hF h
        exact ⟨V, hV, fun w => by simp [execOp, ec, asBool, e]⟩
  case build t parts =>
    obtain ⟨V, hV, r⟩ := build_sound hF h
    exact ⟨V, hV, fun w => val_run (r w)⟩
  case nilCheck x =>
    cases hx : aeval F x with
    | none => rw [hx] at h; simp at h
    | some y =>
      rw [hx] at h
      obtain ⟨V, hV, e⟩ := eval_sound hF hx
      cases y <;> (try simp only [reduceCtorEq] at h)
      case ptr b f =>
        simp at h; subst h
        obtain ⟨n, N, s, hb, rfl⟩ := cv_ptr hV
        exact ⟨_, hV, fun w => by simp [execOp, e]⟩
      case iface t u =>
        simp at h; subst h
        obtain ⟨X, hX, rfl⟩ := cv_iface hV
        exact ⟨_, hV, fun w => by simp [execOp, e]⟩
      case func fn p q =>
        obtain ⟨A, B, hA, hB, rfl⟩ := cv_func hV
        cases fn <;> simp only [reduceCtorEq, Option.some.injEq] at h
        case func g => subst h; exact ⟨_, hV, fun w => by simp [execOp, e]⟩
        case methodOf t n => subst h; exact ⟨_, hV, fun w => by simp [execOp, e]⟩
  case binOp op t x y t' =>
    cases hx : aeval F x with
    | none => rw [hx] at h; simp at h
    | some p =>
      cases hy : aeval F y with
      | none => rw [hx, hy] at h; simp at h
      | some q =>
        rw [hx, hy] at h
        simp only at h
        obtain ⟨X, hX, ex⟩ := eval_sound hF hx
        obtain ⟨Y, hY, ey⟩ := eval_sound hF hy
        cases hg : guardA P op t x y p q with
        | false => rw [hg] at h; simp at h
        | true =>
          rw [hg] at h
          simp only at h
          obtain ⟨V, hV, r⟩ := bin_sound h hX hY
          refine ⟨V, hV, fun w => ?_⟩
          have := guard_sound hg hX hY w
          simp only [execOp, ex, ey]
          exact val_run (by simp [this, r w])
  case unOp op t x =>
    cases hx : aeval F x with
    | none => rw [hx] at h; cases op <;> simp at h
    | some p =>
      rw [hx] at h
      obtain ⟨X, hX, ex⟩ := eval_sound hF hx
      cases op <;> cases p <;> simp only [reduceCtorEq, Option.some.injEq] at h
      case neg.int k n =>
        obtain rfl := cv_int hX; subst h
        exact ⟨_, rfl, fun w => by simp [execOp, ex, Op.unary, Op.intArith]⟩
      case not.bool b =>
        obtain rfl := cv_bool hX; subst h
        exact ⟨_, rfl, fun w => by simp [execOp, ex, Op.unary]⟩
  case convert s d x =>
    cases hx : aeval F x with
    | none => rw [hx] at h; split at h <;> simp_all
    | some p =>
      rw [hx] at h
      obtain ⟨X, hX, ex⟩ := eval_sound hF hx
      split at h
      · rename_i u k n m h1 h2 h3
        simp only [Option.some.injEq] at h3; subst h3
        obtain rfl := cv_int hX
        simp at h; subst h
        refine ⟨_, rfl, fun w => ?_⟩
        simp only [execOp, ex]
        refine val_run ?_
        simp only [convert, Sem.run_bind, run_underlying1 w h1, run_underlying1 w h2, Result.andThen_ok]
        cases u <;> simp [Conv.intToInt, wr_eq]
      · rename_i u l h1 h2 h3
        simp only [Option.some.injEq] at h3; subst h3
        obtain ⟨rfl, hl⟩ := cv_str hX
        simp at h; subst h
        refine ⟨_, hX, fun w => ?_⟩
        simp only [execOp, ex]
        refine val_run ?_
        simp only [convert, Sem.run_bind, run_underlying1 w h1, run_underlying1 w h2, Result.andThen_ok]
        cases u <;> simp
      · simp at h
  case makeInterface t x =>
    cases hx : aeval F x with
    | none => rw [hx] at h; split at h <;> simp_all
    | some p =>
      rw [hx] at h
      obtain ⟨X, hX, ex⟩ := eval_sound hF hx
      split at h
      · simp at h
      · rename_i d q hnd hu hq
        simp only [Option.some.injEq] at hq; subst hq
        simp at h; subst h
        refine ⟨.iface t X, by simp [cv, hX], fun w => ?_⟩
        simp only [execOp, ex]
        refine val_run ?_
        simp only [Instr.makeInterface, Sem.run_bind, run_underlying1 w hu, Result.andThen_ok]
        cases d <;> first | (exact absurd rfl (hnd _)) | simp
      · simp at h
  case makeFunc fn first cap =>
    cases h1 : aevals F first.toList with
    | none => rw [h1] at h; cases fn <;> simp at h
    | some p =>
      cases h2 : aevals F cap.toList with
      | none => rw [h1, h2] at h; cases fn <;> simp at h
      | some q =>
        rw [h1, h2] at h
        have e1 := evals_sound hF h1
        have e2 := evals_sound hF h2
        have hv : v = .func fn p q := by cases fn <;> simp at h <;> exact h.symm
        subst hv
        refine ⟨.func fn (first.toList.map a.eval).toArray (cap.toList.map a.eval).toArray, by simp [cv, e1, e2], fun w => ?_⟩
        simp only [execOp]
        refine val_run ?_
        have q1 : first.map a.eval = (first.toList.map a.eval).toArray := by cases first; simp
        have q2 : cap.map a.eval = (cap.toList.map a.eval).toArray := by cases cap; simp
        rw [q1, q2]; rfl
  case fieldAddr t x f =>
    cases hx : aeval F x with
    | none => rw [hx] at h; split at h <;> simp_all
    | some p =>
      rw [hx] at h
      obtain ⟨X, hX, ex⟩ := eval_sound hF hx
      split at h
      · rename_i fs b off hu hp
        simp only [Option.some.injEq] at hp; subst hp
        obtain ⟨n, N, s, hb, rfl⟩ := cv_ptr hX
        cases hf : fs[f]? with
        | none => rw [hf] at h; simp at h
        | some fd =>
          rw [hf] at h
          simp only at h
          cases hs : sizeA P fd.type with
          | none => rw [hs] at h; simp at h
          | some z =>
            rw [hs] at h
            cases z with
            | zero => simp at h
            | succ z =>
              simp at h; subst h
              refine ⟨.pointer (some ⟨n, off + fd.offset + s, none⟩), by simp [cv, hb], fun w => ?_⟩
              simp only [execOp, ex]
              refine val_run ?_
              simp [Instr.fieldAt, Instr.sureAddr, run_underlying1 w hu, hf, fieldPlace, run_size1 w hs, addr_add]
      · simp at h
  case field t x f =>
    cases hx : aeval F x with
    | none => rw [hx] at h; split at h <;> simp_all
    | some p =>
      rw [hx] at h
      obtain ⟨X, hX, ex⟩ := eval_sound hF hx
      split at h
      · rename_i fs cs hu hp
        simp only [Option.some.injEq] at hp; subst hp
        obtain ⟨L, hL, rfl⟩ := cv_agg hX
        cases hf : fs[f]? with
        | none => rw [hf] at h; simp at h
        | some fd =>
          rw [hf] at h
          simp only at h
          obtain ⟨V, hV, r⟩ := part_sound h hL
          refine ⟨V, hV, fun w => ?_⟩
          simp only [execOp, ex]
          refine val_run ?_
          simp [Instr.field, run_underlying1 w hu, hf, asAgg, r w]
      · simp at h
  case indexAddr t x i =>
    cases hx : aeval F x with
    | none => rw [hx] at h; split at h <;> simp_all
    | some p =>
      cases hi : aeval F i with
      | none => rw [hx, hi] at h; split at h <;> simp_all
      | some q =>
        rw [hx, hi] at h
        obtain ⟨X, hX, ex⟩ := eval_sound hF hx
        obtain ⟨I, hI, ei⟩ := eval_sound hF hi
        split at h
        · rename_i n e b off k i' hu hp hq
          simp only [Option.some.injEq] at hp hq; subst hp; subst hq
          obtain rfl := cv_int hI
          obtain ⟨m, N, s, hb, rfl⟩ := cv_ptr hX
          cases hj : idx i' n with
          | none => rw [hj] at h; simp at h
          | some j =>
            cases hs : sizeA P e with
            | none => rw [hj, hs] at h; simp at h
            | some z =>
              rw [hj, hs] at h; simp at h; subst h
              obtain ⟨rfl, hlt⟩ := idx_some hj
              refine ⟨.pointer (some ⟨m, off + j * z + s, none⟩), by simp [cv, hb], fun w => ?_⟩
              simp only [execOp, ex, ei]
              refine val_run ?_
              simp [Instr.indexAt, asIntOf, Instr.sureAddr, run_underlying1 w hu, hlt, run_size1 w hs, addr_add]
        · rename_i e b off n c k i' hu hp hq
          simp only [Option.some.injEq] at hp hq; subst hp; subst hq
          obtain rfl := cv_int hI
          obtain ⟨m, N, s, hb, rfl⟩ := cv_slice hX
          cases hj : idx i' n with
          | none => rw [hj] at h; simp at h
          | some j =>
            cases hs : sizeA P e with
            | none => rw [hj, hs] at h; simp at h
            | some z =>
              rw [hj, hs] at h; simp at h; subst h
              obtain ⟨rfl, hlt⟩ := idx_some hj
              refine ⟨.pointer (some ⟨m, off + j * z + s, none⟩), by simp [cv, hb], fun w => ?_⟩
              simp only [execOp, ex, ei]
              refine val_run ?_
              simp [Instr.indexAt, asIntOf, Instr.sureAddr, run_underlying1 w hu, hlt, run_size1 w hs, addr_add]
        · simp at h
  case index t x i =>
    cases hx : aeval F x with
    | none => rw [hx] at h; split at h <;> simp_all
    | some p =>
      cases hi : aeval F i with
      | none => rw [hx, hi] at h; split at h <;> simp_all
      | some q =>
        rw [hx, hi] at h
        obtain ⟨X, hX, ex⟩ := eval_sound hF hx
        obtain ⟨I, hI, ei⟩ := eval_sound hF hi
        split at h
        · rename_i n e cs k i' hu hp hq
          simp only [Option.some.injEq] at hp hq; subst hp; subst hq
          obtain rfl := cv_int hI
          obtain ⟨L, hL, rfl⟩ := cv_agg hX
          cases hj : idx i' n with
          | none => rw [hj] at h; simp at h
          | some j =>
            cases hs : sizeA P e with
            | none => rw [hj, hs] at h; simp at h
            | some z =>
              rw [hj, hs] at h
              simp only at h
              obtain ⟨rfl, hlt⟩ := idx_some hj
              obtain ⟨V, hV, r⟩ := part_sound h hL
              refine ⟨V, hV, fun w => ?_⟩
              simp only [execOp, ex, ei]
              refine val_run ?_
              simp [Instr.index, asIntOf, run_underlying1 w hu, hlt, run_size1 w hs, r w]
        · rename_i l k j hu hp hq
          simp only [Option.some.injEq] at hp hq; subst hp; subst hq
          obtain rfl := cv_int hI
          obtain ⟨rfl, hl⟩ := cv_str hX
          rw [lget_eq] at h
          cases hc : l[j]? with
          | none => rw [hc] at h; simp at h
          | some c =>
            rw [hc] at h; simp at h; subst h
            have hj : j < l.length := (List.getElem?_eq_some_iff.1 hc).1
            have hcl : c < 256 := hl c (List.mem_of_getElem? hc)
            have hg : (toBytes l)[j]? = some (UInt8.ofNat c) := by
              rw [getElem?_pos (toBytes l) j (by rw [toBytes_size]; exact hj)]
              congr 1
              have : (toBytes l).data.toList[j]? = some (UInt8.ofNat c) := by rw [toBytes_list]; simp [hc]
              obtain ⟨h1, h2⟩ := List.getElem?_eq_some_iff.1 this
              rw [← h2]
              rfl
            refine ⟨_, rfl, fun w => ?_⟩
            simp only [execOp, ex, ei]
            refine val_run ?_
            have h0 : (0 : Int) ≤ Int.ofNat j := by show (0 : Int) ≤ (j : Int); omega
            simp only [Instr.index, asIntOf, Sem.run_bind, Sem.run_pure, Result.andThen_ok, run_underlying1 w hu]
            rw [if_pos h0]
            simp [hg, Nat.mod_eq_of_lt hcl]
        · simp at h
  case extract x i =>
    cases hx : aeval F x with
    | none => rw [hx] at h; simp at h
    | some p =>
      rw [hx] at h
      obtain ⟨X, hX, ex⟩ := eval_sound hF hx
      cases p <;> simp only [reduceCtorEq] at h
      rename_i l
      obtain ⟨L, hL, rfl⟩ := cv_tup hX
      rw [lget_eq] at h
      obtain ⟨V, hV, hi⟩ := cvL_get hL h
      refine ⟨V, hV, fun w => ?_⟩
      simp [execOp, ex, Instr.extract, hi]
  case call c =>
    obtain ⟨callee, xs, ts⟩ := c
    cases callee <;> (try simp only [reduceCtorEq] at h)
    rename_i b
    have hres : ∀ w, (resolve a.eval { callee := .builtin b, args := xs, argTypes := ts } ty).run P w = .ok { target := .builtin b ts ty (xs.map fun | .const _ => true | _ => false), args := xs.map a.eval } w := fun w => rfl
    cases b <;> simp only [reduceCtorEq] at h
    case len =>
      cases h1 : aevals F xs.toList with
      | none => rw [h1] at h; split at h <;> simp_all
      | some l =>
        have e1 := evals_sound hF h1
        rw [h1] at h
        cases l with
        | nil => split at h <;> simp_all
        | cons x l =>
          obtain ⟨X, L, hX, hL, e⟩ := cvL_cons.1 e1
          have hargs : (xs.map a.eval)[0]? = some X := by
            rw [← Array.getElem?_toList]; simp only [Array.toList_map]; rw [e]; simp
          cases ht : ts[0]? with
          | none => rw [ht] at h; simp at h
          | some t =>
            rw [ht] at h
            simp only at h
            have fin : ∀ (n : Nat), v = .int .i64 (Int.ofNat n) → (∀ w, (Builtin.len_ ts ty (xs.map a.eval)).run P w = .ok (goInt n) w) →
                ∃ V, cv φ v = some V ∧ ∀ w, (execOp a.eval ⟨dst, .call { callee := .builtin .len, args := xs, argTypes := ts }, ty, pos, after, guard⟩).run P w = .ok (.value V) w := by
              intro n hv hr
              subst hv
              refine ⟨_, rfl, fun w => ?_⟩
              simp only [execOp, Sem.run_bind, hres, Result.andThen_ok, invoke, builtin, hr w, Sem.run_pure]
              rfl
            split at h
            · rename_i s hu
              simp at h
              obtain ⟨rfl, hs⟩ := cv_str hX
              refine fin s.length h.symm (fun w => ?_)
              simp only [Builtin.len_, ht, hargs, Sem.run_bind, run_underlying1 w hu, Result.andThen_ok, Sem.run_pure, toBytes_size]
            · rename_i n e' hu
              simp at h
              refine fin n h.symm (fun w => ?_)
              simp only [Builtin.len_, ht, hargs, Sem.run_bind, run_underlying1 w hu, Result.andThen_ok]
              cases X <;> simp
            · rename_i e' b off n c hu
              simp at h
              obtain ⟨m, N, s, hb, rfl⟩ := cv_slice hX
              refine fin n h.symm (fun w => ?_)
              simp [Builtin.len_, ht, hargs, run_underlying1 w hu]
            · rename_i e' hu
              simp at h
              simp [cv] at hX; subst hX
              refine fin 0 h.symm (fun w => ?_)
              simp [Builtin.len_, ht, hargs, run_underlying1 w hu]
            · rename_i k' e' hu
              simp at h
              simp [cv] at hX; subst hX
              refine fin 0 h.symm (fun w => ?_)
              simp [Builtin.len_, ht, hargs, run_underlying1 w hu]
            · rename_i arr hu
              cases hv : P.underlying arr with
              | none => rw [hv] at h; simp at h
              | some d =>
                rw [hv] at h
                cases d <;> simp only [reduceCtorEq, Option.some.injEq] at h
                rename_i n e'
                refine fin n h.symm (fun w => ?_)
                simp only [Builtin.len_, ht, hargs, Sem.run_bind, run_underlying1 w hu, Result.andThen_ok]
                cases X <;> simp [run_underlying1 w hv]
            · simp at h
    case max =>
      cases h1 : aevals F xs.toList with
      | none => rw [h1] at h; simp at h
      | some l =>
        have e1 := evals_sound hF h1
        rw [h1] at h
        cases l with
        | nil => simp at h
        | cons x l =>
          obtain ⟨X, L, hX, hL, e⟩ := cvL_cons.1 e1
          simp only at h
          obtain ⟨V, hV, r⟩ := max_sound (P := P) h hX hL
          refine ⟨V, hV, fun w => ?_⟩
          simp only [execOp, Sem.run_bind, hres, Result.andThen_ok, invoke, builtin, Builtin.max_, Array.toList_map, e, r w, Sem.run_pure]
    case min =>
      cases h1 : aevals F xs.toList with
      | none => rw [h1] at h; simp at h
      | some l =>
        have e1 := evals_sound hF h1
        rw [h1] at h
        cases l with
        | nil => simp at h
        | cons x l =>
          obtain ⟨X, L, hX, hL, e⟩ := cvL_cons.1 e1
          simp only at h
          obtain ⟨V, hV, r⟩ := min_sound (P := P) h hX hL
          refine ⟨V, hV, fun w => ?_⟩
          simp only [execOp, Sem.run_bind, hres, Result.andThen_ok, invoke, builtin, Builtin.min_, Array.toList_map, e, r w, Sem.run_pure]
end Go.Ae
