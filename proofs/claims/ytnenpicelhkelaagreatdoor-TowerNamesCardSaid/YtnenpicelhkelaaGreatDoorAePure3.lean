/-
  A part of an evaluator of translated programs, and of the proof that what it answers is what the model says; no condition.
-/
import Derived.Test.YtnenpicelhkelaaGreatDoorAePure2
namespace Go.Ae
set_option linter.unusedVariables false
set_option linter.unusedSimpArgs false

theorem parts_sound {φ : Phi} {F : Fr} {a : Act} (hF : TRel φ F a.tmps) : ∀ {l : List (Nat × Operand)} {ps : List (Nat × AV)}, partsA F l = some ps →
    (l.map fun x => (x.1, a.eval x.2)).map Prod.fst = ps.map Prod.fst ∧ cvL φ (ps.map Prod.snd) = some ((l.map fun x => (x.1, a.eval x.2)).map Prod.snd)
  | [], ps, h => by simp [partsA] at h; subst h; exact ⟨rfl, rfl⟩
  | (i, x) :: l, ps, h => by
    simp only [partsA] at h
    cases h1 : aeval F x with
    | none => rw [h1] at h; simp at h
    | some v =>
      cases h2 : partsA F l with
      | none => rw [h1, h2] at h; simp at h
      | some r =>
        rw [h1, h2] at h; simp at h; subst h
        obtain ⟨V, hV, e⟩ := eval_sound hF h1
        obtain ⟨q1, q2⟩ := parts_sound hF h2
        refine ⟨by simpa using q1, ?_⟩
        exact cvL_mk (by simpa [e] using hV) q2
def sizeD (P : Program) (t : TypeId) : Nat := (sizeA P t).getD 0
theorem allInfo_mem {P : Program} : ∀ {fs : List Field}, allInfo P fs = true → ∀ f ∈ fs, sizeA P f.type = some (sizeD P f.type)
  | [], _, f, hf => by simp at hf
  | g :: fs, h, f, hf => by
    simp only [allInfo] at h
    cases hs : sizeA P g.type with
    | none => rw [hs] at h; simp at h
    | some s =>
      rw [hs] at h
      rcases List.mem_cons.1 hf with rfl | hf
      · simp [sizeD, hs]
      · exact allInfo_mem h f hf
theorem places_run {P : Program} (w : World) : ∀ (fs : List Field), (∀ f ∈ fs, sizeA P f.type = some (sizeD P f.type)) →
    (fs.mapM (fun f => do pure (f.offset, ← sizeOf f.type) : Field → Sem (Nat × Nat))).run P w = .ok (fs.map fun f => (f.offset, sizeD P f.type)) w
  | [], _ => rfl
  | f :: fs, h => by
    simp only [List.mapM_cons, Sem.run_bind, run_size1 w (h f (by simp)), Result.andThen_ok, Sem.run_pure, places_run w fs (fun g hg => h g (by simp [hg])), List.map_cons]
theorem placeS_eq {P : Program} {fs : Array Field} (h : ∀ f ∈ fs.toList, sizeA P f.type = some (sizeD P f.type)) : placeS P fs = fun i => (fs.toList.map fun f => (f.offset, sizeD P f.type)).toArray[i]? := by
  funext i
  unfold placeS
  cases hi : fs[i]? with
  | none => simp [hi]
  | some f =>
    have hm : f ∈ fs.toList := by
      have := Array.mem_of_getElem? hi
      simpa using this
    simp [hi, h f hm]
theorem build_sound {P : Program} {φ : Phi} {F : Fr} {a : Act} (hF : TRel φ F a.tmps) {t : TypeId} {parts : Array (Nat × Operand)} {v : AV} (h : buildA P F t parts = some v) :
    ∃ V, cv φ v = some V ∧ ∀ w, (Instr.build t (parts.map fun (i, x) => (i, a.eval x))).run P w = .ok V w := by
  unfold buildA at h
  cases hz : zeroA P t with
  | none => rw [hz] at h; simp at h
  | some z =>
    cases hp : partsA F parts.toList with
    | none => rw [hz, hp] at h; simp at h
    | some ps =>
      rw [hz, hp] at h
      simp only at h
      obtain ⟨Z, hZ, rZ⟩ := zero_sound hz φ
      obtain ⟨q1, q2⟩ := parts_sound hF hp
      have hl : (parts.map fun (i, x) => (i, a.eval x)).toList = parts.toList.map fun x => (x.1, a.eval x.2) := by simp
      cases hu : P.underlying t with
      | none => rw [hu] at h; simp at h
      | some d =>
        rw [hu] at h
        cases d <;> simp only [reduceCtorEq] at h
        case struct fs =>
          cases ha : allInfo P fs.toList with
          | false => rw [ha] at h; simp at h
          | true =>
            rw [ha] at h
            simp only at h
            cases hf : fillA (placeS P fs) (cellsA z) ps with
            | none => rw [hf] at h; simp at h
            | some cs =>
              rw [hf] at h; simp at h; subst h
              obtain ⟨CS, hCS, hfill⟩ := fill_sound hf (cells_sound hZ) q1 q2
              refine ⟨.agg CS.toArray, by simp [cv, hCS], fun w => ?_⟩
              have hpl := places_run (P := P) w fs.toList (allInfo_mem ha)
              rw [placeS_eq (allInfo_mem ha)] at hfill
              simp only [Instr.build, Sem.run_bind, rZ w, Result.andThen_ok, run_underlying1 w hu, Array.mapM_eq_mapM_toList, Sem.run_map, hpl, hl]
              simp only [Array.toArray_toList, List.getElem?_toArray, List.getElem?_map, Array.getElem?_toList] at hfill
              simp [hfill]
        case array n e =>
          cases hs : sizeA P e with
          | none => rw [hs] at h; simp at h
          | some s =>
            rw [hs] at h
            simp only at h
            cases hf : fillA (fun i => some (i * s, s)) (cellsA z) ps with
            | none => rw [hf] at h; simp at h
            | some cs =>
              rw [hf] at h; simp at h; subst h
              obtain ⟨CS, hCS, hfill⟩ := fill_sound hf (cells_sound hZ) q1 q2
              refine ⟨.agg CS.toArray, by simp [cv, hCS], fun w => ?_⟩
              simp only [Array.toArray_toList] at hfill
              simp only [Instr.build, Sem.run_bind, rZ w, Result.andThen_ok, run_underlying1 w hu, run_size1 w hs, hl]
              simp [hfill]

theorem idx_some {i : Int} {n j : Nat} (h : idx i n = some j) : i = (j : Int) ∧ j < n := by
  unfold idx at h
  cases i with
  | ofNat x =>
    simp only [blt_dec] at h
    by_cases hx : x < n
    · simp [hx] at h; subst h; exact ⟨rfl, hx⟩
    · simp [hx] at h
  | negSucc x => simp at h

/-! ### two values -/
theorem ibin_sound {P : Program} {op : BinOp} {k : IntKind} {x y : Int} {v : AV} (h : ibin op k x y = some v) (φ : Phi) (t : TypeId) :
    ∃ V, cv φ v = some V ∧ ∀ w, (binOp op t (.int k x) (.int k y)).run P w = .ok V w := by
  cases op <;> simp only [ibin, reduceCtorEq] at h
  case add => simp at h; subst h; exact ⟨_, rfl, fun w => by simp [binOp, Op.intArith, wr_eq]⟩
  case sub => simp at h; subst h; exact ⟨_, rfl, fun w => by simp [binOp, Op.intArith, wr_eq]⟩
  case mul => simp at h; subst h; exact ⟨_, rfl, fun w => by simp [binOp, Op.intArith, wr_eq]⟩
  case quo =>
    cases hz : isZero y with
    | true => rw [hz] at h; simp at h
    | false =>
      rw [hz] at h; simp at h; subst h
      have hy : y ≠ 0 := by rintro rfl; simp [isZero] at hz
      exact ⟨_, rfl, fun w => by simp [binOp, Op.intDiv, hy, wr_eq]⟩
  case rem =>
    cases hz : isZero y with
    | true => rw [hz] at h; simp at h
    | false =>
      rw [hz] at h; simp at h; subst h
      have hy : y ≠ 0 := by rintro rfl; simp [isZero] at hz
      exact ⟨_, rfl, fun w => by simp [binOp, Op.intDiv, hy]⟩
  case and => simp at h; subst h; exact ⟨_, rfl, fun w => by simp [binOp, Op.intBits]⟩
  case or => simp at h; subst h; exact ⟨_, rfl, fun w => by simp [binOp, Op.intBits]⟩
  case xor => simp at h; subst h; exact ⟨_, rfl, fun w => by simp [binOp, Op.intBits]⟩
  case eql => simp at h; subst h; exact ⟨_, rfl, fun w => by simp only [binOp, Op.intCmp, ieq_eq, if_false, ne_eq, not_true_eq_false, Sem.run_pure]; rfl⟩
  case neq =>
    simp at h; subst h
    refine ⟨_, rfl, fun w => ?_⟩
    simp only [binOp, Op.intCmp, ieq_eq, if_false, ne_eq, not_true_eq_false, Sem.run_pure]
    rfl
  case lss => simp at h; subst h; exact ⟨_, rfl, fun w => by simp [binOp, Op.intCmp, ilt_eq]⟩
  case leq =>
    simp at h; subst h
    refine ⟨_, rfl, fun w => ?_⟩
    simp only [binOp, Op.intCmp, ilt_eq, if_false, ne_eq, not_true_eq_false, Sem.run_pure]
    congr 2
    by_cases e : y < x
    · have : ¬ x ≤ y := by omega
      simp [e, this]
    · have : x ≤ y := by omega
      simp [e, this]
  case gtr => simp at h; subst h; exact ⟨_, rfl, fun w => by simp [binOp, Op.intCmp, ilt_eq]⟩
  case geq =>
    simp at h; subst h
    refine ⟨_, rfl, fun w => ?_⟩
    simp only [binOp, Op.intCmp, ilt_eq, if_false, ne_eq, not_true_eq_false, Sem.run_pure]
    congr 2
    by_cases e : x < y
    · have : ¬ x ≥ y := by omega
      simp [e, this]
    · have : x ≥ y := by omega
      simp [e, this]
theorem ishift_sound {P : Program} {op : BinOp} {k k' : IntKind} {x y : Int} {v : AV} (h : ishift op k x y = some v) (φ : Phi) (t : TypeId) :
    ∃ V, cv φ v = some V ∧ ∀ w, (binOp op t (.int k x) (.int k' y)).run P w = .ok V w := by
  cases y with
  | negSucc m => simp [ishift] at h
  | ofNat m =>
    have hm : ¬ (Int.ofNat m < 0) := by show ¬ ((m : Int) < 0); omega
    cases op <;> simp only [ishift, reduceCtorEq] at h
    case shl => simp at h; subst h; exact ⟨_, rfl, fun w => by simp only [binOp, Op.shift]; rw [if_neg hm]; rfl⟩
    case shr => simp at h; subst h; exact ⟨_, rfl, fun w => by simp only [binOp, Op.shift]; rw [if_neg hm]; rfl⟩
theorem less_eq : ∀ {a b : List Nat}, (∀ n ∈ a, n < 256) → (∀ n ∈ b, n < 256) → Op.bytesLess (a.map UInt8.ofNat) (b.map UInt8.ofNat) = lenlt a b
  | [], [], _, _ => rfl
  | [], _ :: _, _, _ => rfl
  | _ :: _, [], _, _ => rfl
  | x :: a, y :: b, ha, hb => by
    have hx := ha x (by simp)
    have hy := hb y (by simp)
    have ih := less_eq (a := a) (b := b) (fun n hn => ha n (by simp [hn])) (fun n hn => hb n (by simp [hn]))
    simp only [List.map_cons, Op.bytesLess, ih, lenlt, blt_dec, beq_dec]
    have h1 : (UInt8.ofNat x < UInt8.ofNat y) ↔ x < y := by
      rw [UInt8.lt_iff_toNat_lt]; simp only [UInt8.toNat_ofNat']; rw [Nat.mod_eq_of_lt hx, Nat.mod_eq_of_lt hy]
    have h2 : (UInt8.ofNat x == UInt8.ofNat y) = decide (x = y) := by
      by_cases e : x = y
      · subst e; simp
      · have : UInt8.ofNat x ≠ UInt8.ofNat y := by
          intro e'
          have := congrArg UInt8.toNat e'
          simp only [UInt8.toNat_ofNat'] at this
          omega
        simp [e, this]
    rw [h2]
    by_cases e1 : x < y
    · simp [h1, e1]
    · simp only [h1, e1, decide_false, Bool.false_or]
      by_cases e2 : x = y <;> simp [e2]
theorem toBytes_append (a b : List Nat) : toBytes a ++ toBytes b = toBytes (a ++ b) := by
  apply ByteArray.ext
  show (toBytes a ++ toBytes b).data = _
  rw [ByteArray.data_append]
  simp [toBytes]
theorem sbin_sound {P : Program} {op : BinOp} {x y : List Nat} {v : AV} (h : sbin op x y = some v) (hx : ∀ n ∈ x, n < 256) (hy : ∀ n ∈ y, n < 256) (φ : Phi) (t : TypeId) :
    ∃ V, cv φ v = some V ∧ ∀ w, (binOp op t (.string (toBytes x)) (.string (toBytes y))).run P w = .ok V w := by
  have hlt : Op.bytesLess (toBytes x).toList (toBytes y).toList = lenlt x y := by
    rw [ByteArray.toList_eq, ByteArray.toList_eq, toBytes_list, toBytes_list, less_eq hx hy]
  cases op <;> simp only [sbin, reduceCtorEq] at h
  case add =>
    rw [ble_dec] at h
    by_cases hl : x.length + y.length ≤ 1073741824
    case neg => simp [hl] at h
    simp [hl] at h; subst h
    refine ⟨_, str_cv φ (fun n hn => by rcases List.mem_append.1 hn with h | h; exact hx n h; exact hy n h), fun w => ?_⟩
    simp only [binOp, Op.stringOp, toBytes_size]
    rw [if_neg (by simp only [IntKind.max, IntKind.signed, IntKind.bits]; simp; omega), toBytes_append]
    rfl
  case eql => simp at h; subst h; exact ⟨_, rfl, fun w => by simp only [binOp, Op.stringOp, bytes_eq hx hy, Sem.run_pure]⟩
  case neq => simp at h; subst h; exact ⟨_, rfl, fun w => by simp only [binOp, Op.stringOp, bytes_eq hx hy, Sem.run_pure]⟩
  case lss => simp at h; subst h; exact ⟨_, rfl, fun w => by simp only [binOp, Op.stringOp, bytes_eq hx hy, hlt, Sem.run_pure]⟩
  case leq => simp at h; subst h; exact ⟨_, rfl, fun w => by simp only [binOp, Op.stringOp, bytes_eq hx hy, hlt, Sem.run_pure]⟩
  case gtr =>
    simp only [Option.some.injEq] at h; subst h
    exact ⟨_, rfl, fun w => by simp only [binOp, Op.stringOp, bytes_eq hx hy, hlt, Sem.run_pure]⟩
  case geq => simp at h; subst h; exact ⟨_, rfl, fun w => by simp only [binOp, Op.stringOp, bytes_eq hx hy, hlt, Sem.run_pure]⟩
end Go.Ae
