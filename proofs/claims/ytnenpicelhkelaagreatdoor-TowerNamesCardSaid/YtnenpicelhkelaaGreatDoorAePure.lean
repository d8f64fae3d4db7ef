/-
  A part of an evaluator of translated programs, and of the proof that what it answers is what the model says; no condition.
-/
import Derived.Test.YtnenpicelhkelaaGreatDoorAeRel
import Derived.Laws.StructEq
import Derived.Laws.Strings
import Derived.Laws.Cells
import Derived.Laws.IdiomCopy
namespace Go.Ae
set_option linter.unusedVariables false
set_option linter.unusedSimpArgs false

section types
variable {P : Program} {t : TypeId} (w : World)
theorem run_underlying1 {d : TypeDesc} (h : P.underlying t = some d) : (underlying t).run P w = .ok d w := by
  simp [underlying, h]
theorem run_typeInfo1 {i : TypeInfo} (h : P.info? t = some i) : (typeInfo t).run P w = .ok i w := by
  simp [typeInfo, h]
theorem run_size1 {n : Nat} (h : sizeA P t = some n) : (sizeOf t).run P w = .ok n w := by
  unfold sizeA at h
  cases hi : P.info? t with
  | none => rw [hi] at h; simp at h
  | some i => rw [hi] at h; simp at h; subst h; simp [sizeOf, run_typeInfo1 w hi]
theorem run_isAgg1 {b : Bool} (h : isAggA P t = some b) : (isAgg t).run P w = .ok b w := by
  unfold isAggA at h
  cases hd : P.underlying t with
  | none => rw [hd] at h; simp at h
  | some d =>
    rw [hd] at h; simp at h; subst h
    simp only [isAgg, Sem.run_bind, run_underlying1 w hd, Result.andThen_ok]
    cases d <;> rfl
theorem part_sound {φ : Phi} {cs : List AV} {CS : List Value} {off : Nat} {v : AV} (h : partA P t cs off = some v) (hc : cvL φ cs = some CS) :
    ∃ V, cv φ v = some V ∧ ∀ w, (part t CS.toArray off).run P w = .ok V w := by
  unfold partA at h
  cases ha : isAggA P t with
  | none => rw [ha] at h; simp at h
  | some b =>
    rw [ha] at h
    cases b with
    | true =>
      simp only at h
      cases hs : sizeA P t with
      | none => rw [hs] at h; simp at h
      | some n =>
        rw [hs] at h
        simp only [dropA_eq] at h
        cases hr : takeN n (cs.drop off) with
        | none => rw [hr] at h; simp at h
        | some r =>
          rw [hr] at h; simp at h; subst h
          obtain ⟨e, hl⟩ := takeN_some _ _ _ hr
          subst e
          have hcv := cvL_take n (cvL_drop off hc)
          refine ⟨.agg ((CS.drop off).take n).toArray, by simp [cv, hcv], fun w => ?_⟩
          simp only [part, Sem.run_bind, run_isAgg1 w ha, Result.andThen_ok, if_true, run_size1 w hs, Sem.run_pure]
          congr 2
          simp [List.take_drop, Nat.add_comm]
    | false =>
      simp only [lget_eq] at h
      obtain ⟨V, hV, hi⟩ := cvL_get hc h
      refine ⟨V, hV, fun w => ?_⟩
      simp [part, run_isAgg1 w ha, hi]
end types

/-! ### constants -/
theorem toBytes_ofBytes (s : ByteArray) : toBytes (ofBytes s) = s := by
  obtain ⟨⟨l⟩⟩ := s
  simp only [toBytes, ofBytes, List.map_map]
  congr 1
  have : (UInt8.ofNat ∘ UInt8.toNat) = id := by funext x; simp
  rw [this]; simp
theorem ofBytes_all (s : ByteArray) : (ofBytes s).all (fun n => decide (n < 256)) = true := by
  simp only [ofBytes, List.all_map, List.all_eq_true]
  intro x _
  simpa using x.toNat_lt
theorem ofV1_cv (φ : Phi) {v : Value} {a : AV} (h : ofV1 v = some a) : cv φ a = some v := by
  unfold ofV1 at h
  split at h <;> simp at h <;> subst h <;> simp [cv, ofBytes_all, toBytes_ofBytes]
theorem ofVL_cv (φ : Phi) : ∀ {l : List Value} {r : List AV}, ofVL l = some r → cvL φ r = some l
  | [], r, h => by simp [ofVL] at h; subst h; rfl
  | v :: l, r, h => by
    simp only [ofVL] at h
    cases h1 : ofV1 v with
    | none => rw [h1] at h; simp at h
    | some a =>
      cases h2 : ofVL l with
      | none => rw [h1, h2] at h; simp at h
      | some b =>
        rw [h1, h2] at h; simp at h; subst h
        exact cvL_mk (ofV1_cv φ h1) (ofVL_cv φ h2)
theorem ofV_cv (φ : Phi) {v : Value} {a : AV} (h : ofV v = some a) : cv φ a = some v := by
  unfold ofV at h
  split at h
  · rename_i cs
    cases h1 : ofVL cs.toList with
    | none => rw [h1] at h; simp at h
    | some l => rw [h1] at h; simp at h; subst h; simp [cv, ofVL_cv φ h1]
  · rename_i cs
    cases h1 : ofVL cs.toList with
    | none => rw [h1] at h; simp at h
    | some l => rw [h1] at h; simp at h; subst h; simp [cv, ofVL_cv φ h1]
  · exact ofV1_cv φ h
theorem zero_sound {P : Program} {t : TypeId} {z : AV} (h : zeroA P t = some z) (φ : Phi) : ∃ Z, cv φ z = some Z ∧ ∀ w, (zeroValue t).run P w = .ok Z w := by
  unfold zeroA at h
  cases hi : P.info? t with
  | none => rw [hi] at h; simp at h
  | some i =>
    rw [hi] at h
    simp only at h
    cases hz : i.zero with
    | none => rw [hz] at h; simp at h
    | some v =>
      rw [hz] at h
      exact ⟨v, ofV_cv φ h, fun w => by simp [zeroValue, run_typeInfo1 w hi, hz]⟩

/-! ### operands -/
section operands
variable {φ : Phi} {F : Fr} {a : Act} (hF : TRel φ F a.tmps)
include hF
theorem eval_sound {x : Operand} {v : AV} (h : aeval F x = some v) : ∃ V, cv φ v = some V ∧ a.eval x = V := by
  cases x with
  | tmp t =>
    obtain ⟨V, h1, h2⟩ := hF.2 t v h
    exact ⟨V, h1, by simp [Act.eval, Array.getD_eq_getD_getElem?, h2]⟩
  | const c => exact ⟨c, ofV_cv φ h, rfl⟩
  | global g => simp [aeval] at h
  | func f => simp [aeval] at h; subst h; exact ⟨_, rfl, rfl⟩
theorem evals_sound : ∀ {l : List Operand} {r : List AV}, aevals F l = some r → cvL φ r = some (l.map a.eval)
  | [], r, h => by simp [aevals] at h; subst h; rfl
  | x :: l, r, h => by
    simp only [aevals] at h
    cases h1 : aeval F x with
    | none => rw [h1] at h; simp at h
    | some v =>
      cases h2 : aevals F l with
      | none => rw [h1, h2] at h; simp at h
      | some vs =>
        rw [h1, h2] at h; simp at h; subst h
        obtain ⟨V, hV, e⟩ := eval_sound hF h1
        exact cvL_mk (by rw [hV, e]) (evals_sound h2)
theorem evalO_sound {x : Option Operand} {r : Option AV} (h : aevalO F x = some r) : match r with | none => x = none | some v => ∃ y V, x = some y ∧ cv φ v = some V ∧ a.eval y = V := by
  cases x with
  | none => simp [aevalO] at h; subst h; rfl
  | some y =>
    simp only [aevalO] at h
    cases h1 : aeval F y with
    | none => rw [h1] at h; simp at h
    | some v =>
      rw [h1] at h; simp at h; subst h
      obtain ⟨V, hV, e⟩ := eval_sound hF h1
      exact ⟨y, V, rfl, hV, e⟩
end operands

theorem cv_int {φ : Phi} {k : IntKind} {n : Int} {V : Value} (h : cv φ (.int k n) = some V) : V = .int k n := by simp [cv] at h; exact h.symm
theorem cv_bool {φ : Phi} {b : Bool} {V : Value} (h : cv φ (.bool b) = some V) : V = .bool b := by simp [cv] at h; exact h.symm
theorem cv_str {φ : Phi} {s : List Nat} {V : Value} (h : cv φ (.str s) = some V) : V = .string (toBytes s) ∧ ∀ n ∈ s, n < 256 := by
  simp only [cv] at h
  split at h
  · rename_i ha
    simp at h
    exact ⟨h.symm, by simpa using ha⟩
  · simp at h
theorem str_cv (φ : Phi) {s : List Nat} (h : ∀ n ∈ s, n < 256) : cv φ (.str s) = some (.string (toBytes s)) := by
  have : s.all (fun n => decide (n < 256)) = true := by simpa using h
  simp only [cv, this, if_true]
theorem cv_ptr {φ : Phi} {b off : Nat} {V : Value} (h : cv φ (.ptr b off) = some V) : ∃ n N s, φ b = some (n, N, s) ∧ V = .pointer (some ⟨n, off + s, none⟩) := by
  simp only [cv] at h
  cases hb : φ b with
  | none => rw [hb] at h; simp at h
  | some x => obtain ⟨n, N, s⟩ := x; rw [hb] at h; simp at h; exact ⟨n, N, s, rfl, h.symm⟩
theorem cv_slice {φ : Phi} {b off len : Nat} {cap : Cp} {V : Value} (h : cv φ (.slice b off len cap) = some V) :
    ∃ n N s, φ b = some (n, N, s) ∧ V = .slice (some ⟨n, off + s, none⟩) len (capOf N (off + s) cap) := by
  simp only [cv] at h
  cases hb : φ b with
  | none => rw [hb] at h; simp at h
  | some x => obtain ⟨n, N, s⟩ := x; rw [hb] at h; simp at h; exact ⟨n, N, s, rfl, h.symm⟩
theorem cv_map {φ : Phi} {b : Nat} {V : Value} (h : cv φ (.map b) = some V) : ∃ n x, φ b = some (n, x) ∧ V = .map (some n) := by
  simp only [cv] at h
  cases hb : φ b with
  | none => rw [hb] at h; simp at h
  | some x => obtain ⟨n, N, s⟩ := x; rw [hb] at h; simp at h; exact ⟨n, _, rfl, h.symm⟩
theorem cv_agg {φ : Phi} {l : List AV} {V : Value} (h : cv φ (.agg l) = some V) : ∃ L, cvL φ l = some L ∧ V = .agg L.toArray := by
  simp only [cv] at h
  cases hb : cvL φ l with
  | none => rw [hb] at h; simp at h
  | some x => rw [hb] at h; simp at h; exact ⟨x, rfl, h.symm⟩
theorem cv_tup {φ : Phi} {l : List AV} {V : Value} (h : cv φ (.tup l) = some V) : ∃ L, cvL φ l = some L ∧ V = .tuple L.toArray := by
  simp only [cv] at h
  cases hb : cvL φ l with
  | none => rw [hb] at h; simp at h
  | some x => rw [hb] at h; simp at h; exact ⟨x, rfl, h.symm⟩
theorem cv_iface {φ : Phi} {t : TypeId} {v : AV} {V : Value} (h : cv φ (.iface t v) = some V) : ∃ X, cv φ v = some X ∧ V = .iface t X := by
  simp only [cv] at h
  cases hb : cv φ v with
  | none => rw [hb] at h; simp at h
  | some x => rw [hb] at h; simp at h; exact ⟨x, rfl, h.symm⟩
theorem cv_func {φ : Phi} {fn : Fn} {a b : List AV} {V : Value} (h : cv φ (.func fn a b) = some V) : ∃ A B, cvL φ a = some A ∧ cvL φ b = some B ∧ V = .func fn A.toArray B.toArray := by
  simp only [cv] at h
  cases h1 : cvL φ a with
  | none => rw [h1] at h; simp at h
  | some x =>
    cases h2 : cvL φ b with
    | none => rw [h1, h2] at h; simp at h
    | some y => rw [h1, h2] at h; simp at h; exact ⟨x, y, rfl, rfl, h.symm⟩

theorem toBytes_list (s : List Nat) : (toBytes s).data.toList = s.map UInt8.ofNat := by simp [toBytes]
theorem toBytes_size (s : List Nat) : (toBytes s).size = s.length := by
  show (toBytes s).data.size = _
  simp [toBytes]
theorem map_ofNat_inj : ∀ {a b : List Nat}, (∀ n ∈ a, n < 256) → (∀ n ∈ b, n < 256) → a.map UInt8.ofNat = b.map UInt8.ofNat → a = b
  | [], [], _, _, _ => rfl
  | [], _ :: _, _, _, h => by simp at h
  | _ :: _, [], _, _, h => by simp at h
  | x :: a, y :: b, ha, hb, h => by
    simp only [List.map_cons, List.cons.injEq] at h
    have hx := ha x (by simp)
    have hy := hb y (by simp)
    have e : x = y := by
      have := congrArg UInt8.toNat h.1
      simp only [UInt8.toNat_ofNat'] at this
      omega
    rw [e, map_ofNat_inj (fun n hn => ha n (by simp [hn])) (fun n hn => hb n (by simp [hn])) h.2]
theorem bytes_eq {a b : List Nat} (ha : ∀ n ∈ a, n < 256) (hb : ∀ n ∈ b, n < 256) : ((toBytes a).toList == (toBytes b).toList) = leneq a b := by
  rw [ByteArray.toList_eq, ByteArray.toList_eq, toBytes_list, toBytes_list, leneq_iff]
  by_cases h : a = b
  · subst h; simp
  · have : ¬ (a.map UInt8.ofNat = b.map UInt8.ofNat) := fun e => h (map_ofNat_inj ha hb e)
    simp [h, this]

/-! ### equality -/
theorem eqFields_cons_run {P : Program} (d : Nat) (xs ys : Array Value) (f : Field) (fs : List Field) (w : World) (hn : (f.name == "_") = false) {a b : Value} {r : Bool}
    (ha : (part f.type xs f.offset).run P w = .ok a w) (hb : (part f.type ys f.offset).run P w = .ok b w) (he : (Op.equalIn d f.type a b).run P w = .ok r w) :
    (Op.eqFields d xs ys (f :: fs)).run P w = if r then (Op.eqFields d xs ys fs).run P w else .ok false w := by
  have hn' : f.name ≠ "_" := by simpa using hn
  simp only [Op.eqFields, hn', ne_eq, not_false_eq_true, if_true, Sem.run_bind, ha, hb, he, Result.andThen_ok]
  cases r <;> simp
theorem eqFields_skip_run {P : Program} (d : Nat) (xs ys : Array Value) (f : Field) (fs : List Field) (w : World) (hn : (f.name == "_") = true) :
    (Op.eqFields d xs ys (f :: fs)).run P w = (Op.eqFields d xs ys fs).run P w := by
  have hn' : f.name = "_" := by simpa using hn
  simp [Op.eqFields, hn']
theorem run_eq_struct {P : Program} (d : Nat) (t : TypeId) (fs : Array Field) (xs ys : Array Value) (w : World) (ht : P.underlying t = some (.struct fs)) (hp : P.stoodInHeld t = false) :
    (Op.equalIn (d + 1) t (.agg xs) (.agg ys)).run P w = (Op.eqFields d xs ys fs.toList).run P w := by
  have e : P.fieldsOf t = fs := by simp [Program.fieldsOf, ht]
  rw [run_equalIn_struct w d t xs ys (by rw [e]; exact ht) hp, e]

theorem aeq_both (P : Program) : ∀ d : Nat,
    (∀ t x y b, aeq P d t x y = some b → ∀ (φ : Phi) X Y, cv φ x = some X → cv φ y = some Y → ∀ D w, d ≤ D → (Op.equalIn D t X Y).run P w = .ok b w) ∧
    (∀ fs xs ys b, aeqF P d fs xs ys = some b → ∀ (φ : Phi) XS YS, cvL φ xs = some XS → cvL φ ys = some YS → ∀ D w, d ≤ D → (Op.eqFields D XS.toArray YS.toArray fs).run P w = .ok b w) := by
  intro d
  induction d with
  | zero =>
    refine ⟨fun t x y b h => by simp [aeq] at h, fun fs xs ys b h => ?_⟩
    cases fs with
    | nil => simp [aeqF] at h; subst h; intros; simp [Op.eqFields]
    | cons f fs => simp [aeqF] at h
  | succ d ih =>
    obtain ⟨ihA, ihB⟩ := ih
    constructor
    · intro t x y b h φ X Y hX hY D w hD
      obtain ⟨D, rfl⟩ : ∃ E, D = E + 1 := ⟨D - 1, by omega⟩
      simp only [aeq] at h
      split at h
      · rename_i p q hu
        obtain rfl := cv_bool hX; obtain rfl := cv_bool hY
        rw [run_equalIn_bool w D t p q hu]
        simp at h
        rw [← h]
        cases p <;> cases q <;> rfl
      · rename_i k p k' q hu
        obtain rfl := cv_int hX; obtain rfl := cv_int hY
        cases hk : keq k k' with
        | false => rw [hk] at h; simp at h
        | true =>
          rw [hk] at h
          have := (keq_iff _ _).1 hk
          subst this
          simp at h; subst h
          simp only [Op.equalIn, Sem.run_bind, run_underlying1 w hu, Result.andThen_ok, if_true, Sem.run_pure, ieq_eq]
          congr 1
      · rename_i p q hu
        obtain ⟨rfl, hp⟩ := cv_str hX; obtain ⟨rfl, hq⟩ := cv_str hY
        simp at h; subst h
        rw [← bytes_eq hp hq]
        simp only [Op.equalIn, Sem.run_bind, run_underlying1 w hu, Result.andThen_ok, Sem.run_pure, beq_toListBytes]
      · rename_i hu
        simp [cv] at hX hY; subst hX; subst hY; simp at h; subst h
        simp [Op.equalIn, run_underlying1 w hu]
      · rename_i b o hu
        obtain ⟨n, N, s, _, rfl⟩ := cv_ptr hY
        simp [cv] at hX; subst hX; simp at h; subst h
        simp [Op.equalIn, run_underlying1 w hu]
      · rename_i b o hu
        obtain ⟨n, N, s, _, rfl⟩ := cv_ptr hX
        simp [cv] at hY; subst hY; simp at h; subst h
        simp [Op.equalIn, run_underlying1 w hu]
      · rename_i hu
        simp [cv] at hX hY; subst hX; subst hY; simp at h; subst h
        simp [Op.equalIn, run_underlying1 w hu]
      · rename_i u v hu
        obtain ⟨Z, _, rfl⟩ := cv_iface hY
        simp [cv] at hX; subst hX; simp at h; subst h
        simp [Op.equalIn, run_underlying1 w hu]
      · rename_i u v hu
        obtain ⟨Z, _, rfl⟩ := cv_iface hX
        simp [cv] at hY; subst hY; simp at h; subst h
        simp [Op.equalIn, run_underlying1 w hu]
      · rename_i fs xs ys hu
        obtain ⟨XS, hXS, rfl⟩ := cv_agg hX; obtain ⟨YS, hYS, rfl⟩ := cv_agg hY
        cases hp : P.stoodInHeld t with
        | true => rw [hp] at h; simp at h
        | false =>
          rw [hp] at h
          simp only at h
          rw [run_eq_struct D t fs _ _ w hu hp]
          exact ihB _ _ _ _ h φ XS YS hXS hYS D w (by omega)
      · rename_i hu
        simp [cv] at hX hY; subst hX; subst hY; simp at h; subst h
        simp [Op.equalIn, run_underlying1 w hu]
      · rename_i b o l c hu
        obtain ⟨n, N, s, _, rfl⟩ := cv_slice hY
        simp [cv] at hX; subst hX; simp at h; subst h
        simp [Op.equalIn, run_underlying1 w hu]
      · rename_i b o l c hu
        obtain ⟨n, N, s, _, rfl⟩ := cv_slice hX
        simp [cv] at hY; subst hY; simp at h; subst h
        simp [Op.equalIn, run_underlying1 w hu]
      · rename_i hu
        simp [cv] at hX hY; subst hX; subst hY; simp at h; subst h
        simp [Op.equalIn, run_underlying1 w hu]
      · rename_i b hu
        obtain ⟨n, x, _, rfl⟩ := cv_map hY
        simp [cv] at hX; subst hX; simp at h; subst h
        simp [Op.equalIn, run_underlying1 w hu]
      · rename_i b hu
        obtain ⟨n, x, _, rfl⟩ := cv_map hX
        simp [cv] at hY; subst hY; simp at h; subst h
        simp [Op.equalIn, run_underlying1 w hu]
      · rename_i hu
        simp [cv] at hX hY; subst hX; subst hY; simp at h; subst h
        simp [Op.equalIn, run_underlying1 w hu]
      · simp at h
    · intro fs xs ys b h φ XS YS hXS hYS D w hD
      cases fs with
      | nil => simp [aeqF] at h; subst h; simp [Op.eqFields]
      | cons f fs =>
        simp only [aeqF] at h
        cases hn : (f.name == "_") with
        | true =>
          rw [hn] at h
          rw [eqFields_skip_run _ _ _ _ _ _ hn]
          exact ihB _ _ _ _ h φ XS YS hXS hYS D w (by omega)
        | false =>
          rw [hn] at h
          simp only at h
          cases h1 : partA P f.type xs f.offset with
          | none => rw [h1] at h; simp at h
          | some x =>
            cases h2 : partA P f.type ys f.offset with
            | none => rw [h1, h2] at h; simp at h
            | some y =>
              rw [h1, h2] at h
              simp only at h
              obtain ⟨X, hX, rX⟩ := part_sound h1 hXS
              obtain ⟨Y, hY, rY⟩ := part_sound h2 hYS
              cases h3 : aeq P d f.type x y with
              | none => rw [h3] at h; simp at h
              | some r =>
                rw [h3] at h
                have hr := ihA _ _ _ _ h3 φ X Y hX hY D w (by omega)
                rw [eqFields_cons_run D _ _ f fs w hn (rX w) (rY w) hr]
                cases r with
                | false => simp at h; subst h; simp
                | true => simp only at h; simp only [if_true]; exact ihB _ _ _ _ h φ XS YS hXS hYS D w (by omega)
theorem aeq_sound {P : Program} {d : Nat} {t : TypeId} {x y : AV} {b : Bool} (h : aeq P d t x y = some b) {φ : Phi} {X Y : Value} (hX : cv φ x = some X) (hY : cv φ y = some Y) (D : Nat) (w : World) (hD : d ≤ D) :
    (Op.equalIn D t X Y).run P w = .ok b w := (aeq_both P d).1 t x y b h φ X Y hX hY D w hD
end Go.Ae
