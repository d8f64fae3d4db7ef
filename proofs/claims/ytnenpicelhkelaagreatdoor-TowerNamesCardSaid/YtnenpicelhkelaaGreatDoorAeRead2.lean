/-
  A part of an evaluator of translated programs, and of the proof that what it answers is what the model says; no condition.
-/
import Derived.Test.YtnenpicelhkelaaGreatDoorAeRead
import Derived.Laws.BytesArg
import Derived.Lib.ConvBytes
namespace Go.Ae
set_option linter.unusedVariables false
set_option linter.unusedSimpArgs false

/-- A bound that was given, or was not. -/
def BndOk (φ : Phi) (x : Option AV) (X : Option Value) : Prop := match x with
  | none => X = none
  | some v => ∃ V, X = some V ∧ cv φ v = some V
theorem bnd_some {φ : Phi} {v : AV} {V : Value} (hv : cv φ v = some V) {d n a : Nat} (h : bnd (some v) d n = some a) : a ≤ n ∧ ∀ (P : Program) (w : World) (code : BoundsCode), (Instr.sliceBound V n code).run P w = .ok a w := by
  unfold bnd at h
  cases v <;> (try simp only [reduceCtorEq] at h)
  rename_i k i
  obtain rfl := cv_int hv
  cases i with
  | negSucc m => simp at h
  | ofNat m =>
    simp only [ble_dec] at h
    by_cases hm : m ≤ n
    · simp [hm] at h; subst h
      refine ⟨hm, fun P w code => ?_⟩
      simp only [Instr.sliceBound, asIntOf, Sem.run_bind, Sem.run_pure, Result.andThen_ok]
      rw [if_pos ⟨by show (0 : Int) ≤ (m : Int); omega, by show (m : Int) ≤ (n : Int); omega⟩]
      simp
    · simp [hm] at h
theorem bounds_sound {φ : Phi} {lo hi mx : Option AV} {LO HI MX : Option Value} (hlo : BndOk φ lo LO) (hhi : BndOk φ hi HI) (hmx : BndOk φ mx MX) {isS : Bool} {len cap l h m : Nat}
    (h1 : bnd mx cap cap = some m) (h2 : bnd hi len m = some h) (h3 : bnd lo 0 h = some l) (hmh : mx = none ∨ hi ≠ none) : ∀ (P : Program) (w : World), (Instr.sliceBounds isS len cap LO HI MX).run P w = .ok (l, h, m) w := by
  intro P w
  cases mx with
  | none =>
    simp [BndOk] at hmx; subst hmx
    simp [bnd] at h1; subst h1
    cases hi with
    | none =>
      simp [BndOk] at hhi; subst hhi
      simp [bnd] at h2; subst h2
      cases lo with
      | none =>
        simp [BndOk] at hlo; subst hlo
        simp [bnd] at h3; subst h3
        simp [Instr.sliceBounds]
      | some v =>
        obtain ⟨V, rfl, hv⟩ := hlo
        obtain ⟨_, r⟩ := bnd_some hv h3
        simp [Instr.sliceBounds, r]
    | some u =>
      obtain ⟨U, rfl, hu⟩ := hhi
      obtain ⟨_, r2⟩ := bnd_some hu h2
      cases lo with
      | none =>
        simp [BndOk] at hlo; subst hlo
        simp [bnd] at h3; subst h3
        simp [Instr.sliceBounds, r2]
      | some v =>
        obtain ⟨V, rfl, hv⟩ := hlo
        obtain ⟨_, r⟩ := bnd_some hv h3
        simp [Instr.sliceBounds, r, r2]
  | some x =>
    obtain ⟨X, rfl, hx⟩ := hmx
    obtain ⟨_, r1⟩ := bnd_some hx h1
    cases hi with
    | none => simp at hmh
    | some u =>
      obtain ⟨U, rfl, hu⟩ := hhi
      obtain ⟨_, r2⟩ := bnd_some hu h2
      cases lo with
      | none =>
        simp [BndOk] at hlo; subst hlo
        simp [bnd] at h3; subst h3
        simp [Instr.sliceBounds, r1, r2]
      | some v =>
        obtain ⟨V, rfl, hv⟩ := hlo
        obtain ⟨_, r⟩ := bnd_some hv h3
        simp [Instr.sliceBounds, r, r1, r2]
theorem take_bytes (s : List Nat) (l h : Nat) (hh : h ≤ s.length) (hl : l ≤ h) : (toBytes s).extract l h = toBytes ((s.drop l).take (h - l)) := by
  apply ByteArray.ext
  rw [ByteArray.data_extract]
  simp [toBytes, ← List.map_drop, ← List.map_take, List.extract_eq_take_drop]
theorem slice_sound {P : Program} {φ : Phi} {H : Hp} {w : World} (hH : HRel φ H w) {t : TypeId} {x v : AV} {X : Value} {lo hi mx : Option AV} {LO HI MX : Option Value}
    (h : sliceA P H t x lo hi mx = some v) (hx : cv φ x = some X) (hlo : BndOk φ lo LO) (hhi : BndOk φ hi HI) (hmx : BndOk φ mx MX) (hmh : mx = none ∨ hi ≠ none) :
    ∃ V, cv φ v = some V ∧ (Instr.sliceAt t X LO HI MX).run P w = .ok V w := by
  unfold sliceA at h
  split at h
  · rename_i n e b off hu
    obtain ⟨m, N, s, hb, rfl⟩ := cv_ptr hx
    cases hz : sizeA P e with
    | none => rw [hz] at h; simp at h
    | some z =>
      cases h1 : bnd mx n n with
      | none => rw [hz, h1] at h; simp at h
      | some M =>
        cases h2 : bnd hi n M with
        | none => rw [hz, h1] at h; simp only at h; rw [h2] at h; simp at h
        | some hh =>
          cases h3 : bnd lo 0 hh with
          | none => rw [hz, h1] at h; simp only at h; rw [h2] at h; simp only at h; rw [h3] at h; simp at h
          | some l =>
            rw [hz, h1] at h; simp only at h; rw [h2] at h; simp only at h; rw [h3] at h
            simp only [beq_dec] at h
            have rb := bounds_sound (isS := false) hlo hhi hmx h1 h2 h3 hmh P w
            have run : (Instr.sliceAt t (.pointer (some ⟨m, off + s, none⟩)) LO HI MX).run P w = .ok (.slice (some (if M = l then ⟨m, off + s, none⟩ else (⟨m, off + s, none⟩ : Addr).add (l * z))) (hh - l) (M - l)) w := by
              simp [Instr.sliceAt, run_underlying1 w hu, Instr.sureAddr, rb, run_size1 w hz]
            by_cases he : M = l
            · simp [he] at h; subst h
              refine ⟨_, ?_, run⟩
              simp [cv, hb, he, capOf]
            · simp [he] at h; subst h
              refine ⟨_, ?_, run⟩
              simp [cv, hb, he, capOf, addr_add]
  · rename_i s hu
    obtain ⟨rfl, hs⟩ := cv_str hx
    cases mx with
    | some y => simp at h
    | none =>
      simp [BndOk] at hmx; subst hmx
      simp only at h
      cases h2 : bnd hi s.length s.length with
      | none => rw [h2] at h; simp at h
      | some hh =>
        cases h3 : bnd lo 0 hh with
        | none => rw [h2] at h; simp only at h; rw [h3] at h; simp at h
        | some l =>
          rw [h2] at h; simp only at h; rw [h3] at h
          simp only [dropA_eq] at h
          cases ht : takeN (hh - l) (s.drop l) with
          | none => rw [ht] at h; simp at h
          | some r =>
            rw [ht] at h; simp at h; subst h
            obtain ⟨e, hl⟩ := takeN_some _ _ _ ht
            subst e
            have rb := bounds_sound (isS := false) (len := s.length) (cap := s.length) hlo hhi (mx := none) (MX := none) rfl rfl h2 h3 (.inl rfl) P w
            have hle : hh ≤ s.length := by
              cases hi with
              | none => simp [bnd] at h2; omega
              | some u => obtain ⟨U, _, hu'⟩ := hhi; exact (bnd_some hu' h2).1
            have hll : l ≤ hh := by
              cases lo with
              | none => simp [bnd] at h3; omega
              | some u => obtain ⟨U, _, hu'⟩ := hlo; exact (bnd_some hu' h3).1
            refine ⟨_, str_cv φ (fun n hn => hs n (List.mem_of_mem_drop (List.mem_of_mem_take hn))), ?_⟩
            simp only [Instr.sliceAt, Instr.slice, Sem.run_bind, run_underlying1 w hu, Result.andThen_ok, toBytes_size, Option.isSome_none, Bool.false_eq_true, if_false, rb, Sem.run_pure, take_bytes s l hh hle hll]
  · rename_i e hu
    cases hz : sizeA P e with
    | none => rw [hz] at h; simp at h
    | some z =>
    cases h1 : bnd mx 0 0 with
    | none => rw [hz, h1] at h; simp at h
    | some M =>
      cases h2 : bnd hi 0 0 with
      | none => rw [hz, h1, h2] at h; simp at h
      | some hh =>
        cases h3 : bnd lo 0 0 with
        | none => rw [hz, h1, h2, h3] at h; simp at h
        | some l =>
          rw [hz, h1, h2, h3] at h; simp at h; subst h
          simp [cv] at hx; subst hx
          have z1 : M = 0 := by
            cases mx with
            | none => simp [bnd] at h1; exact h1.symm
            | some u => obtain ⟨U, _, hu'⟩ := hmx; have := (bnd_some hu' h1).1; omega
          have z2 : hh = 0 := by
            cases hi with
            | none => simp [bnd] at h2; exact h2.symm
            | some u => obtain ⟨U, _, hu'⟩ := hhi; have := (bnd_some hu' h2).1; omega
          have z3 : l = 0 := by
            cases lo with
            | none => simp [bnd] at h3; exact h3.symm
            | some u => obtain ⟨U, _, hu'⟩ := hlo; have := (bnd_some hu' h3).1; omega
          subst z1; subst z2; subst z3
          have rb := bounds_sound (isS := true) hlo hhi hmx h1 h2 h3 hmh P w
          refine ⟨.slice none 0 0, rfl, ?_⟩
          simp [Instr.sliceAt, Instr.slice, run_underlying1 w hu, rb, run_size1 w hz]
  · rename_i e b off len c hu
    obtain ⟨m, N, s, hb, rfl⟩ := cv_slice hx
    cases hz : sizeA P e with
    | none => rw [hz] at h; simp at h
    | some z =>
      cases h1 : bnd mx c c with
      | none => rw [hz, h1] at h; simp at h
      | some M =>
        cases h2 : bnd hi len M with
        | none => rw [hz, h1] at h; simp only at h; rw [h2] at h; simp at h
        | some hh =>
          cases h3 : bnd lo 0 hh with
          | none => rw [hz, h1] at h; simp only at h; rw [h2] at h; simp only at h; rw [h3] at h; simp at h
          | some l =>
            rw [hz, h1] at h; simp only at h; rw [h2] at h; simp only at h; rw [h3] at h
            simp only [beq_dec] at h
            have rb := bounds_sound (isS := true) hlo hhi hmx h1 h2 h3 hmh P w
            have run : (Instr.sliceAt t (.slice (some ⟨m, off + s, none⟩) len c) LO HI MX).run P w = .ok (.slice (if M = l then some ⟨m, off + s, none⟩ else some ((⟨m, off + s, none⟩ : Addr).add (l * z))) (hh - l) (M - l)) w := by
              simp [Instr.sliceAt, Instr.slice, run_underlying1 w hu, rb, run_size1 w hz]
            by_cases he : M = l
            · simp [he] at h; subst h
              refine ⟨_, ?_, run⟩
              simp [cv, hb, he, capOf]
            · simp [he] at h; subst h
              refine ⟨_, ?_, run⟩
              simp [cv, hb, he, capOf, addr_add]
  · rename_i e b off len z hu
    obtain ⟨m, N, s, hb, rfl⟩ := cv_slice hx
    have hcap : ∀ {ob : List AV}, cellsOf H b = some ob → ob.length + s ≤ N := by
      intro ob hob
      unfold cellsOf at hob
      split at hob
      · rename_i e' o' c' hg
        simp at hob; subst hob
        obtain ⟨n', N', s', C, fz, Pre, L, R, q1, q2, q3, q4, q5, q6, q7, q8⟩ := live_cells hH hg
        rw [hb] at q1
        simp only [Option.some.injEq, Prod.mk.injEq] at q1
        obtain ⟨rfl, rfl, rfl⟩ := q1
        have := congrArg List.length q5
        simp at this
        have := cvL_length q4
        omega
      · simp at hob
    split at h
    · rename_i z' c hz hc
      simp only [beq_dec, ble_dec] at h
      split at h
      · rename_i hh g1 g2 g3
        simp only [decide_eq_true_eq] at g1 g2
        subst g1
        simp [BndOk] at hmx; subst hmx
        have hN := hcap hc
        have hcl : len ≤ (N - (off + s)) / (z' + 1) := by
          rw [Nat.le_div_iff_mul_le (by omega)]
          omega
        have g3' : bnd hi len ((N - (off + s)) / (z' + 1)) = some hh := by
          cases hi with
          | none => simpa [bnd] using g3
          | some u =>
            obtain ⟨U, _, hu'⟩ := hhi
            unfold bnd at g3 ⊢
            cases u <;> (try simp only [reduceCtorEq] at g3)
            rename_i k i
            cases i with
            | negSucc q => simp at g3
            | ofNat q =>
              simp only [ble_dec] at g3 ⊢
              by_cases hq : q ≤ len
              · simp [hq] at g3; subst g3
                have : q ≤ (N - (off + s)) / (z' + 1) := by omega
                simp [this]
              · simp [hq] at g3
        have hhl : hh ≤ len := by
          cases hi with
          | none => simp [bnd] at g3; omega
          | some u => obtain ⟨U, _, hu'⟩ := hhi; exact (bnd_some hu' g3).1
        cases h3 : bnd lo 0 hh with
        | none => rw [h3] at h; simp at h
        | some l =>
          rw [h3] at h
          have rb := bounds_sound (isS := true) (cap := (N - (off + s)) / (z' + 1)) hlo hhi (mx := none) (MX := none) rfl rfl g3' h3 (.inl rfl) P w
          have run : (Instr.sliceAt t (.slice (some ⟨m, off + s, none⟩) len ((N - (off + s)) / (z' + 1))) LO HI none).run P w = .ok (.slice (if (N - (off + s)) / (z' + 1) = l then some ⟨m, off + s, none⟩ else some ((⟨m, off + s, none⟩ : Addr).add (l * (z' + 1)))) (hh - l) ((N - (off + s)) / (z' + 1) - l)) w := by
            simp [Instr.sliceAt, Instr.slice, run_underlying1 w hu, rb, run_size1 w hz]
          cases l with
          | zero =>
            simp at h; subst h
            refine ⟨_, ?_, run⟩
            simp only [cv, hb, capOf]
            congr 1
            split <;> simp [addr_add]
          | succ l =>
            simp only [blt_dec] at h
            by_cases hlt : l + 1 < len
            · simp [hlt] at h; subst h
              refine ⟨_, ?_, run⟩
              rw [if_neg (by omega)]
              simp only [cv, hb, capOf, addr_add]
              congr 2
              rw [show off + (l + 1) * (z' + 1) + s = off + s + (l + 1) * (z' + 1) from by omega, Nat.sub_add_eq, Nat.mul_comm (l + 1) (z' + 1), Nat.sub_mul_div_of_le]
              rw [Nat.mul_comm, ← Nat.le_div_iff_mul_le (by omega)]; omega
            · simp [hlt] at h
      · simp at h
    · rename_i z' c mv hz hc
      simp only [beq_dec, ble_dec] at h
      split at h
      · rename_i M g1 g2 g3
        simp only [decide_eq_true_eq] at g1 g2
        subst g1
        have hN := hcap hc
        have hcl : len ≤ (N - (off + s)) / (z' + 1) := by
          rw [Nat.le_div_iff_mul_le (by omega)]
          omega
        have g3' : bnd (some mv) ((N - (off + s)) / (z' + 1)) ((N - (off + s)) / (z' + 1)) = some M := by
          unfold bnd at g3 ⊢
          cases mv <;> (try simp only [reduceCtorEq] at g3)
          rename_i k i
          cases i with
          | negSucc q => simp at g3
          | ofNat q =>
            simp only [ble_dec] at g3 ⊢
            by_cases hq : q ≤ len
            · simp [hq] at g3; subst g3
              have : q ≤ (N - (off + s)) / (z' + 1) := by omega
              simp [this]
            · simp [hq] at g3
        cases h2 : bnd hi len M with
        | none => rw [h2] at h; simp at h
        | some hh =>
          cases h3 : bnd lo 0 hh with
          | none => rw [h2] at h; simp only at h; rw [h3] at h; simp at h
          | some l =>
            rw [h2] at h; simp only at h; rw [h3] at h
            simp only [beq_dec] at h
            have rb := bounds_sound (isS := true) hlo hhi hmx g3' h2 h3 hmh P w
            have run : (Instr.sliceAt t (.slice (some ⟨m, off + s, none⟩) len ((N - (off + s)) / (z' + 1))) LO HI MX).run P w = .ok (.slice (if M = l then some ⟨m, off + s, none⟩ else some ((⟨m, off + s, none⟩ : Addr).add (l * (z' + 1)))) (hh - l) (M - l)) w := by
              simp [Instr.sliceAt, Instr.slice, run_underlying1 w hu, rb, run_size1 w hz]
            by_cases he : M = l
            · simp [he] at h; subst h
              refine ⟨_, ?_, run⟩
              simp [cv, hb, he, capOf]
            · simp [he] at h; subst h
              refine ⟨_, ?_, run⟩
              simp [cv, hb, he, capOf, addr_add]
      · simp at h
    · simp at h
  · simp at h
end Go.Ae
