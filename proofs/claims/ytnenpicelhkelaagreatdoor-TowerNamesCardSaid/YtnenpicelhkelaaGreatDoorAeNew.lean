/-
  A part of an evaluator of translated programs, and of the proof that what it answers is what the model says; no condition.
-/
import Derived.Test.YtnenpicelhkelaaGreatDoorAeRead3
import Derived.Laws.AppendOwn
namespace Go.Ae
set_option linter.unusedVariables false
set_option linter.unusedSimpArgs false

def ext (φ : Phi) (id n N s : Nat) : Phi := fun b => if b = id then some (n, N, s) else φ b
theorem ext_self (φ : Phi) (id n N s : Nat) : ext φ id n N s id = some (n, N, s) := by simp [ext]
theorem ext_le {φ : Phi} {id n N s : Nat} (h : φ id = none) : PhiLe φ (ext φ id n N s) := fun b x hb => by
  by_cases e : b = id
  · subst e; rw [h] at hb; cases hb
  · simp [ext, e, hb]

/-- What an operation that makes a block comes to. -/
def NewOk (P : Program) (φ : Phi) (H : Hp) (w : World) (id : Nat) (v : AV) (ob : Ob) (s : Sem Next) : Prop :=
  ∃ N sh obj w' V, w'.heap = w.heap.push obj ∧ w'.os = w.os ∧ w'.tape = w.tape ∧ w'.output = w.output ∧ ORel (ext φ id w.heap.size N sh) ob N sh (some obj) ∧ cv (ext φ id w.heap.size N sh) v = some V ∧ s.run P w = .ok (.value V) w'
theorem NewOk.post {P : Program} {φ : Phi} {H : Hp} {w : World} {id : Nat} {v : AV} {ob : Ob} {s : Sem Next} (h : NewOk P φ H w id v ob s) (hH : HRel φ H w) (hid : φ id = none)
    {H1 : Hp} (hget : ∀ j, H1.get j = if j = id then some ob else H.get j) (hnext : H.next ≤ H1.next) (hlt : id < H1.next) :
    ∃ φ' w' V, PhiLe φ φ' ∧ HRel φ' H1 w' ∧ Keep φ H w φ' H1 w' ∧ cv φ' v = some V ∧ s.run P w = .ok (.value V) w' ∧ ∀ b, b ≠ id → φ' b = φ b := by
  obtain ⟨N, sh, obj, w', V, h1, h2, h3, h4, h5, h6, h7⟩ := h
  obtain ⟨a, b, c⟩ := HRel.allocAt hH hid h1 hget hnext hlt h5 h2 h3 h4
  exact ⟨_, w', V, a, b, c, h6, h7, fun b hb => by simp [hb]⟩

theorem row_new {P : Program} {φ : Phi} {H : Hp} {w : World} {id : Nat} {v : AV} {e : TypeId} {cs : List AV} {L : List Value} {s : Sem Value} {V : Value} (hid : φ id = none)
    (hL : cvL φ cs = some L) (hr : s.run P w = .ok V { w with heap := w.heap.push (.cells L.toArray e) }) (hv : cv (ext φ id w.heap.size L.length 0) v = some V) :
    NewOk P φ H w id v (.cells e false cs) (do let x ← s; pure (Next.value x)) := by
  refine ⟨L.length, 0, .cells L.toArray e, { w with heap := w.heap.push (.cells L.toArray e) }, V, rfl, rfl, rfl, rfl, ?_, hv, val_run hr⟩
  exact ⟨L.toArray, (0, 0), [], L, [], rfl, by simp, cvL_mono (ext_le hid) _ _ hL, by simp, rfl, fun _ => ⟨rfl, rfl⟩, fun i _ h => by simp at h⟩

theorem range_rep (z : List Value) (n : Nat) (hz : 0 < z.length ∨ n = 0) : (Array.range (n * z.length)).map (z.toArray[· % z.length]!) = (rep z n).toArray := by
  apply Array.ext_getElem?
  intro i
  simp only [Array.getElem?_map, List.getElem?_toArray]
  by_cases hi : i < n * z.length
  · rw [Array.getElem?_range, if_pos hi]
    have hz' : 0 < z.length := by rcases hz with h | h; exact h; subst h; simp at hi
    simp only [Option.map_some]
    have hm : i % z.length < z.length := Nat.mod_lt _ hz'
    have e : z.toArray[i % z.length]! = z[i % z.length] := by simp [hm]
    rw [e]
    clear e
    induction n generalizing i with
    | zero => simp at hi
    | succ n ih =>
      simp only [rep]
      by_cases h2 : i < z.length
      · rw [List.getElem?_append_left h2]
        simp [Nat.mod_eq_of_lt h2]
      · rw [List.getElem?_append_right (by omega)]
        have hi' : i - z.length < n * z.length := by rw [Nat.succ_mul] at hi; omega
        have := ih (.inl hz') (i - z.length) hi' (Nat.mod_lt _ hz')
        rw [← this]
        congr 1
        have : i % z.length = (i - z.length) % z.length := by
          rw [Nat.mod_eq_sub_mod (by omega)]
        simp [this]
  · rw [Array.getElem?_range, if_neg hi]
    symm
    simp [rep_length]
    omega

theorem new_sound {P : Program} {F : Fr} {o : Oper} {H : Hp} {id : Nat} {v : AV} {ob : Ob} (h : newA P F H o id = some (v, ob)) {φ : Phi} {a : Act} (hF : TRel φ F a.tmps) {w : World} (hH : HRel φ H w) (hid : φ id = none) :
    NewOk P φ H w id v ob (execOp a.eval o) := by
  obtain ⟨dst, op, ty, pos, after, guard⟩ := o
  cases op <;> simp only [newA, reduceCtorEq] at h
  case alloc t =>
    cases hz : zeroA P t with
    | none => rw [hz] at h; simp at h
    | some z =>
      rw [hz] at h
      simp only [Option.some.injEq, Prod.mk.injEq] at h
      obtain ⟨rfl, rfl⟩ := h
      obtain ⟨Z, hZ, rZ⟩ := zero_sound hz φ
      refine row_new hid (cells_sound hZ) (V := .pointer (some ⟨w.heap.size, 0, none⟩)) ?_ (by simp [cv, ext])
      simp [Instr.alloc, rZ w, newVar, newRow]
  case box t x =>
    cases hx : aeval F x with
    | none => rw [hx] at h; simp at h
    | some p =>
      rw [hx] at h
      simp only [Option.some.injEq, Prod.mk.injEq] at h
      obtain ⟨rfl, rfl⟩ := h
      obtain ⟨X, hX, ex⟩ := eval_sound hF hx
      simp only [execOp, ex]
      refine row_new hid (cells_sound hX) (V := .pointer (some ⟨w.heap.size, 0, none⟩)) ?_ (by simp [cv, ext])
      simp [Instr.box, newVar, newRow]
  case buildSlice t n parts =>
    cases hu : P.underlying t with
    | none => rw [hu] at h; simp at h
    | some d =>
      rw [hu] at h
      cases d <;> (try simp only [reduceCtorEq] at h)
      rename_i e
      cases hs : sizeA P e with
      | none => rw [hs] at h; simp at h
      | some z =>
        cases hz : zeroA P e with
        | none => rw [hs, hz] at h; simp at h
        | some zv =>
          cases hp : partsA F parts.toList with
          | none => rw [hs, hz, hp] at h; simp at h
          | some ps =>
            rw [hs, hz, hp] at h
            simp only [beq_dec, ble_dec] at h
            split at h
            · rename_i g1 g2
              simp only [decide_eq_true_eq] at g1 g2
              cases hf : fillA (fun i => some (i * z, z)) (rep (cellsA zv) n) ps with
              | none => rw [hf] at h; simp at h
              | some cs =>
                rw [hf] at h
                simp only [Option.some.injEq, Prod.mk.injEq] at h
                obtain ⟨rfl, rfl⟩ := h
                obtain ⟨Z, hZ, rZ⟩ := zero_sound hz φ
                have hcz := cells_sound hZ
                obtain ⟨q1, q2⟩ := parts_sound hF hp
                have hl : (parts.map fun (i, x) => (i, a.eval x)).toList = parts.toList.map fun x => (x.1, a.eval x.2) := by simp
                obtain ⟨CS, hCS, hfill⟩ := fill_sound hf (cvL_rep hcz n) q1 q2
                simp only [execOp]
                refine row_new hid hCS (V := .slice (some ⟨w.heap.size, 0, none⟩) n n) ?_ (by simp [cv, ext, capOf])
                have hzl : Z.cells.size = z := by
                  have := cvL_length hcz
                  simp at this; omega
                have e1 : (Array.range (n * z)).map ((if n * z = 0 then #[] else Z.cells)[· % (if n * z = 0 then (#[] : Array Value) else Z.cells).size]!) = (rep Z.cells.toList n).toArray := by
                  by_cases h0 : n * z = 0
                  · simp only [h0, if_true]
                    have : rep Z.cells.toList n = [] := List.eq_nil_of_length_eq_zero (by rw [rep_length]; simp [hzl, h0])
                    simp [this]
                  · simp only [h0, if_false]
                    have := range_rep Z.cells.toList n (.inl (by simp [hzl]; rcases Nat.eq_zero_or_pos z with h | h; exact absurd (by simp [h]) h0; exact h))
                    simpa [hzl] using this
                simp only [Instr.buildSlice, Sem.run_bind, run_underlying1 w hu, Result.andThen_ok, run_size1 w hs]
                rw [if_neg (by omega)]
                by_cases h0 : n * z = 0
                · simp only [h0, if_true] at e1
                  simp only [h0, if_true, Sem.run_bind, Sem.run_pure, Result.andThen_ok]
                  rw [e1, hl, hfill]
                  simp [newRow]
                · simp only [h0, if_false] at e1
                  simp only [h0, if_false, Sem.run_bind, rZ w, Sem.run_pure, Result.andThen_ok]
                  rw [e1, hl, hfill]
                  simp [newRow]
            · simp at h
  case makeMap t r =>
    cases hu : P.underlying t with
    | none => rw [hu] at h; simp at h
    | some d =>
      rw [hu] at h
      cases d <;> (try simp only [reduceCtorEq] at h)
      rename_i kt et
      have fin : (v, ob) = (.map id, .map [] 0) → (Instr.makeMap t (r.map a.eval)).run P w = .ok (.map (some w.heap.size)) { w with heap := w.heap.push (.map #[] 0) } → NewOk P φ H w id v ob (execOp a.eval ⟨dst, .makeMap t r, ty, pos, after, guard⟩) := by
        intro hv hr
        simp only [Prod.mk.injEq] at hv
        obtain ⟨rfl, rfl⟩ := hv
        refine ⟨0, 0, .map #[] 0, { w with heap := w.heap.push (.map #[] 0) }, .map (some w.heap.size), rfl, rfl, rfl, rfl, ⟨[], rfl, rfl⟩, by simp [cv, ext], ?_⟩
        simp only [execOp]
        exact val_run hr
      cases hr : aevalO F r with
      | none => rw [hr] at h; simp at h
      | some q =>
        rw [hr] at h
        have hb := optO hF hr
        cases q with
        | none =>
          simp only [Option.some.injEq] at h
          simp only [BndOk] at hb
          exact fin h.symm (by rw [hb]; simp [Instr.makeMap])
        | some q =>
          obtain ⟨V, hV, hq⟩ := hb
          cases q <;> (try simp only [reduceCtorEq, Option.some.injEq] at h)
          obtain rfl := cv_int hq
          exact fin h.symm (by rw [hV]; simp [Instr.makeMap, run_underlying1 w hu, asInt, asIntOf])
  case makeSlice t l c =>
    cases hu : P.underlying t with
    | none => rw [hu] at h; simp at h
    | some d =>
      cases hl : aeval F l with
      | none => rw [hu, hl] at h; split at h <;> simp_all
      | some p =>
        cases hc : aeval F c with
        | none => rw [hu, hl, hc] at h; split at h <;> simp_all
        | some q =>
          rw [hu, hl, hc] at h
          obtain ⟨X, hX, ex⟩ := eval_sound hF hl
          obtain ⟨Y, hY, ey⟩ := eval_sound hF hc
          split at h
          · rename_i e k n k' m q1 q2 q3
            simp only [Option.some.injEq] at q1 q2 q3
            subst q1; subst q2; subst q3
            obtain rfl := cv_int hX
            obtain rfl := cv_int hY
            cases hi : P.info? e with
            | none => rw [hi] at h; simp at h
            | some i =>
              cases hz : zeroA P e with
              | none => rw [hi, hz] at h; simp at h
              | some z =>
                rw [hi, hz] at h
                simp only [ble_dec, beq_dec] at h
                split at h
                · rename_i g1 g2 g3 g4
                  simp only [decide_eq_true_eq] at g1 g2 g3 g4
                  simp only [Option.some.injEq, Prod.mk.injEq] at h
                  obtain ⟨rfl, rfl⟩ := h
                  obtain ⟨Z, hZ, rZ⟩ := zero_sound hz φ
                  have hcz := cells_sound hZ
                  have hzl : Z.cells.size = i.size := by
                    have := cvL_length hcz
                    simp at this; omega
                  simp only [execOp, ex, ey]
                  refine row_new hid (cvL_rep hcz m) (V := .slice (some ⟨w.heap.size, 0, none⟩) n m) ?_ (by simp [cv, ext, capOf])
                  have hs : sizeA P e = some i.size := by simp [sizeA, hi]
                  have w1 : IntKind.i64.wrap (Int.ofNat n) = (n : Int) := fits_wrap _ _ (by simp only [fits, blt_dec, decide_eq_true_eq]; omega)
                  have w2 : IntKind.i64.wrap (Int.ofNat m) = (m : Int) := fits_wrap _ _ (by simp only [fits, blt_dec, decide_eq_true_eq]; omega)
                  have e1 : (Array.range (m * i.size)).map ((if m * i.size = 0 then #[] else Z.cells)[· % (if m * i.size = 0 then (#[] : Array Value) else Z.cells).size]!) = (rep Z.cells.toList m).toArray := by
                    by_cases h0 : m * i.size = 0
                    · simp only [h0, if_true]
                      have : rep Z.cells.toList m = [] := List.eq_nil_of_length_eq_zero (by rw [rep_length]; simp [hzl, h0])
                      simp [this]
                    · simp only [h0, if_false]
                      have := range_rep Z.cells.toList m (.inl (by simp [hzl]; rcases Nat.eq_zero_or_pos i.size with h | h; exact absurd (by simp [h]) h0; exact h))
                      simpa [hzl] using this
                  have t1 : ¬ (((m : Int) < 0) ∨ (281474976710656 : Int) < (i.bytes : Int) * (m : Int)) := by
                    have : ((i.bytes * m : Nat) : Int) ≤ 281474976710656 := by omega
                    push_cast at this
                    omega
                  simp only [Instr.makeSlice, Sem.run_bind, run_underlying1 w hu, Result.andThen_ok, asInt, asIntOf, Sem.run_pure, run_typeInfo1 w hi, w1, w2]
                  rw [if_neg (by simp; omega)]
                  simp only [Sem.run_bind, run_askRoom, Result.andThen_ok, run_size1 w hs, Int.toNat_natCast]
                  by_cases h0 : m * i.size = 0
                  · simp only [h0, if_true] at e1
                    simp only [h0, if_true, Sem.run_bind, Sem.run_pure, Result.andThen_ok]
                    rw [e1]
                    simp [newRow]
                  · simp only [h0, if_false] at e1
                    simp only [h0, if_false, Sem.run_bind, rZ w, Sem.run_pure, Result.andThen_ok]
                    rw [e1]
                    simp [newRow]
                · simp at h
          · simp at h
  case range t x =>
    cases hu : P.underlying t with
    | none => rw [hu] at h; simp at h
    | some d =>
      cases hx : aeval F x with
      | none => rw [hu, hx] at h; split at h <;> simp_all
      | some p =>
        rw [hu, hx] at h
        obtain ⟨X, hX, ex⟩ := eval_sound hF hx
        split at h
        · rename_i kt et q1 q2
          simp only [Option.some.injEq] at q1 q2
          subst q1; subst q2
          simp only [Option.some.injEq, Prod.mk.injEq] at h
          obtain ⟨rfl, rfl⟩ := h
          simp [cv] at hX; subst hX
          refine ⟨0, 0, .mapIter none 0 #[] 0, { w with heap := w.heap.push (.mapIter none 0 #[] 0) }, .pointer (some ⟨w.heap.size, 0, none⟩), rfl, rfl, rfl, rfl, ⟨rfl, rfl⟩, by simp [cv, ext], ?_⟩
          simp only [execOp, ex]
          exact val_run (by simp [Instr.range, run_underlying1 w hu])
        · rename_i kt et b q1 q2
          simp only [Option.some.injEq] at q1 q2
          subst q1; subst q2
          cases hg : H.get b with
          | none => rw [hg] at h; simp at h
          | some obm =>
            rw [hg] at h
            cases obm <;> (try simp only [reduceCtorEq] at h)
            rename_i es clk
            simp only [Option.some.injEq, Prod.mk.injEq] at h
            obtain ⟨rfl, rfl⟩ := h
            obtain ⟨n, x', hb, rfl⟩ := cv_map hX
            obtain ⟨n', N, s, r1, ES, r2, r3⟩ := hH.live b _ hg
            rw [hb] at r1
            simp only [Option.some.injEq, Prod.mk.injEq] at r1
            obtain ⟨rfl, rfl⟩ := r1
            have hbid : b ≠ id := by rintro rfl; rw [hid] at hb; cases hb
            refine ⟨0, 0, .mapIter (some n) clk #[] clk, { w with heap := w.heap.push (.mapIter (some n) clk #[] clk) }, .pointer (some ⟨w.heap.size, 0, none⟩), rfl, rfl, rfl, rfl, ⟨rfl, n, (N, s), by simp [ext, hbid, hb], rfl⟩, by simp [cv, ext], ?_⟩
            simp only [execOp, ex]
            exact val_run (by simp [Instr.range, run_underlying1 w hu, getObj, Sem.run, r3])
        · simp at h
  case convert s d x =>
    cases hx : aeval F x with
    | none => rw [hx] at h; split at h <;> simp_all
    | some p =>
      rw [hx] at h
      obtain ⟨X, hX, ex⟩ := eval_sound hF hx
      split at h
      · rename_i e l hu1 hu2 hp
        simp only [Option.some.injEq] at hp; subst hp
        obtain ⟨rfl, hl⟩ := cv_str hX
        cases he : P.underlying e with
        | none => rw [he] at h; simp at h
        | some de =>
          rw [he] at h
          cases de <;> (try simp only [reduceCtorEq] at h)
          rename_i k
          cases k <;> (try simp only [reduceCtorEq, Option.some.injEq, Prod.mk.injEq] at h)
          obtain ⟨rfl, rfl⟩ := h
          have run := Lib.run_convert_string_bytes (P := P) w s d e (toBytes l) hu1 hu2 he
          have hge := grownCap_ge w (toBytes l).size 0 e
          have hsz : (Lib.bytesCells w e (toBytes l)).size = grownCap w (toBytes l).size 0 e := by
            simp [Lib.bytesCells]
            have : (toBytes l).data.size = (toBytes l).size := rfl
            omega
          refine ⟨grownCap w (toBytes l).size 0 e, 0, .cells (Lib.bytesCells w e (toBytes l)) e ((Lib.bytesCells w e (toBytes l)).size, (Lib.bytesCells w e (toBytes l)).size + 1), Lib.bytesWorld w e (toBytes l),
            .slice (some ⟨w.heap.size, 0, none⟩) (toBytes l).size (grownCap w (toBytes l).size 0 e), ?_, ?_, ?_, ?_, ?_, ?_, ?_⟩
          · apply Array.ext_getElem?
            intro j
            rw [Array.getElem?_push]
            rcases Nat.lt_trichotomy j w.heap.size with hj | hj | hj
            · rw [Lib.bytesWorld_at_old w e _ j hj, if_neg (by omega)]
            · subst hj; rw [Lib.bytesWorld_at_new]; simp
            · rw [if_neg (by omega), Array.getElem?_eq_none (by rw [Lib.bytesWorld_size]; omega), Array.getElem?_eq_none (by omega)]
          · simp [Lib.bytesWorld, World.freeze, World.alloc, World.drew, -World.alloc_eq, -World.drew_eq]
          · simp [Lib.bytesWorld, World.freeze, World.alloc, World.drew, -World.alloc_eq, -World.drew_eq]
          · simp [Lib.bytesWorld, World.freeze, World.alloc, World.drew, -World.alloc_eq, -World.drew_eq]
          · have hcl : ∀ (φ : Phi) (l : List Nat), (∀ n ∈ l, n < 256) → cvL φ (l.map fun n => AV.int .u8 (Int.ofNat n)) = some (((toBytes l).data.map fun b => Value.int .u8 b.toNat).toList) := by
              intro φ l hl
              simp only [Array.toList_map, toBytes_list, List.map_map]
              induction l with
              | nil => rfl
              | cons n l ih =>
                simp only [List.map_cons]
                refine cvL_mk ?_ (ih (fun m hm => hl m (by simp [hm])))
                have := hl n (by simp)
                simp [cv, Nat.mod_eq_of_lt this]
            refine ⟨_, _, [], _, (Array.replicate (grownCap w (toBytes l).size 0 e - (toBytes l).size) (.int .u8 0)).toList, rfl, hsz, hcl _ l hl, ?_, rfl, fun h => by simp at h, fun i hi h => by omega⟩
            simp [Lib.bytesCells]
          · simp [cv, ext, capOf, toBytes_size]
          · simp only [execOp, ex]
            exact val_run run
      · simp at h
end Go.Ae
