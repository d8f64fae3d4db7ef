/-
  A part of an evaluator of translated programs, and of the proof that what it answers is what the model says; no condition.
-/
import Derived.Test.YtnenpicelhkelaaGreatDoorAeTop
namespace Go.Ae
set_option linter.unusedVariables false
set_option linter.unusedSimpArgs false

mutual
/-- No block's number is in it. -/
def plainA : AV → Bool
  | .bool _ | .int _ _ | .str _ | .nilp | .nils | .nilm | .nilc | .nilf | .nili => true
  | .ptr _ _ | .slice _ _ _ _ | .map _ | .chan _ | .yieldf _ => false
  | .func _ a b => (match plainL a with | true => plainL b | false => false)
  | .iface _ v => plainA v
  | .agg l => plainL l
  | .tup l => plainL l
def plainL : List AV → Bool
  | [] => true
  | a :: l => (match plainA a with | true => plainL l | false => false)
end
mutual
theorem plainA_cv (φ φ' : Phi) : ∀ (v : AV), plainA v = true → cv φ v = cv φ' v
  | .bool _, _ => by simp [cv]
  | .int _ _, _ => by simp [cv]
  | .str _, _ => by simp [cv]
  | .nilp, _ => by simp [cv]
  | .nils, _ => by simp [cv]
  | .nilm, _ => by simp [cv]
  | .nilc, _ => by simp [cv]
  | .nilf, _ => by simp [cv]
  | .nili, _ => by simp [cv]
  | .ptr _ _, h => by simp [plainA] at h
  | .slice _ _ _ _, h => by simp [plainA] at h
  | .map _, h => by simp [plainA] at h
  | .chan _, h => by simp [plainA] at h
  | .yieldf _, h => by simp [plainA] at h
  | .func fn a b, h => by
    simp only [plainA] at h
    split at h
    · rename_i g
      simp only [cv, plainL_cv φ φ' a g, plainL_cv φ φ' b h]
    · cases h
  | .iface t v, h => by
    simp only [plainA] at h
    simp only [cv, plainA_cv φ φ' v h]
  | .agg l, h => by
    simp only [plainA] at h
    simp only [cv, plainL_cv φ φ' l h]
  | .tup l, h => by
    simp only [plainA] at h
    simp only [cv, plainL_cv φ φ' l h]
theorem plainL_cv (φ φ' : Phi) : ∀ (l : List AV), plainL l = true → cvL φ l = cvL φ' l
  | [], _ => by simp [cvL]
  | a :: l, h => by
    simp only [plainL] at h
    split at h
    · rename_i g
      simp only [cvL, plainA_cv φ φ' a g, plainL_cv φ φ' l h]
    · cases h
end

/-- What was there stays. -/
structure Kept (w w' : World) : Prop where
  size : w.heap.size ≤ w'.heap.size
  same : ∀ n, n < w.heap.size → w'.heap[n]? = w.heap[n]?
  os : w'.os = w.os
  tape : w'.tape = w.tape
  output : w'.output = w.output
theorem hp0_get (b : Nat) : hp0.get b = none := by simp [hp0, Hp.get, T.get_leaf]
theorem hrel0 (w : World) : HRel (fun _ => none) hp0 w :=
  ⟨fun _ _ => rfl, fun b o h => (by rw [hp0_get] at h; cases h), fun b b' o o' n x x' h => (by rw [hp0_get] at h; cases h)⟩
theorem Post.kept {φ φ' : Phi} {H' : Hp} {w w' : World} (p : Post φ hp0 w φ' H' w') : Kept w w' :=
  ⟨p.keep.size, fun n hn => p.keep.same n hn (fun b o x h => (by rw [hp0_get] at h; cases h)), p.keep.os, p.keep.tape, p.keep.output⟩
theorem Kept.post {φ : Phi} {H : Hp} {w w' : World} (h : HRel φ H w) (k : Kept w w') : Post φ H w φ H w' := by
  refine ⟨PhiLe.refl _, ⟨h.fresh, fun b o hb => ?_, h.inj⟩, ⟨k.size, fun b o n x hb hx => .inr ⟨b, o, x, hb, hx⟩, fun n hn _ => k.same n hn, k.os, k.tape, k.output⟩, Nat.le_refl _, fun _ _ => rfl⟩
  obtain ⟨n, N, s, h1, h2⟩ := h.live b o hb
  exact ⟨n, N, s, h1, by rw [k.same n (h.block_lt hb h1)]; exact h2⟩

/-- A call of plain things, that answers a plain thing: from empty memory it may be made from any. -/
theorem closed_call {P : Program} {K : Hook} (hm : P.follows .mixedOrders = true) (hK : HookOk P K) {n : Nat} {f : FuncId} {args : List AV} {v : AV} {H' : Hp} (h : (run P K n).call f args hp0 = some (v, H')) (ha : plainL args = true) (hv : plainA v = true) (H : Hp) :
    CallOk P f args H v H := by
  intro φ w ARGS hH hA Rp hq
  refine (run_ok hm hK n).call f args hp0 v H' h (fun _ => none) w ARGS (hrel0 w) (by rw [plainL_cv _ φ args ha]; exact hA) Rp (fun φ' w' V p hV => ?_)
  exact hq φ w' V (p.kept.post hH) (by rw [plainA_cv φ φ' v hv]; exact hV)

def okB : Option (AV × Hp) → Bool
  | some (.bool true, _) => true
  | _ => false
theorem okB_some {r : Option (AV × Hp)} (h : okB r = true) : ∃ H, r = some (.bool true, H) := by
  unfold okB at h
  split at h
  · exact ⟨_, rfl⟩
  · cases h
/-- A law without parameters. -/
theorem law_run {P : Program} {K : Hook} (hm : P.follows .mixedOrders = true) (hK : HookOk P K) {n : Nat} {f : FuncId} (h : okB ((run P K n).call f [] hp0) = true) (w : World) :
    Calls P f #[] w fun e w' => e = .returned (.bool true) ∧ Kept w w' := by
  obtain ⟨H', h⟩ := okB_some h
  refine callsIn_wide.1 ((run_ok hm hK n).call f [] hp0 _ H' h (fun _ => none) w [] (hrel0 w) rfl _ (fun φ' w' V p hV => ?_))
  simp [cv] at hV
  exact ⟨by rw [hV], p.kept⟩
end Go.Ae
