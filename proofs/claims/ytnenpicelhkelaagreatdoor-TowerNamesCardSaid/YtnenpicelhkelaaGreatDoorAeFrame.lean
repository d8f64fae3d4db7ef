/-
  A part of an evaluator of translated programs, and of the proof that what it answers is what the model says; no condition.
-/
import Derived.Test.YtnenpicelhkelaaGreatDoorAeLaw
namespace Go.Ae
set_option linter.unusedVariables false
set_option linter.unusedSimpArgs false

noncomputable def hp1 (o : Ob) : Hp := ⟨1, T.put .leaf 0 o⟩
theorem hp1_get (o : Ob) (b : Nat) : (hp1 o).get b = if b = 0 then some o else none := by
  simp [hp1, Hp.get, T.get_put, T.get_leaf, eq_comm]

/-- A call whose first argument is a slice of one block of plain cells, shown over that block alone: it may be made from any memory that has the block. -/
theorem frame1 {P : Program} {K : Hook} (hm : P.follows .mixedOrders = true) (hK : HookOk P K) {n : Nat} {f : FuncId} {e : TypeId} {opn : Bool} {cs : List AV} {off len : Nat} {cap : Cp} {rest : List AV} {v : AV} {H' : Hp}
    (h : (run P K n).call f (.slice 0 off len cap :: rest) (hp1 (.cells e opn cs)) = some (v, H')) (hg : H'.get 0 = some (.cells e opn cs))
    (hc : plainL cs = true) (hr : plainL rest = true) (hv : plainA v = true) (H : Hp) {b : Nat} (hb : H.get b = some (.cells e opn cs)) :
    CallOk P f (.slice b off len cap :: rest) H v H := by
  intro φ w ARGS hH hA Rp hq
  obtain ⟨n0, N, s, hφ, ho⟩ := hH.live b _ hb
  let φ0 : Phi := fun c => if c = 0 then some (n0, N, s) else none
  have e0 : φ0 0 = some (n0, N, s) := rfl
  have h0 : HRel φ0 (hp1 (.cells e opn cs)) w := by
    refine ⟨fun b' h' => ?_, fun b' o h' => ?_, fun b1 b2 o1 o2 n1 x1 x2 h1 h2 _ _ => ?_⟩
    · have : b' ≠ 0 := by simp [hp1] at h'; omega
      simp [φ0, this]
    · rw [hp1_get] at h'
      by_cases hb0 : b' = 0
      · subst hb0
        simp at h'
        subst h'
        obtain ⟨C, fz, Pre, L, R, g1, g2, g3, g4⟩ := ho
        exact ⟨n0, N, s, rfl, C, fz, Pre, L, R, g1, g2, by rw [plainL_cv φ0 φ cs hc]; exact g3, g4⟩
      · simp [hb0] at h'
    · rw [hp1_get] at h1 h2
      have : b1 = 0 := by
        apply Classical.byContradiction; intro q; simp [q] at h1
      have : b2 = 0 := by
        apply Classical.byContradiction; intro q; simp [q] at h2
      omega
  have hA0 : cvL φ0 (.slice 0 off len cap :: rest) = some ARGS := by
    obtain ⟨A, r, hS, hR, rfl⟩ := cvL_cons.1 hA
    refine cvL_cons.2 ⟨A, r, ?_, by rw [plainL_cv φ0 φ rest hr]; exact hR, rfl⟩
    simp only [cv, hφ] at hS
    simp only [cv, e0]
    exact hS
  refine (run_ok hm hK n).call f _ _ v H' h φ0 w ARGS h0 hA0 Rp (fun φ' w' V p hV => ?_)
  refine hq φ w' V ?_ (by rw [plainA_cv φ φ' v hv]; exact hV)
  have e1 : φ' 0 = some (n0, N, s) := p.le _ _ e0
  refine ⟨PhiLe.refl _, ⟨hH.fresh, fun b1 o1 g => ?_, hH.inj⟩, ⟨p.keep.size, fun b o n x hb hx => .inr ⟨b, o, x, hb, hx⟩, fun k hk hn => ?_, p.keep.os, p.keep.tape, p.keep.output⟩, Nat.le_refl _, fun _ _ => rfl⟩
  · obtain ⟨n1, N1, s1, q1, q2⟩ := hH.live b1 o1 g
    by_cases hbb : b1 = b
    · subst hbb
      rw [hb] at g
      simp only [Option.some.injEq] at g
      subst g
      obtain ⟨n2, N2, s2, r1, r2⟩ := p.rel.live 0 _ hg
      rw [e1] at r1
      simp only [Option.some.injEq, Prod.mk.injEq] at r1
      obtain ⟨rfl, rfl, rfl⟩ := r1
      obtain ⟨C, fz, Pre, L, R, g1, g2, g3, g4⟩ := r2
      exact ⟨n0, N, s, hφ, C, fz, Pre, L, R, g1, g2, by rw [plainL_cv φ φ' cs hc]; exact g3, g4⟩
    · refine ⟨n1, N1, s1, q1, ?_⟩
      rw [p.keep.same n1 (hH.block_lt g q1) ?_]
      · exact q2
      · intro c o x g' k
        rw [hp1_get] at g'
        have hc0 : c = 0 := by
          apply Classical.byContradiction; intro q; simp [q] at g'
        subst hc0
        rw [e0] at k
        simp only [Option.some.injEq, Prod.mk.injEq] at k
        have hn : n0 = n1 := k.1
        rw [← hn] at q1
        exact hbb (hH.inj b1 b o1 _ n0 _ _ g hb q1 hφ)
  · refine p.keep.same k hk ?_
    intro c o x g' q
    rw [hp1_get] at g'
    have hc0 : c = 0 := by
      apply Classical.byContradiction; intro q; simp [q] at g'
    subst hc0
    rw [e0] at q
    simp only [Option.some.injEq, Prod.mk.injEq] at q
    exact hn b _ _ hb (by rw [hφ, q.1])
end Go.Ae
