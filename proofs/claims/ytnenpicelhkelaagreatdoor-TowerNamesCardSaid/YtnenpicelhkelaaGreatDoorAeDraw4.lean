/-
  A part of an evaluator of translated programs, and of the proof that what it answers is what the model says; no condition.
-/
import Derived.Test.YtnenpicelhkelaaGreatDoorAeDraw3
namespace Go.Ae
set_option linter.unusedVariables false
set_option linter.unusedSimpArgs false

/-- How many are left. -/
def left (listed : Array Bool) : Nat → Nat
  | 0 => 0
  | n + 1 => left listed n + (if dn listed n = true then 0 else 1)
theorem left_zero {listed : Array Bool} : ∀ {n : Nat}, left listed n = 0 → ∀ j, j < n → dn listed j = true
  | 0, _, j, h => by omega
  | n + 1, h, j, hj => by
    simp only [left] at h
    by_cases e : j = n
    · subst e
      by_cases hd : dn listed j = true
      · exact hd
      · rw [if_neg hd] at h; omega
    · exact left_zero (n := n) (by omega) j (by omega)
theorem left_set {listed : Array Bool} {j : Nat} (hj : j < listed.size) (hn : dn listed j = false) : ∀ n, left (listed.setIfInBounds j true) n + (if j < n then 1 else 0) = left listed n
  | 0 => by simp [left]
  | n + 1 => by
    have ih := left_set hj hn n
    simp only [left, dn_set hj]
    by_cases e : n = j
    · subst e
      simp [hn] at ih ⊢
      omega
    · simp only [e, if_false]
      by_cases h : j < n
      · have : j < n + 1 := by omega
        simp only [h, this, if_true] at ih ⊢
        omega
      · have : ¬ j < n + 1 := by omega
        simp only [h, this, if_false] at ih ⊢
        omega

section
variable {P : Program} {K : Hook} {R : Rec} {ro : Option Nat} {ops : Array Oper} {base : Nat} {F0 : Fr} {D0 : List ADef} {H0 : Hp} {rs : List Rc} (S : Sw P K R ro ops base F0 D0 H0 rs)
  {φ0 : Phi} {w0 : World}
include S
theorem draw_all (hK : HookOk P K) (hR : RecOk P R) {FN : Fence} (hFN : FenceOk φ0 ro FN) {Q : Exit → Act → World → Prop}
    (hfin : ∀ listed φ a w, Inv ops base F0 D0 H0 rs φ0 w0 listed φ a w → (∀ j, j < ops.size → dn listed j = true) → Q .normal a w) :
    ∀ (fuel : Nat) (listed : Array Bool) (φ : Phi) (a : Act) (w : World), Inv ops base F0 D0 H0 rs φ0 w0 listed φ a w → left listed ops.size ≤ fuel → wpAnyIn FN 0 P .any ops Q fuel listed a w := by
  have hnil : ∀ (listed : Array Bool) (φ : Phi) (a : Act) (w : World), Inv ops base F0 D0 H0 rs φ0 w0 listed φ a w → Region.ready .any ops listed = [] → ∀ j, j < ops.size → dn listed j = true := by
    intro listed φ a w I hr j
    induction j using Nat.strongRecOn with
    | _ j ih =>
      intro hj
      cases hd : dn listed j with
      | true => rfl
      | false =>
        have hjr : j < rs.length := by rw [S.len]; exact hj
        have f := S.sf j _ (List.getElem?_eq_getElem hjr)
        have : j ∈ Region.ready .any ops listed := by
          rw [mem_ready]
          refine ⟨?_, _, f.o, fun e he hb => ih e.on (f.back e he hb) (Nat.lt_trans (f.back e he hb) hj)⟩
          have hs : j < listed.size := by rw [I.size]; exact hj
          unfold dn at hd
          simp only [Array.getD_eq_getD_getElem?, Array.getElem?_eq_getElem hs, Option.getD_some] at hd ⊢
          exact hd
        rw [hr] at this
        cases this
  intro fuel
  induction fuel with
  | zero =>
    intro listed φ a w I h
    have hall := left_zero (show left listed ops.size = 0 by omega)
    refine ⟨?_, hfin listed φ a w I hall⟩
    cases hr : Region.ready .any ops listed with
    | nil => rfl
    | cons j l =>
      have : j ∈ Region.ready .any ops listed := by rw [hr]; exact List.mem_cons_self
      rw [mem_ready] at this
      obtain ⟨h1, o, h2, _⟩ := this
      have hj : j < ops.size := (Array.getElem?_eq_some_iff.1 h2).1
      have := hall j hj
      have hs : j < listed.size := by rw [I.size]; exact hj
      unfold dn at this
      simp only [Array.getD_eq_getD_getElem?, Array.getElem?_eq_getElem hs, Option.getD_some] at this h1
      rw [h1] at this; cases this
  | succ fuel ih =>
    intro listed φ a w I h
    refine ⟨fun hr => hfin listed φ a w I (hnil listed φ a w I hr), fun j hj => ?_⟩
    obtain ⟨h1, o, h2, h3⟩ := mem_ready.1 hj
    have hjs : j < ops.size := (Array.getElem?_eq_some_iff.1 h2).1
    have hs : j < listed.size := by rw [I.size]; exact hjs
    have hnot : dn listed j = false := by
      unfold dn
      simp only [Array.getD_eq_getD_getElem?, Array.getElem?_eq_getElem hs, Option.getD_some] at h1 ⊢
      exact h1
    have hjr : j < rs.length := by rw [S.len]; exact hjs
    have hr := List.getElem?_eq_getElem hjr
    have f := S.sf j _ hr
    have hoe : o = rs[j].o := by
      have := f.o
      rw [h2] at this
      simpa using this
    refine draw_step S I hr hnot (fun e he hb => h3 e (by rw [hoe]; exact he) hb) hK hR (hFN.mono I.le) (fun φ' a' w' hle I' => ih _ φ' a' w' I' ?_)
    have := left_set hs hnot ops.size
    rw [if_pos hjs] at this
    omega
end

theorem drawA_sound {P : Program} {K : Hook} {R : Rec} (hK : HookOk P K) (hR : RecOk P R) (hm : P.follows .mixedOrders = true) {ro : Option Nat} {ops : Array Oper} {n : Nat} {F F' : Fr} {D D' : List ADef} {H H' : Hp}
    (h : drawA P K R ro ops F D H = some (F', D', H')) : CodeOk P ro (.region n ops true) F D H .normal F' D' H' := by
  intro φ w a FN hH hF hD hFN Q hq
  unfold drawA at h
  simp only at h
  cases hsw : sweep P K R ro ops H.next 0 [] ops.toList F D { H with next := H.next + ops.size } with
  | none => rw [hsw] at h; simp at h
  | some q =>
    obtain ⟨rs, r⟩ := q
    rw [hsw] at h
    simp only at h
    cases hp : allPairs 0 rs with
    | false => rw [hp] at h; simp at h
    | true =>
      rw [hp] at h
      simp only at h
      cases hrd : readsOk P { H with next := H.next + ops.size } (effsOf 0 rs []) 0 rs with
      | false => rw [hrd] at h; simp at h
      | true =>
        rw [hrd] at h
        simp only [Option.some.injEq] at h
        subst h
        obtain ⟨g1, g2, g3, g4, g5, g6⟩ := sweep_facts (F0 := F) (D0 := D) (H0 := { H with next := H.next + ops.size }) ops.toList [] F D _ rs F' D' H' hsw (by simp) rfl
          (fun t v ht => .inr ⟨fun i r hi => by simp at hi, ht⟩) rfl rfl
        simp only [List.nil_append, List.length_nil, Nat.zero_add] at g1 g2 g4 g5 g6
        have S : Sw P K R ro ops H.next F D { H with next := H.next + ops.size } rs := ⟨by rw [g1]; simp, g2, hp, hrd, Nat.le_refl _, fun j => by
          cases hg : ({ H with next := H.next + ops.size } : Hp).get (H.next + j) with
          | none => rfl
          | some o =>
            have : H.get (H.next + j) = some o := hg
            have := hH.lt this
            omega⟩
        refine wpIn_region_any hm ?_
        have hfalse : ∀ i, dn (Array.replicate ops.size false) i = false := by
          intro i
          unfold dn
          simp only [Array.getD_eq_getD_getElem?, Array.getElem?_replicate]
          split <;> rfl
        have hfr : ∀ b, H.next ≤ b → φ b = none := hH.fresh
        have hE : foldH (dn (Array.replicate ops.size false)) 0 rs { H with next := H.next + ops.size } = { H with next := H.next + ops.size } := by
          have : ∀ (l : List Rc) (j : Nat) (H0 : Hp), foldH (dn (Array.replicate ops.size false)) j l H0 = H0 := by
            intro l
            induction l with
            | nil => intro j H0; rfl
            | cons r l ih => intro j H0; simp only [foldH, hfalse, Bool.false_eq_true, if_false]; exact ih _ _
          exact this _ _ _
        have hEd : foldD (dn (Array.replicate ops.size false)) 0 rs D = D := foldD_noeff _ _ _ (fun k r _ hd => by rw [hfalse] at hd; cases hd)
        refine draw_all S hK hR (φ0 := φ) (w0 := { w with drawn := w.drawn + 1 }) hFN ?_ ops.size _ φ a _ ?_ ?_
        · intro listed φ' a' w' I hall
          have hlt : ∀ j (r : Rc), rs[j]? = some r → dn listed j = true := fun j r hj => hall j (by
            rw [← S.len]; exact (List.getElem?_eq_some_iff.1 hj).1)
          have hHe : foldH (dn listed) 0 rs { H with next := H.next + ops.size } = H' := by
            rw [g6]
            exact foldH_congr _ _ _ (fun k r hk => .inl (by rw [Nat.zero_add]; exact hlt k r hk))
          have hDe : foldD (dn listed) 0 rs D = D' := by
            rw [g5]
            exact foldD_congr _ _ _ (fun k r hk => .inl (by rw [Nat.zero_add]; exact hlt k r hk))
          have kp := I.keep
          have rl := I.rel
          have df := I.defs
          have nx := I.next
          rw [hHe] at kp rl nx
          rw [hDe] at df
          refine hq φ' w' a' ⟨I.le, rl, ⟨kp.size, kp.img, kp.same, kp.os, kp.tape, kp.output⟩, by omega, I.old⟩ ⟨by rw [I.tsize, g3], fun t v ht => ?_⟩ df
          rcases g4 t v ht with ⟨i, ri, h1, h2, h3, rfl⟩ | ⟨h1, h2⟩
          · exact I.tdone i ri t (hlt i ri h2) h2 h3
          · exact I.tkeep t v (fun k x _ hx => h1 k x (List.getElem?_eq_some_iff.1 hx).1 hx) h2
        · refine ⟨by simp, fun j r hj => (by rw [hfalse] at hj; cases hj), PhiLe.refl _, fun _ _ => rfl, fun j _ _ => hfr _ (by omega), hF.1, fun j r d hj => (by rw [hfalse] at hj; cases hj), fun t v _ ht => hF.2 t v ht, by rw [hEd]; exact hD, ?_, ?_, by rw [hE]; exact Nat.le_refl _⟩
          · rw [hE]
            exact ⟨fun b hb => hfr b (Nat.le_trans (Nat.le_add_right _ _) hb), hH.live, hH.inj⟩
          · rw [hE]; exact Keep.refl _ _ _
        · have : ∀ n, left (Array.replicate ops.size false) n = n := by
            intro n
            induction n with
            | zero => rfl
            | succ n ih => simp [left, ih, hfalse]
          rw [this]; exact Nat.le_refl _
end Go.Ae
