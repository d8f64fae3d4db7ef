/-
  A part of an evaluator of translated programs, and of the proof that what it answers is what the model says; no condition.
-/
import Derived.Test.YtnenpicelhkelaaGreatDoorAeOps
namespace Go.Ae
set_option linter.unusedVariables false
noncomputable section

inductive Ex where
  | normal
  | exit (id : Nat)
  | ret

structure Rec where
  call : FuncId → List AV → Hp → Option (AV × Hp)
  round : Nat → List AV → Hp → Option (AV × Hp)
  code : Option Nat → Code → FuncId → Fr → List ADef → Hp → Option (Ex × Fr × List ADef × Hp)

/-- What the caller supplies: answers of functions that are not gone through (no body, or a contract). -/
structure Hook where
  ext : FuncId → List AV → Option AV
  fn : FuncId → List AV → Hp → Option (AV × Hp)
  dfr : FuncId → List AV → Hp → Option Hp

inductive Go1 where
  | enter (f : FuncId) (args : List AV)
  | round (l : Nat) (args : List AV)
  | val (v : AV)

def callFn (P : Program) (K : Hook) (f : FuncId) (args : List AV) : Option Go1 :=
  match P.funcs[f]? with
  | some fn => (match fn.body with
    | some _ => (match fn.name == "runtime.NumGoroutine" with | true => none | false => some (.enter f args))
    | none => match K.ext f args with | some v => some (.val v) | none => none)
  | none => none
def invokeA (P : Program) (K : Hook) (fn : Fn) (cap args : List AV) : Option Go1 :=
  match fn with
  | .func f => callFn P K f (args ++ cap)
  | _ => none
def targetA (P : Program) (K : Hook) (F : Fr) (o : Oper) : Option Go1 :=
  match o.op with
  | .call { callee := .value g, args := xs, argTypes := _ } => (match aeval F g, aevals F xs.toList with
    | some (.func fn first cap), some args => invokeA P K fn cap (first ++ args)
    | some (.yieldf l), some args => some (.round l args)
    | _, _ => none)
  | _ => none
def goA (R : Rec) (K : Hook) (H : Hp) : Go1 → Option (AV × Hp)
  | .enter f args => (match K.fn f args H with
    | some r => some r
    | none => R.call f args H)
  | .round l args => R.round l args H
  | .val v => some (v, H)
def deferA (F : Fr) (o : Oper) : Option ADef :=
  match o.op with
  | .defer { callee := .value g, args := xs, argTypes := _ } => (match aeval F g, aevals F xs.toList with
    | some (.func fn first cap), some args => some (.call fn cap (first ++ args))
    | _, _ => none)
  | _ => none

inductive Cls where
  | pure | read | new | eff | call | defer | bad
def clsOf (o : Oper) : Cls :=
  match o.op with
  | .move _ | .assign _ | .pick .. | .build .. | .nilCheck _ | .binOp .. | .unOp .. | .makeInterface .. | .makeFunc .. | .fieldAddr .. | .field .. | .indexAddr .. | .index .. | .extract .. => .pure
  | .load .. | .slice .. | .lookup .. | .next .. => .read
  | .alloc _ | .box .. | .buildSlice .. | .makeMap .. | .makeSlice .. | .range .. => .new
  | .store .. | .insert .. | .mapUpdate .. => .eff
  | .convert .. => .bad
  | .call { callee := .builtin b, .. } => (match b with
    | .len | .min | .max => .pure
    | .append | .copy | .clear => .eff
    | _ => .bad)
  | .call _ => .call
  | .defer _ => .defer
  | _ => .bad
/-- What an operation comes to. -/
inductive Kd where
  | skip
  | pure
  | read
  | new (id : Nat) (ob : Ob)
  | eff (D : List ADef) (H : Hp)

def wantedA (ops : Array Oper) (F : Fr) (o : Oper) : Option Bool :=
  match o.guard with
  | none => some true
  | some (j, want) => match ops[j]? with
    | some oj => (match oj.dst with
      | some d => (match F.t.get d with
        | some (.bool b) => some (match b, want with | true, true | false, false => true | _, _ => false)
        | some _ => some false
        | none => none)
      | none => some false)
    | none => some false
def quietA (P : Program) (F : Fr) (H H0 : Hp) (id : Nat) (o : Oper) : Option (Kd × AV) :=
  match pureA P F o with
  | some v => some (.pure, v)
  | none => match readA P F H o with
    | some v => some (.read, v)
    | none => match newA P F H0 o id with
      | some (v, ob) => some (.new id ob, v)
      | none => none
/-- Memory is looked at where an operation has no answer without it. -/
def stepA (P : Program) (K : Hook) (R : Rec) (ro : Option Nat) (ops : Array Oper) (F : Fr) (D : List ADef) (H H0 : Hp) (id : Nat) (o : Oper) : Option (Kd × AV) :=
  match wantedA ops F o with
  | some false => some (.skip, undefA)
  | some true => (match clsOf o with
    | .eff => (match effA P F H o with | some (v, H') => some (.eff D H', v) | none => none)
    | .call => (match targetA P K F o with
      | some g => (match goA R K H g with | some (v, H') => some (.eff D H', v) | none => none)
      | none => none)
    | .defer => (match ro with
      | some _ => none
      | none => match deferA F o with | some d => some (.eff (d :: D) H, undefA) | none => none)
    | .new => (match newA P F H0 o id with | some (v, ob) => some (.new id ob, v) | none => none)
    | _ => quietA P F H H0 id o)
  | none => none
def putA (F : Fr) (dst : Option Tmp) (v : AV) : Option Fr := match dst with
  | some d => F.put d v
  | none => some F
def Kd.defers (D : List ADef) : Kd → List ADef
  | .eff D' _ => D'
  | _ => D
def Kd.heap (H : Hp) : Kd → Hp
  | .new id ob => match H with | ⟨n, t⟩ => ⟨n, t.put id ob⟩
  | .eff _ H' => H'
  | _ => H
/-- In the text's order. -/
def opsA (P : Program) (K : Hook) (R : Rec) (ro : Option Nat) (ops : Array Oper) : List Oper → Fr → List ADef → Hp → Option (Fr × List ADef × Hp)
  | [], F, D, H => some (F, D, H)
  | o :: l, F, D, H => match stepA P K R ro ops F D H H H.next o with
    | some (k, v) => (match putA F o.dst v with
      | some F' => (match k with
        | .skip | .pure | .read => opsA P K R ro ops l F' D H
        | .new _ ob => opsA P K R ro ops l F' D (H.new ob)
        | .eff D' H' => opsA P K R ro ops l F' D' H')
      | none => none)
    | none => none

/-! ### A region that draws its order -/
structure Rc where
  o : Oper
  looks : List Tmp
  F : Fr
  D : List ADef
  H : Hp
  an : Nat
  k : Kd
  v : AV
def mem : Nat → List Nat → Bool
  | _, [] => false
  | a, b :: l => match Nat.beq a b with | true => true | false => mem a l
def looksX : List Operand → List Tmp → List Tmp
  | [], l => l
  | .tmp t :: r, l => looksX r (t :: l)
  | _ :: r, l => looksX r l
def looksA (ops : Array Oper) (o : Oper) : List Tmp :=
  match o.guard with
  | none => looksX o.op.operands.toList []
  | some (g, _) => match ops[g]? with
    | some og => (match og.dst with | some d => looksX o.op.operands.toList [d] | none => looksX o.op.operands.toList [])
    | none => looksX o.op.operands.toList []
def onlyT (t : T AV) : List Tmp → T AV → T AV
  | [], r => r
  | x :: l, r => (match t.get x with
    | some v => onlyT t l (r.put x v)
    | none => onlyT t l r)
def bit (n i : Nat) : Bool := odd (Nat.shiftRight n i)
def nth : List Nat → Nat → Option Nat
  | [], _ => none
  | a :: _, 0 => some a
  | _ :: l, n + 1 => nth l n
/-- The operations that must come before: 'acc': the earlier ones' numbers, the last first; 'j': how many. -/
def anOf (acc : List Nat) (j : Nat) : List Edge → Nat → Option Nat
  | [], s => some s
  | e :: l, s => match Region.binds .any e with
    | false => anOf acc j l s
    | true => match Nat.blt e.on j with
      | false => none
      | true => match nth acc (j - 1 - e.on) with
        | some m => anOf acc j l (Nat.lor (Nat.lor s (Nat.pow 2 e.on)) m)
        | none => none
def sweep (P : Program) (K : Hook) (R : Rec) (ro : Option Nat) (ops : Array Oper) (base : Nat) : Nat → List Nat → List Oper → Fr → List ADef → Hp → Option (List Rc × Fr × List ADef × Hp)
  | _, _, [], F, D, H => some ([], F, D, H)
  | j, acc, o :: l, F, D, H => match anOf acc j o.after.toList 0 with
    | none => none
    | some an =>
      let lk := looksA ops o
      let F1 : Fr := match F with | ⟨n, t⟩ => ⟨n, onlyT t lk .leaf⟩
      match stepA P K R ro ops F1 D H ⟨H.next, .leaf⟩ (base + j) o with
      | some (k, v) => (match putA F o.dst v with
        | some F' => (match sweep P K R ro ops base (j + 1) (an :: acc) l F' (k.defers D) (k.heap H) with
          | some (rs, r) => some (⟨o, lk, F1, D, H, an, k, v⟩ :: rs, r)
          | none => none)
        | none => none)
      | none => none

def Kd.isEff : Kd → Bool | .eff _ _ => true | _ => false
def Kd.isNew : Kd → Bool | .new _ _ => true | _ => false
def hits (d : Option Tmp) (l : List Tmp) : Bool := match d with | some d => mem d l | none => false
def sameDst (a b : Option Tmp) : Bool := match a, b with | some a, some b => Nat.beq a b | _, _ => false
/-- Operation i, ahead of operation k in the text. -/
def pairOk (i : Nat) (a b : Rc) : Bool :=
  match sameDst a.o.dst b.o.dst with
  | true => false
  | false => match (match a.k, b.k with | .eff _ H, .new id _ => (match H.get id with | some _ => false | none => true) | _, _ => true) with
    | false => false
    | true => match bit b.an i with
      | true => true
      | false => match hits a.o.dst b.looks with
        | true => false
        | false => match hits b.o.dst a.looks with
          | true => false
          | false => match b.k.isEff with
            | false => true
            | true => match a.k.isEff with
              | true => false
              | false => match a.k.isNew with | true => false | false => true
def pairsOk (i : Nat) (a : Rc) : List Rc → Bool
  | [] => true
  | b :: l => match pairOk i a b with | true => pairsOk i a l | false => false
def allPairs : Nat → List Rc → Bool
  | _, [] => true
  | i, a :: l => match pairsOk i a l with | true => allPairs (i + 1) l | false => false

mutual
def aveq : AV → AV → Bool
  | .bool a, .bool b => (match a, b with | true, true | false, false => true | _, _ => false)
  | .int j a, .int k b => (match keq j k with | true => ieq a b | false => false)
  | .str a, .str b => leneq a b
  | .nilp, .nilp => true
  | .ptr a b, .ptr c d => (match Nat.beq a c with | true => Nat.beq b d | false => false)
  | .nils, .nils => true
  | .slice a b c (.known x), .slice a' b' c' (.known y) => (match Nat.beq a a', Nat.beq b b', Nat.beq c c' with | true, true, true => Nat.beq x y | _, _, _ => false)
  | .slice a b c (.toEnd x), .slice a' b' c' (.toEnd y) => (match Nat.beq a a', Nat.beq b b', Nat.beq c c' with | true, true, true => Nat.beq x y | _, _, _ => false)
  | .nilm, .nilm => true
  | .map a, .map b => Nat.beq a b
  | .nilc, .nilc => true
  | .chan a, .chan b => Nat.beq a b
  | .func (.func f) x y, .func (.func g) x' y' => (match Nat.beq f g with | true => (match aveqL x x' with | true => aveqL y y' | false => false) | false => false)
  | .yieldf a, .yieldf b => Nat.beq a b
  | .nilf, .nilf => true
  | .iface t v, .iface t' v' => (match Nat.beq t t' with | true => aveq v v' | false => false)
  | .nili, .nili => true
  | .agg l, .agg l' => aveqL l l'
  | .tup l, .tup l' => aveqL l l'
  | _, _ => false
def aveqL : List AV → List AV → Bool
  | [], [] => true
  | a :: l, b :: m => (match aveq a b with | true => aveqL l m | false => false)
  | _, _ => false
end
/-- An acting operation: its place, what must come before it, memory behind it; the last first. -/
def effsOf : Nat → List Rc → List (Nat × Nat × Hp) → List (Nat × Nat × Hp)
  | _, [], acc => acc
  | j, r :: l, acc => match r.k with
    | .eff _ H => effsOf (j + 1) l ((j, r.an, H) :: acc)
    | _ => effsOf (j + 1) l acc
def readOk (P : Program) (r : Rc) (H : Hp) : Bool := match readA P r.F H r.o with
  | some v => aveq v r.v
  | none => false
def scanR (P : Program) (j : Nat) (r : Rc) (H0 : Hp) : List (Nat × Nat × Hp) → Bool
  | [] => readOk P r H0
  | (e, ae, G) :: l => match bit ae j with
    | true => scanR P j r H0 l
    | false => match readOk P r G with
      | false => false
      | true => match bit r.an e with
        | true => true
        | false => scanR P j r H0 l
def readsOk (P : Program) (H0 : Hp) (effs : List (Nat × Nat × Hp)) : Nat → List Rc → Bool
  | _, [] => true
  | j, r :: l => match r.k with
    | .read => (match scanR P j r H0 effs with | true => readsOk P H0 effs (j + 1) l | false => false)
    | _ => readsOk P H0 effs (j + 1) l
def drawA (P : Program) (K : Hook) (R : Rec) (ro : Option Nat) (ops : Array Oper) (F : Fr) (D : List ADef) (H : Hp) : Option (Fr × List ADef × Hp) :=
  let H0 : Hp := { H with next := H.next + ops.size }
  match sweep P K R ro ops H.next 0 [] ops.toList F D H0 with
  | some (rs, r) => (match allPairs 0 rs with
    | true => (match readsOk P H0 (effsOf 0 rs []) 0 rs with
      | true => some r
      | false => none)
    | false => none)
  | none => none

def codeA (P : Program) (K : Hook) (R : Rec) (ro : Option Nat) (c : Code) (f : FuncId) (F : Fr) (D : List ADef) (H : Hp) : Option (Ex × Fr × List ADef × Hp) :=
  match c with
  | .skip | .label _ => some (.normal, F, D, H)
  | .region _ ops false => (match opsA P K R ro ops ops.toList F D H with
    | some (F', D', H') => some (.normal, F', D', H')
    | none => none)
  | .region _ ops true => (match drawA P K R ro ops F D H with
    | some (F', D', H') => some (.normal, F', D', H')
    | none => none)
  | .seq a b => (match R.code ro a f F D H with
    | some (.normal, F', D', H') => R.code ro b f F' D' H'
    | r => r)
  | .cond x a b => (match aeval F x with
    | some (.bool true) => R.code ro a f F D H
    | some (.bool false) => R.code ro b f F D H
    | _ => none)
  | .block id a => (match R.code ro a f F D H with
    | some (.exit id', F', D', H') => (match Nat.beq id' id with
      | true => some (.normal, F', D', H')
      | false => some (.exit id', F', D', H'))
    | r => r)
  | .loop a => (match R.code ro a f F D H with
    | some (.normal, F', D', H') => R.code ro c f F' D' H'
    | r => r)
  | .scope a => R.code ro a f F D H
  | .exit id => some (.exit id, F, D, H)
  | .ret => some (.ret, F, D, H)
  | .rangeFunc g ps assign body => (match aeval F g with
    | some (.func fn first cap) =>
      let open1 : Option (Nat × List ADef × Hp) := match ro with
        | some l => (match H.get l with | some (.loop _ _ _ _ _ _ _ r) => some (r, D, H) | _ => none)
        | none => some (H.next, .mark H.next :: D, H.new (.deferred true))
      (match open1 with
        | some (r, D', H1) =>
          let l := H1.next
          let H2 := H1.new (.loop .ready none f F ps.toList assign body r)
          (match invokeA P K fn cap (first ++ [.yieldf l]) with
            | some (.enter g args) => (match R.call g args H2 with
              | some (_, H3) => (match H3.get l with
                | some (.loop st pend f' F' ps' as' bo' r') => (match st with
                  | .busy => none
                  | _ =>
                    let H4 := H3.put l (.loop .exhausted pend f' F' ps' as' bo' r')
                    match pend with
                    | none => some (.normal, F, D', H4)
                    | some .ret => some (.ret, F, D', H4)
                    | some (.exit id) => some (.exit id, F, D', H4)
                    | some _ => none)
                | _ => none)
              | none => none)
            | _ => none)
        | none => none)
    | _ => none)
  | _ => none

def zipPut (F : Fr) : List Tmp → List AV → Option Fr
  | [], [] => some F
  | t :: ts, v :: vs => (match F.put t v with | some F' => zipPut F' ts vs | none => none)
  | _, _ => none
def roundA (R : Rec) (l : Nat) (args : List AV) (H : Hp) : Option (AV × Hp) :=
  match H.get l with
  | some (.loop .ready pend f F ps assign body r) => (match zipPut F ps args with
    | some F1 => (match R.code (some l) assign f F1 [] H with
      | some (.normal, F2, [], H2) => (match H2.get l with
        | some (.loop .ready pend' f' F' ps' as' bo' r') =>
          (match R.code (some l) body f F2 [] (H2.put l (.loop .busy pend' f' F' ps' as' bo' r')) with
            | some (e, _, [], H3) => (match H3.get l with
              | some (.loop _ _ f3 F3 ps3 as3 bo3 r3) => (match e with
                | .normal => some (.bool true, H3.put l (.loop .ready none f3 F3 ps3 as3 bo3 r3))
                | .ret => some (.bool false, H3.put l (.loop .done (some .ret) f3 F3 ps3 as3 bo3 r3))
                | .exit id => some (.bool false, H3.put l (.loop .done (some (.exit id)) f3 F3 ps3 as3 bo3 r3)))
              | _ => none)
            | _ => none)
        | _ => none)
      | _ => none)
    | none => none)
  | _ => none

def putArgs : List AV → Nat → T AV → T AV
  | [], _, t => t
  | v :: l, i, t => putArgs l (i + 1) (t.put i v)
def resultsA (P : Program) (F : Fr) (H : Hp) : List ResultVar → Option (List AV)
  | [] => some []
  | .tmp t :: l => (match F.t.get t, resultsA P F H l with
    | some v, some r => some (v :: r)
    | _, _ => none)
  | .cell a t :: l => (match F.t.get a, resultsA P F H l with
    | some (.ptr b off), some r => (match loadA P H t b off with
      | some v => some (v :: r)
      | none => none)
    | _, _ => none)
def oneOr : List AV → AV
  | [v] => v
  | l => .tup l
/-- Deferred calls: those whose answer the hook knows. -/
def leaveA (P : Program) (K : Hook) : List ADef → Hp → Option Hp
  | [], H => some H
  | .mark b :: D, H => (match H.get b with
    | some (.deferred true) => leaveA P K D (H.put b (.deferred false))
    | _ => none)
  | .call fn cap args :: D, H => (match invokeA P K fn cap args with
    | some (.enter f args) => (match K.dfr f args H with
      | some H' => leaveA P K D H'
      | none => none)
    | _ => none)
def callA (P : Program) (K : Hook) (R : Rec) (f : FuncId) (args : List AV) (H : Hp) : Option (AV × Hp) :=
  match P.funcs[f]? with
  | some fn => (match fn.body with
    | some c =>
      let F : Fr := { size := Nat.max args.length fn.ntmps, t := putArgs args 0 .leaf }
      (match R.code none c f F [] H with
        | some (e, F', D, H') => (match e with
          | .exit _ => none
          | _ => match leaveA P K D H' with
            | some H'' => (match resultsA P F' H'' fn.results.toList with
              | some l => some (oneOr l, H'')
              | none => none)
            | none => none)
        | none => none)
    | none => none)
  | none => none

def stepR (P : Program) (K : Hook) (R : Rec) : Rec where
  call := callA P K R
  round := roundA R
  code := codeA P K R
def none3 : Rec := ⟨fun _ _ _ => none, fun _ _ _ => none, fun _ _ _ _ _ _ => none⟩
def run (P : Program) (K : Hook) (n : Nat) : Rec := Nat.rec (motive := fun _ => Rec) none3 (fun _ R => stepR P K R) n
def hp0 : Hp := ⟨0, .leaf⟩
end
end Go.Ae
