/-
  A part of an evaluator of translated programs, and of the proof that what it answers is what the model says; no condition.
-/
import Derived.RangeFuncIn
import Derived.RangeFuncLeaves
import Derived.OrdersIn
import Derived.KernelRfl
namespace Go.Ae
noncomputable section

/-! ### a finite map by numbers -/
inductive T (α : Type) where
  | leaf
  | node (v : Option α) (l r : T α)

def odd (j : Nat) : Bool := Nat.beq (Nat.land j 1) 1
def half (j : Nat) : Nat := Nat.shiftRight j 1

def T.get {α : Type} (t : T α) : Nat → Option α :=
  T.rec (motive := fun _ => Nat → Option α) (fun _ => none) (fun v _ _ ihl ihr j =>
    Nat.rec (motive := fun _ => Option α) v (fun j' _ => Bool.rec (motive := fun _ => Option α) (ihl (half j')) (ihr (half j')) (odd j')) j) t

def T.set {α : Type} (x : Option α) (f : Nat) : Nat → T α → T α :=
  Nat.rec (motive := fun _ => Nat → T α → T α) (fun _ t => t) (fun _ ih i t => T.rec (motive := fun _ => T α)
    (Nat.rec (motive := fun _ => T α) (.node x .leaf .leaf) (fun j _ => Bool.rec (motive := fun _ => T α) (.node none (ih (half j) .leaf) .leaf) (.node none .leaf (ih (half j) .leaf)) (odd j)) i)
    (fun v l r _ _ => Nat.rec (motive := fun _ => T α) (.node x l r) (fun j _ => Bool.rec (motive := fun _ => T α) (.node v (ih (half j) l) r) (.node v l (ih (half j) r)) (odd j)) i) t) f
def T.put {α : Type} (t : T α) (i : Nat) (x : α) : T α := T.set (some x) (i + 1) i t
def T.del {α : Type} (t : T α) (i : Nat) : T α := T.set none (i + 1) i t

/-! ### values, memory, frames -/
inductive Cp where
  | known (c : Nat)
  | toEnd (z : Nat)

inductive AV where
  | bool (b : Bool)
  | int (k : IntKind) (n : Int)
  | str (s : List Nat)
  | nilp
  | ptr (b off : Nat)
  | nils
  | slice (b off len : Nat) (cap : Cp)
  | nilm
  | map (b : Nat)
  | nilc
  | chan (b : Nat)
  | func (fn : Fn) (first captured : List AV)
  | yieldf (l : Nat)
  | nilf
  | iface (t : TypeId) (v : AV)
  | nili
  | agg (l : List AV)
  | tup (l : List AV)

structure En where
  key : AV
  val : AV
  born : Nat

inductive ADef where
  | mark (b : Nat)
  | call (fn : Fn) (captured args : List AV)

structure Fr where
  size : Nat
  t : T AV

inductive Ob where
  | cells (e : TypeId) (opn : Bool) (c : List AV)
  | map (es : List En) (clock : Nat)
  | mapIter (m : Option Nat) (since : Nat) (seen : List Nat) (stepped : Nat)
  | loop (state : LoopState) (pending : Option Code) (fn : FuncId) (F : Fr) (params : List Tmp) (assign body : Code) (defers : Nat)
  | deferred (some : Bool)

structure Hp where
  next : Nat
  t : T Ob

def Hp.get (H : Hp) (b : Nat) : Option Ob := H.t.get b
def Hp.put (H : Hp) (b : Nat) (o : Ob) : Hp := match H with | ⟨n, t⟩ => ⟨n, t.put b o⟩
def Hp.del (H : Hp) (b : Nat) : Hp := match H with | ⟨n, t⟩ => ⟨n, t.del b⟩
def Hp.new (H : Hp) (o : Ob) : Hp := match H with | ⟨n, t⟩ => ⟨n + 1, t.put n o⟩
def Fr.put (F : Fr) (d : Nat) (v : AV) : Option Fr := match F with
  | ⟨n, t⟩ => (match Nat.blt d n with
    | true => some ⟨n, t.put d v⟩
    | false => none)

def undefA : AV := .tup []

/-! ### lists -/
def lget {α : Type} : List α → Nat → Option α
  | [], _ => none
  | a :: _, 0 => some a
  | _ :: l, i + 1 => lget l i
/-- Exactly so many. -/
def takeN {α : Type} (n : Nat) : List α → Option (List α) :=
  Nat.rec (motive := fun _ => List α → Option (List α)) (fun _ => some []) (fun _ ih l =>
    List.rec (motive := fun _ => Option (List α)) none (fun a l' _ => Option.rec (motive := fun _ => Option (List α)) none (fun r => some (a :: r)) (ih l')) l) n
/-- Cells laid over others, from a place on. -/
def over {α : Type} : List α → List α → Option (List α)
  | [], l => some l
  | _ :: _, [] => none
  | a :: n, _ :: l => match over n l with
    | some r => some (a :: r)
    | none => none
def splice {α : Type} (n : List α) : Nat → List α → Option (List α)
  | 0, l => over n l
  | _ + 1, [] => none
  | i + 1, a :: l => match splice n i l with
    | some r => some (a :: r)
    | none => none
def dropA {α : Type} (n : Nat) : List α → List α :=
  Nat.rec (motive := fun _ => List α → List α) (fun l => l) (fun _ ih l => List.rec (motive := fun _ => List α) [] (fun _ l' _ => ih l') l) n
def rep {α : Type} (x : List α) : Nat → List α
  | 0 => []
  | n + 1 => x ++ rep x n
def leneq : List Nat → List Nat → Bool
  | [], [] => true
  | a :: l, b :: m => match Nat.beq a b with | true => leneq l m | false => false
  | _, _ => false
def lenlt : List Nat → List Nat → Bool
  | _, [] => false
  | [], _ :: _ => true
  | a :: l, b :: m => match Nat.blt a b with
    | true => true
    | false => match Nat.beq a b with | true => lenlt l m | false => false

/-! ### constants -/
def ofBytes (s : ByteArray) : List Nat := s.data.toList.map UInt8.toNat
def ofV1 : Value → Option AV
  | .bool b => some (.bool b)
  | .int k n => some (.int k n)
  | .string s => some (.str (ofBytes s))
  | .pointer none => some .nilp
  | .slice none 0 0 => some .nils
  | .map none => some .nilm
  | .chan none => some .nilc
  | .nilFunc => some .nilf
  | .nilIface => some .nili
  | _ => none
def ofVL : List Value → Option (List AV)
  | [] => some []
  | v :: l => match ofV1 v, ofVL l with
    | some a, some r => some (a :: r)
    | _, _ => none
def ofV : Value → Option AV
  | .agg cs => (match ofVL cs.toList with | some l => some (.agg l) | none => none)
  | .tuple cs => (match ofVL cs.toList with | some l => some (.tup l) | none => none)
  | v => ofV1 v

/-! ### whole numbers -/
def ieq : Int → Int → Bool
  | .ofNat a, .ofNat b => Nat.beq a b
  | .negSucc a, .negSucc b => Nat.beq a b
  | _, _ => false
def ilt : Int → Int → Bool
  | .ofNat a, .ofNat b => Nat.blt a b
  | .negSucc a, .negSucc b => Nat.blt b a
  | .negSucc _, .ofNat _ => true
  | .ofNat _, .negSucc _ => false
def fits : IntKind → Int → Bool
  | .i64, .ofNat a => Nat.blt a 9223372036854775808
  | .i64, .negSucc a => Nat.blt a 9223372036854775808
  | .u8, .ofNat a => Nat.blt a 256
  | .u64, .ofNat a => Nat.blt a 18446744073709551616
  | .i32, .ofNat a => Nat.blt a 2147483648
  | .i32, .negSucc a => Nat.blt a 2147483648
  | _, _ => false
def wr (k : IntKind) (n : Int) : Int := match fits k n with
  | true => n
  | false => k.wrap n
def isZero : Int → Bool
  | .ofNat 0 => true
  | _ => false
def ibin (op : BinOp) (k : IntKind) (x y : Int) : Option AV :=
  match op with
  | .add => some (.int k (wr k (x + y)))
  | .sub => some (.int k (wr k (x - y)))
  | .mul => some (.int k (wr k (x * y)))
  | .quo => (match isZero y with | true => none | false => some (.int k (wr k (x.tdiv y))))
  | .rem => (match isZero y with | true => none | false => some (.int k (x.tmod y)))
  | .and => some (.int k (k.wrap (BitVec.ofInt k.bits x &&& BitVec.ofInt k.bits y).toNat))
  | .or => some (.int k (k.wrap (BitVec.ofInt k.bits x ||| BitVec.ofInt k.bits y).toNat))
  | .xor => some (.int k (k.wrap (BitVec.ofInt k.bits x ^^^ BitVec.ofInt k.bits y).toNat))
  | .eql => some (.bool (ieq x y))
  | .neq => some (.bool (!ieq x y))
  | .lss => some (.bool (ilt x y))
  | .leq => some (.bool (!ilt y x))
  | .gtr => some (.bool (ilt y x))
  | .geq => some (.bool (!ilt x y))
  | _ => none
def ishift (op : BinOp) (k : IntKind) (x y : Int) : Option AV :=
  match y with
  | .negSucc _ => none
  | .ofNat m =>
    match op with
    | .shl => some (.int k (k.wrap (x * 2 ^ min m k.bits)))
    | .shr => some (.int k (x.fdiv (2 ^ min m k.bits)))
    | _ => none
def sbin (op : BinOp) (x y : List Nat) : Option AV :=
  match op with
  | .add => (match Nat.ble (x.length + y.length) 1073741824 with | true => some (.str (x ++ y)) | false => none)
  | .eql => some (.bool (leneq x y))
  | .neq => some (.bool (!leneq x y))
  | .lss => some (.bool (lenlt x y))
  | .leq => some (.bool (lenlt x y || leneq x y))
  | .gtr => some (.bool (!(lenlt x y || leneq x y)))
  | .geq => some (.bool (!lenlt x y))
  | _ => none
def keq : IntKind → IntKind → Bool
  | .i8, .i8 | .i16, .i16 | .i32, .i32 | .i64, .i64 | .u8, .u8 | .u16, .u16 | .u32, .u32 | .u64, .u64 => true
  | _, _ => false

/-! ### types -/
def aggD : TypeDesc → Bool
  | .struct _ | .array _ _ => true
  | _ => false
def isAggA (P : Program) (t : TypeId) : Option Bool := match P.underlying t with
  | some d => some (aggD d)
  | none => none
def sizeA (P : Program) (t : TypeId) : Option Nat := match P.info? t with
  | some i => some i.size
  | none => none
def zeroA (P : Program) (t : TypeId) : Option AV := match P.info? t with
  | some i => (match i.zero with | some v => ofV v | none => none)
  | none => none
def cellsA : AV → List AV
  | .agg l => l
  | v => [v]
def atom : AV → Bool
  | .agg _ | .tup _ => false
  | _ => true
def atoms : List AV → Bool
  | [] => true
  | a :: l => match atom a with | true => atoms l | false => false
def partA (P : Program) (t : TypeId) (cs : List AV) (off : Nat) : Option AV :=
  match isAggA P t with
  | some true => (match sizeA P t with
    | some n => (match takeN n (dropA off cs) with | some l => some (.agg l) | none => none)
    | none => none)
  | some false => lget cs off
  | none => none

/-! ### equality -/
def peq (b o b' o' : Nat) : Option Bool := match Nat.beq b b' with
  | true => some (Nat.beq o o')
  | false => none
mutual
def aeq (P : Program) : Nat → TypeId → AV → AV → Option Bool
  | 0, _, _, _ => none
  | d + 1, t, x, y =>
    match P.underlying t, x, y with
    | some .bool, .bool a, .bool b => some (match a, b with | true, true | false, false => true | _, _ => false)
    | some (.int _), .int k a, .int k' b => (match keq k k' with | true => some (ieq a b) | false => none)
    | some .string, .str a, .str b => some (leneq a b)
    | some (.pointer _), .nilp, .nilp => some true
    | some (.pointer _), .nilp, .ptr _ _ => some false
    | some (.pointer _), .ptr _ _, .nilp => some false
    | some (.interface _), .nili, .nili => some true
    | some (.interface _), .nili, .iface _ _ => some false
    | some (.interface _), .iface _ _, .nili => some false
    | some (.struct fs), .agg xs, .agg ys => (match P.stoodInHeld t with
      | true => none
      | false => aeqF P d fs.toList xs ys)
    | some (.slice _), .nils, .nils => some true
    | some (.slice _), .nils, .slice _ _ _ _ => some false
    | some (.slice _), .slice _ _ _ _, .nils => some false
    | some (.map _ _), .nilm, .nilm => some true
    | some (.map _ _), .nilm, .map _ => some false
    | some (.map _ _), .map _, .nilm => some false
    | some (.func _ _ _), .nilf, .nilf => some true
    | _, _, _ => none
def aeqF (P : Program) : Nat → List Field → List AV → List AV → Option Bool
  | _, [], _, _ => some true
  | 0, _ :: _, _, _ => none
  | d + 1, f :: fs, xs, ys =>
    match f.name == "_" with
    | true => aeqF P d fs xs ys
    | false => match partA P f.type xs f.offset, partA P f.type ys f.offset with
      | some x, some y => (match aeq P d f.type x y with
        | some true => aeqF P d fs xs ys
        | some false => some false
        | none => none)
      | _, _ => none
end
