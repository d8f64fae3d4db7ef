/-
  A part of an evaluator of translated programs, and of the proof that what it answers is what the model says; no condition.
-/
import Derived.Test.YtnenpicelhkelaaGreatDoorAeDefs
namespace Go.Ae
noncomputable section

def aeval (F : Fr) : Operand → Option AV
  | .tmp t => F.t.get t
  | .const v => ofV v
  | .global _ => none
  | .func f => some (.func (.func f) [] [])
def aevals (F : Fr) : List Operand → Option (List AV)
  | [] => some []
  | x :: l => match aeval F x, aevals F l with
    | some a, some r => some (a :: r)
    | _, _ => none
def aevalO (F : Fr) : Option Operand → Option (Option AV)
  | none => some none
  | some x => match aeval F x with
    | some v => some (some v)
    | none => none

/-! ### struct and array values -/
def allInfo (P : Program) : List Field → Bool
  | [] => true
  | f :: fs => match sizeA P f.type with
    | some _ => allInfo P fs
    | none => false
def fillA (place : Nat → Option (Nat × Nat)) (cells : List AV) : List (Nat × AV) → Option (List AV)
  | [] => some cells
  | (i, v) :: rest => match place i with
    | none => none
    | some (off, size) => match Nat.beq (cellsA v).length size with
      | true => (match splice (cellsA v) off cells with
        | some cs => fillA place cs rest
        | none => none)
      | false => none
def partsA (F : Fr) : List (Nat × Operand) → Option (List (Nat × AV))
  | [] => some []
  | (i, x) :: l => match aeval F x, partsA F l with
    | some a, some r => some ((i, a) :: r)
    | _, _ => none
def placeS (P : Program) (fs : Array Field) (i : Nat) : Option (Nat × Nat) := match fs[i]? with
  | some f => (match sizeA P f.type with | some s => some (f.offset, s) | none => none)
  | none => none
def buildA (P : Program) (F : Fr) (t : TypeId) (parts : Array (Nat × Operand)) : Option AV :=
  match zeroA P t, partsA F parts.toList with
  | some z, some ps => (match P.underlying t with
    | some (.struct fs) => (match allInfo P fs.toList with
      | true => (match fillA (placeS P fs) (cellsA z) ps with | some cs => some (.agg cs) | none => none)
      | false => none)
    | some (.array _ e) => (match sizeA P e with
      | some s => (match fillA (fun i => some (i * s, s)) (cellsA z) ps with | some cs => some (.agg cs) | none => none)
      | none => none)
    | _ => none)
  | _, _ => none

def idx (i : Int) (n : Nat) : Option Nat := match i with
  | .ofNat a => (match Nat.blt a n with | true => some a | false => none)
  | .negSucc _ => none
/-- A bound of a slice expression: at most n. -/
def bnd (x : Option AV) (dflt n : Nat) : Option Nat := match x with
  | none => some dflt
  | some (.int _ (.ofNat a)) => (match Nat.ble a n with | true => some a | false => none)
  | _ => none

/-! ### operations that look at no memory -/
def isC : Operand → Bool
  | .const _ => true
  | _ => false
def guardA (P : Program) (op : BinOp) (t : TypeId) (x y : Operand) (a b : AV) : Bool :=
  match op with
  | .eql | .neq => (match a, b with
    | .nili, .nili => isC x || isC y
    | .agg _, .agg _ => !(P.eqGuardType P.depth t)
    | _, _ => true)
  | _ => true
def binA (P : Program) (op : BinOp) (t : TypeId) (a b : AV) : Option AV :=
  match a, b with
  | .int k x, .int k' y => (match op with
    | .shl | .shr => ishift op k x y
    | op => match keq k k' with | true => ibin op k x y | false => none)
  | .str x, .str y => sbin op x y
  | a, b => match op with
    | .eql => (match aeq P 60 t a b with | some r => some (.bool r) | none => none)
    | .neq => (match aeq P 60 t a b with | some r => some (.bool (!r)) | none => none)
    | _ => none
def minA : AV → List AV → Option AV
  | a, [] => some a
  | .int k x, .int _ y :: l => minA (.int k (match ilt y x with | true => y | false => x)) l
  | _, _ => none
def maxA : AV → List AV → Option AV
  | a, [] => some a
  | .int k x, .int _ y :: l => maxA (.int k (match ilt x y with | true => y | false => x)) l
  | _, _ => none
def pureA (P : Program) (F : Fr) (o : Oper) : Option AV :=
  match o.op with
  | .move x | .assign x => aeval F x
  | .pick c a b => (match aeval F c with
    | some (.bool true) => aeval F a
    | some (.bool false) => aeval F b
    | _ => none)
  | .build t parts => buildA P F t parts
  | .nilCheck x => (match aeval F x with
    | some (.ptr b f) => some (.ptr b f)
    | some (.iface t v) => some (.iface t v)
    | some (.func (.func g) a b) => some (.func (.func g) a b)
    | some (.func (.methodOf t n) a b) => some (.func (.methodOf t n) a b)
    | _ => none)
  | .binOp op t x y _ => (match aeval F x, aeval F y with
    | some a, some b => (match guardA P op t x y a b with
      | true => binA P op t a b
      | false => none)
    | _, _ => none)
  | .unOp op _ x => (match op, aeval F x with
    | .not, some (.bool b) => some (.bool (!b))
    | .neg, some (.int k n) => some (.int k (k.wrap (0 - n)))
    | _, _ => none)
  | .convert s d x => (match P.underlying s, P.underlying d, aeval F x with
    | some _, some (.int k), some (.int _ n) => some (.int k (wr k n))
    | some _, some .string, some (.str l) => some (.str l)
    | _, _, _ => none)
  | .makeInterface t x => (match P.underlying t, aeval F x with
    | some (.interface _), _ => none
    | some _, some v => some (.iface t v)
    | _, _ => none)
  | .makeFunc fn first cap => (match fn, aevals F first.toList, aevals F cap.toList with
    | .yield _, _, _ => none
    | fn, some a, some b => some (.func fn a b)
    | _, _, _ => none)
  | .fieldAddr t x f => (match P.underlying t, aeval F x with
    | some (.struct fs), some (.ptr b off) => (match fs[f]? with
      | some fd => (match sizeA P fd.type with
        | some (_ + 1) => some (.ptr b (off + fd.offset))
        | _ => none)
      | none => none)
    | _, _ => none)
  | .field t x f => (match P.underlying t, aeval F x with
    | some (.struct fs), some (.agg cs) => (match fs[f]? with
      | some fd => partA P fd.type cs fd.offset
      | none => none)
    | _, _ => none)
  | .indexAddr t x i => (match P.underlying t, aeval F x, aeval F i with
    | some (.array n e), some (.ptr b off), some (.int _ i) => (match idx i n, sizeA P e with
      | some j, some s => some (.ptr b (off + j * s))
      | _, _ => none)
    | some (.slice e), some (.slice b off n _), some (.int _ i) => (match idx i n, sizeA P e with
      | some j, some s => some (.ptr b (off + j * s))
      | _, _ => none)
    | _, _, _ => none)
  | .index t x i => (match P.underlying t, aeval F x, aeval F i with
    | some (.array n e), some (.agg cs), some (.int _ i) => (match idx i n, sizeA P e with
      | some j, some s => partA P e cs (j * s)
      | _, _ => none)
    | some .string, some (.str l), some (.int _ (.ofNat j)) => (match lget l j with
      | some c => some (.int .u8 (Int.ofNat c))
      | none => none)
    | _, _, _ => none)
  | .extract x i => (match aeval F x with
    | some (.tup l) => lget l i
    | _ => none)
  | .call { callee := .builtin .len, args := xs, argTypes := ts } => (match ts[0]?, aevals F xs.toList with
    | some t, some (x :: _) => (match P.underlying t, x with
      | some .string, .str l => some (.int .i64 (Int.ofNat l.length))
      | some (.array n _), _ => some (.int .i64 (Int.ofNat n))
      | some (.slice _), .slice _ _ n _ => some (.int .i64 (Int.ofNat n))
      | some (.slice _), .nils => some (.int .i64 (Int.ofNat 0))
      | some (.map _ _), .nilm => some (.int .i64 (Int.ofNat 0))
      | some (.pointer a), _ => (match P.underlying a with
        | some (.array n _) => some (.int .i64 (Int.ofNat n))
        | _ => none)
      | _, _ => none)
    | _, _ => none)
  | .call { callee := .builtin .min, args := xs, argTypes := _ } => (match aevals F xs.toList with
    | some (x :: l) => minA x l
    | _ => none)
  | .call { callee := .builtin .max, args := xs, argTypes := _ } => (match aevals F xs.toList with
    | some (x :: l) => maxA x l
    | _ => none)
  | _ => none

/-! ### operations that read memory -/
def cellsOf (H : Hp) (b : Nat) : Option (List AV) := match H.get b with
  | some (.cells _ _ c) => some c
  | _ => none
def rowA (H : Hp) (b off n : Nat) : Option (List AV) := match cellsOf H b with
  | some c => takeN n (dropA off c)
  | none => none
def loadA (P : Program) (H : Hp) (t : TypeId) (b off : Nat) : Option AV :=
  match isAggA P t, sizeA P t with
  | some true, some n => (match rowA H b off n with | some l => some (.agg l) | none => none)
  | some false, some _ => (match cellsOf H b with | some c => lget c off | none => none)
  | _, _ => none
def bytesA : List AV → Option (List Nat)
  | [] => some []
  | .int .u8 (.ofNat n) :: l => (match Nat.blt n 256, bytesA l with
    | true, some r => some (n :: r)
    | _, _ => none)
  | _ => none
def findA (P : Program) (kt : TypeId) (k : AV) : List En → Option (Option AV)
  | [] => some none
  | e :: es => match aeq P 60 kt k e.key with
    | some true => some (some e.val)
    | some false => findA P kt k es
    | none => none
/-- Keys that can be looked up: numbers, strings, bools. -/
def plainKey : TypeDesc → AV → Bool
  | .int _, .int _ _ => true
  | .string, .str _ => true
  | _, _ => false
def entriesA (H : Hp) : AV → Option (List En)
  | .nilm => some []
  | .map b => (match H.get b with | some (.map es _) => some es | _ => none)
  | _ => none
def sliceA (P : Program) (H : Hp) (t : TypeId) (x : AV) (lo hi mx : Option AV) : Option AV :=
  match P.underlying t, x with
  | some (.array n e), .ptr b off => (match sizeA P e, bnd mx n n with
    | some z, some m => (match bnd hi n m with
      | some h => (match bnd lo 0 h with
        | some l => (match Nat.beq m l with
          | true => some (.slice b off (h - l) (.known (m - l)))
          | false => some (.slice b (off + l * z) (h - l) (.known (m - l))))
        | none => none)
      | none => none)
    | _, _ => none)
  | some .string, .str s => (match mx with
    | some _ => none
    | none => match bnd hi s.length s.length with
      | some h => (match bnd lo 0 h with
        | some l => (match takeN (h - l) (dropA l s) with | some r => some (.str r) | none => none)
        | none => none)
      | none => none)
  | some (.slice e), .nils => (match sizeA P e, bnd mx 0 0, bnd hi 0 0, bnd lo 0 0 with
    | some _, some _, some _, some _ => some .nils
    | _, _, _, _ => none)
  | some (.slice e), .slice b off len (.known c) => (match sizeA P e, bnd mx c c with
    | some z, some m => (match bnd hi len m with
      | some h => (match bnd lo 0 h with
        | some l => (match Nat.beq m l with
          | true => some (.slice b off (h - l) (.known (m - l)))
          | false => some (.slice b (off + l * z) (h - l) (.known (m - l))))
        | none => none)
      | none => none)
    | _, _ => none)
  | some (.slice e), .slice b off len (.toEnd z) => (match sizeA P e, cellsOf H b, mx with
    | some (z' + 1), some c, none => (match Nat.beq z (z' + 1), Nat.ble (off + len * z) c.length, bnd hi len len with
      | true, true, some h => (match bnd lo 0 h with
        | some 0 => some (.slice b off h (.toEnd z))
        | some (l + 1) => (match Nat.blt (l + 1) len with
          | true => some (.slice b (off + (l + 1) * z) (h - (l + 1)) (.toEnd z))
          | false => none)
        | none => none)
      | _, _, _ => none)
    | some (z' + 1), some c, some mv => (match Nat.beq z (z' + 1), Nat.ble (off + len * z) c.length, bnd (some mv) 0 len with
      | true, true, some m => (match bnd hi len m with
        | some h => (match bnd lo 0 h with
          | some l => (match Nat.beq m l with
            | true => some (.slice b off (h - l) (.known (m - l)))
            | false => some (.slice b (off + l * z) (h - l) (.known (m - l))))
          | none => none)
        | none => none)
      | _, _, _ => none)
    | _, _, _ => none)
  | _, _ => none
def readA (P : Program) (F : Fr) (H : Hp) (o : Oper) : Option AV :=
  match o.op with
  | .load t a => (match aeval F a with
    | some (.ptr b off) => loadA P H t b off
    | _ => none)
  | .slice t x lo hi mx => (match aeval F x, aevalO F lo, aevalO F hi, aevalO F mx with
    | some _, some _, some none, some (some _) => none
    | some x, some lo, some hi, some mx => sliceA P H t x lo hi mx
    | _, _, _, _ => none)
  | .lookup t m k ok => (match P.underlying t, aeval F m, aeval F k with
    | some (.map kt et), some m, some k => (match P.underlying kt, entriesA H m with
      | some kd, some es => (match plainKey kd k with
        | true => (match findA P kt k es with
          | some (some v) => some (match ok with | true => .tup [v, .bool true] | false => v)
          | some none => (match zeroA P et with
            | some z => some (match ok with | true => .tup [z, .bool false] | false => z)
            | none => none)
          | none => none)
        | false => none)
      | _, _ => none)
    | _, _, _ => none)
  | .convert s d x => (match P.underlying s, P.underlying d, aeval F x with
    | some (.slice e), some .string, some (.slice b off n _) => (match P.underlying e with
      | some (.int .u8) => (match rowA H b off n with
        | some l => (match bytesA l with | some s => some (.str s) | none => none)
        | none => none)
      | _ => none)
    | some (.slice e), some .string, some .nils => (match P.underlying e with
      | some (.int .u8) => some (.str [])
      | _ => none)
    | _, _, _ => none)
  | .call { callee := .builtin .len, args := xs, argTypes := ts } => (match ts[0]?, aevals F xs.toList with
    | some t, some (.map b :: _) => (match P.underlying t, H.get b with
      | some (.map _ _), some (.map es _) => some (.int .i64 (Int.ofNat es.length))
      | _, _ => none)
    | _, _ => none)
  | .next it isStr => (match isStr, aeval F it with
    | false, some (.ptr b 0) => (match H.get b with
      | some (.mapIter none _ _ _) => some (.tup [.bool false])
      | some (.mapIter (some m) _ _ _) => (match H.get m with
        | some (.map [] _) => some (.tup [.bool false])
        | _ => none)
      | _ => none)
    | _, _ => none)
  | _ => none

/-! ### operations that make a block -/
def newA (P : Program) (F : Fr) (H : Hp) (o : Oper) (id : Nat) : Option (AV × Ob) :=
  match o.op with
  | .alloc t => (match zeroA P t with
    | some z => some (.ptr id 0, .cells t false (cellsA z))
    | none => none)
  | .box t x => (match aeval F x with
    | some v => some (.ptr id 0, .cells t false (cellsA v))
    | none => none)
  | .buildSlice t n parts => (match P.underlying t with
    | some (.slice e) => (match sizeA P e, zeroA P e, partsA F parts.toList with
      | some s, some z, some ps => (match Nat.beq (cellsA z).length s, Nat.ble (n * s) 16777216 with
        | true, true => (match fillA (fun i => some (i * s, s)) (rep (cellsA z) n) ps with
          | some cs => some (.slice id 0 n (.known n), .cells e false cs)
          | none => none)
        | _, _ => none)
      | _, _, _ => none)
    | _ => none)
  | .makeMap t r => (match P.underlying t, aevalO F r with
    | some (.map _ _), some none => some (.map id, .map [] 0)
    | some (.map _ _), some (some (.int _ _)) => some (.map id, .map [] 0)
    | _, _ => none)
  | .makeSlice t l c => (match P.underlying t, aeval F l, aeval F c with
    | some (.slice e), some (.int _ (.ofNat l)), some (.int _ (.ofNat c)) => (match P.info? e, zeroA P e with
      | some i, some z => (match Nat.ble l c, Nat.ble c 1048576, Nat.ble (i.bytes * c) 281474976710656, Nat.beq (cellsA z).length i.size with
        | true, true, true, true => some (.slice id 0 l (.known c), .cells e false (rep (cellsA z) c))
        | _, _, _, _ => none)
      | _, _ => none)
    | _, _, _ => none)
  | .range t x => (match P.underlying t, aeval F x with
    | some (.map _ _), some .nilm => some (.ptr id 0, .mapIter none 0 [] 0)
    | some (.map _ _), some (.map b) => (match H.get b with
      | some (.map _ c) => some (.ptr id 0, .mapIter (some b) c [] c)
      | _ => none)
    | _, _ => none)
  | .convert s d x => (match P.underlying s, P.underlying d, aeval F x with
    | some .string, some (.slice e), some (.str l) => (match P.underlying e with
      | some (.int .u8) => some (.slice id 0 l.length (.toEnd 1), .cells e true (l.map fun n => .int .u8 (Int.ofNat n)))
      | _ => none)
    | _, _, _ => none)
  | _ => none

/-! ### operations that change memory -/
def storeA (P : Program) (H : Hp) (t : TypeId) (b off : Nat) (v : AV) : Option Hp :=
  match sizeA P t, H.get b with
  | some n, some (.cells e o c) => (match Nat.beq (cellsA v).length n, atoms (cellsA v) with
    | true, true => (match splice (cellsA v) off c with
      | some c' => some (H.put b (.cells e o c'))
      | none => none)
    | _, _ => none)
  | _, _ => none
/-- The new cells of an append or a copy: so many elements. -/
def newCells (H : Hp) (z : Nat) : AV → Option (Nat × List AV)
  | .nils => some (0, [])
  | .slice b off n _ => (match rowA H b off (n * z) with | some l => some (n, l) | none => none)
  | .str s => (match Nat.beq z 1 with
    | true => some (s.length, s.map fun n => .int .u8 (Int.ofNat n))
    | false => none)
  | _ => none
def appendA (P : Program) (H : Hp) (t : TypeId) (s x : AV) : Option (AV × Hp) :=
  match P.underlying t with
  | some (.slice e) => (match P.info? e with
    | some i => (match i.size, zeroA P e with
      | z + 1, some zv => (match Nat.beq (cellsA zv).length (z + 1) with | false => none | true => match newCells H (z + 1) x with
        | some (n, new) => (match s, n with
          | .nils, 0 => some (.nils, H)
          | .slice b off len (.known c), 0 => (match Nat.ble len c with
            | true => some (.slice b off len (.known c), H)
            | false => none)
          | .slice b off len (.toEnd z'), 0 => (match cellsOf H b, Nat.beq z' (z + 1) with
            | some cs, true => (match Nat.ble (off + len * (z + 1)) cs.length with
              | true => some (.slice b off len (.toEnd z'), H)
              | false => none)
            | _, _ => none)
          | .nils, n => (match atoms new, Nat.ble (n * i.bytes) 1073741824, Nat.ble n 1048576 with
            | true, true, true => some (.slice H.next 0 n (.toEnd (z + 1)), H.new (.cells e true new))
            | _, _, _ => none)
          | .slice b off len cap, n => (match cellsOf H b, atoms new, Nat.ble ((len + n) * i.bytes) 1073741824, Nat.ble (len + n) 1048576 with
            | some cs, true, true, true => (match takeN (len * (z + 1)) (dropA off cs), H.get b with
              | some old, some (.cells e' o cs) => (match cap with
                | .known c => (match Nat.ble (len + n) c with
                  | true => (match splice new (off + len * (z + 1)) cs with
                    | some cs' => some (.slice b off (len + n) (.known c), H.put b (.cells e' o cs'))
                    | none => none)
                  | false => some (.slice H.next 0 (len + n) (.toEnd (z + 1)), H.new (.cells e true (old ++ new))))
                | .toEnd z' => (match Nat.beq z' (z + 1), Nat.beq e' e with
                  | true, true => some (.slice H.next 0 (len + n) (.toEnd (z + 1)), (H.del b).new (.cells e true (old ++ new)))
                  | _, _ => none))
              | _, _ => none)
            | _, _, _, _ => none)
          | _, _ => none)
        | none => none)
      | _, _ => none)
    | none => none)
  | _ => none
def setEn (P : Program) (kt : TypeId) (k v : AV) (clock : Nat) : List En → Option (List En × Nat)
  | [] => some ([⟨k, v, clock⟩], clock + 1)
  | e :: es => match aeq P 60 kt k e.key with
    | some true => some (⟨k, v, e.born⟩ :: es, clock)
    | some false => (match setEn P kt k v clock es with
      | some (r, c) => some (e :: r, c)
      | none => none)
    | none => none
def effA (P : Program) (F : Fr) (H : Hp) (o : Oper) : Option (AV × Hp) :=
  match o.op with
  | .store t a x => (match aeval F a, aeval F x with
    | some (.ptr b off), some v => (match storeA P H t b off v with
      | some H' => some (undefA, H')
      | none => none)
    | _, _ => none)
  | .insert t m k x | .mapUpdate t m k x => (match P.underlying t, aeval F m, aeval F k, aeval F x with
    | some (.map kt _), some (.map b), some k, some v => (match P.underlying kt, H.get b with
      | some kd, some (.map es c) => (match plainKey kd k, setEn P kt k v c es with
        | true, some (es', c') => some (undefA, H.put b (.map es' c'))
        | _, _ => none)
      | _, _ => none)
    | _, _, _, _ => none)
  | .call { callee := .builtin .append, args := xs, argTypes := ts } => (match ts[0]?, ts[1]?, aevals F xs.toList with
    | some t, some t', some [s, x] => (match P.underlying t' with
      | some (.slice _) => appendA P H t s x
      | some .string => appendA P H t s x
      | _ => none)
    | _, _, _ => none)
  | .call { callee := .builtin .copy, args := xs, argTypes := ts } => (match ts[0]?, aevals F xs.toList with
    | some t, some [d, x] => (match P.underlying t with
      | some (.slice e) => (match sizeA P e, d, newCells H 1 x with
        | some 1, .slice b off n _, some (m, new) => (match H.get b, atoms new with
          | some (.cells e' o cs), true => (match takeN (Nat.min m n) new with
            | some l => (match splice l off cs with
              | some cs' => some (.int .i64 (Int.ofNat (Nat.min m n)), H.put b (.cells e' o cs'))
              | none => none)
            | none => none)
          | _, _ => none)
        | some 1, .nils, some (_, _) => some (.int .i64 (Int.ofNat 0), H)
        | _, _, _ => none)
      | _ => none)
    | _, _ => none)
  | .call { callee := .builtin .clear, args := xs, argTypes := ts } => (match ts[0]?, aevals F xs.toList with
    | some t, some (x :: _) => (match P.underlying t, x with
      | some (.slice _), .nils => some (.tup [], H)
      | some (.slice _), .slice _ _ 0 _ => some (.tup [], H)
      | some (.slice e), .slice b off n _ => (match zeroA P e, H.get b with
        | some z, some (.cells e' o cs) => (match atoms (cellsA z), splice (rep (cellsA z) n) off cs with
          | true, some cs' => some (.tup [], H.put b (.cells e' o cs'))
          | _, _ => none)
        | _, _ => none)
      | _, _ => none)
    | _, _ => none)
  | _ => none
