/- A machine over values: what a Go function's code comes to, as a Lean function on data and a small heap of the call's own. -/
import Derived.Calls
import Derived.Orders
namespace Go.Proofs.Ytfdemnefkfkghaa.R
open Go

/-- A value: numbers, texts; a slice that no longer turns ('fz': its rows of cells), or a slice of an object of the heap ('ms'); a pointer into an object, or at a row that no longer turns ('el'); maps and closures over objects. -/
inductive V where
  | undef
  | bool (b : Bool)
  | int (k : IntKind) (n : Int)
  | str (s : ByteArray)
  | nils
  | fz (rows : List (List V))
  | ms (id st off len : Nat) (cap : Option Nat)
  | nilp
  | ptr (id row off : Nat)
  | el (row : List V) (off : Nat)
  | nilm
  | map (id : Nat)
  | nilf
  | clo (f : FuncId) (caps : List V)
  | nili
  | ifc (t : TypeId) (v : V)
  | agg (cs : List V)
  | tup (vs : List V)
  deriving Inhabited

/-- An object: rows of cells ('frz': its rows are seen by frozen slices, and are never written again; 'pure': no cell leads to an object); a map. -/
inductive Ob where
  | buf (st : Nat) (rows : List (List V)) (frz pure : Bool)
  | mp (es : List (V × V)) (pure : Bool)

abbrev Heap := List (Option Ob)
abbrev Env := List (Nat × V)

def lk : Env → Nat → V
  | [], _ => .undef
  | (t, v) :: e, u => bif Nat.beq t u then v else lk e u

def Heap.at? : Heap → Nat → Option Ob
  | [], _ => none
  | o :: _, 0 => o
  | _ :: h, n + 1 => Heap.at? h n

/-- Object 'id' becomes 'o'. -/
def Heap.put : Heap → Nat → Option Ob → Heap
  | [], 0, o => [o]
  | [], n + 1, o => none :: Heap.put [] n o
  | _ :: h, 0, o => o :: h
  | x :: h, n + 1, o => x :: Heap.put h n o

def Heap.puts (h : Heap) : List (Nat × Option Ob) → Heap
  | [] => h
  | (i, o) :: r => Heap.puts (h.put i o) r

/-- Reading objects. -/
inductive Rd (α : Type) where
  | pure (a : α)
  | fail
  | get (id : Nat) (k : Ob → Rd α)

def Rd.run {α : Type} : Rd α → Heap → List Nat → Option (α × List Nat)
  | .pure a, _, l => some (a, l)
  | .fail, _, _ => none
  | .get i k, h, l => match h.at? i with
    | some o => (k o).run h (i :: l)
    | none => none

/-! What types are told. -/
inductive TK where
  | bool | int (k : IntKind) | str | ptr | slice (e : TypeId) | map (k e : TypeId) | struct (fs : List (Nat × TypeId)) | func | iface | other
  deriving Inhabited

structure TI where
  kd : TK
  size : Nat
  bytes : Nat
  zero : V

def TI.agg (t : TI) : Bool := match t.kd with | .struct _ => true | _ => false

abbrev TT := TypeId → Option TI

def V.cells : V → List V
  | .agg cs => cs
  | v => [v]

/-- May it stand in a cell? -/
def V.isCell : V → Bool
  | .undef | .agg _ | .tup _ => false
  | _ => true

mutual
def V.hasIds : V → Bool
  | .ms .. | .ptr .. | .map _ => true
  | .clo _ cs => V.anyIds cs
  | .agg cs => V.anyIds cs
  | .tup vs => V.anyIds vs
  | .ifc _ v => V.hasIds v
  | _ => false
def V.anyIds : List V → Bool
  | [] => false
  | v :: r => V.hasIds v || V.anyIds r
end

mutual
def V.ids : V → List Nat
  | .ms i .. | .ptr i .. | .map i => [i]
  | .clo _ cs => V.allIds cs
  | .agg cs => V.allIds cs
  | .tup vs => V.allIds vs
  | .ifc _ v => V.ids v
  | _ => []
def V.allIds : List V → List Nat
  | [] => []
  | v :: r => V.ids v ++ V.allIds r
end

mutual
/-- With objects' numbers turned. -/
def V.re (f : Nat → Option Nat) : V → Option V
  | .ms i st o l c => (f i).map fun j => .ms j st o l c
  | .ptr i r o => (f i).map fun j => .ptr j r o
  | .map i => (f i).map .map
  | .clo g cs => (V.reAll f cs).map (.clo g)
  | .agg cs => (V.reAll f cs).map .agg
  | .tup vs => (V.reAll f vs).map .tup
  | .ifc t v => (V.re f v).map (.ifc t)
  | v => some v
def V.reAll (f : Nat → Option Nat) : List V → Option (List V)
  | [] => some []
  | v :: r => (V.re f v).bind fun v => (V.reAll f r).map (v :: ·)
end

def reRows (f : Nat → Option Nat) : List (List V) → Option (List (List V))
  | [] => some []
  | r :: rs => (V.reAll f r).bind fun r => (reRows f rs).map (r :: ·)

def rePairs (f : Nat → Option Nat) : List (V × V) → Option (List (V × V))
  | [] => some []
  | (k, v) :: r => (V.re f k).bind fun k => (V.re f v).bind fun v => (rePairs f r).map ((k, v) :: ·)

def Ob.re (f : Nat → Option Nat) : Ob → Option Ob
  | .buf st rows frz true => some (.buf st rows frz true)
  | .buf st rows frz false => (reRows f rows).map fun rows => .buf st rows frz false
  | .mp es true => some (.mp es true)
  | .mp es false => (rePairs f es).map fun es => .mp es false

def rowsIds : List (List V) → List Nat
  | [] => []
  | r :: rs => V.allIds r ++ rowsIds rs

def pairsIds : List (V × V) → List Nat
  | [] => []
  | (k, v) :: r => V.ids k ++ V.ids v ++ pairsIds r

def Ob.ids : Ob → List Nat
  | .buf _ _ _ true => []
  | .buf _ rows _ false => rowsIds rows
  | .mp _ true => []
  | .mp es false => pairsIds es

def idx (l : List Nat) (i : Nat) : Option Nat := match l with
  | [] => none
  | x :: r => bif Nat.beq x i then some 0 else (idx r i).map (· + 1)

def nth : List Nat → Nat → Option Nat
  | [], _ => none
  | x :: _, 0 => some x
  | _ :: r, n + 1 => nth r n

/-- What objects are reached; those below 'keep' stay, even where there is nothing any more. -/
def reach (keep : Nat) (h : Heap) : Nat → List Nat → List Nat → List Nat
  | 0, _, acc => acc
  | _ + 1, [], acc => acc
  | n + 1, i :: todo, acc =>
    if acc.contains i then reach keep h n todo acc
    else match h.at? i with
      | some o => reach keep h n (todo ++ o.ids) (acc ++ [i])
      | none => if i < keep then reach keep h n todo (acc ++ [i]) else reach keep h n todo acc

/-- The objects of 'l', numbered anew. -/
def pull (h : Heap) (f : Nat → Option Nat) : List Nat → Option Heap
  | [] => some []
  | i :: r => match h.at? i with
    | some o => (o.re f).bind fun o => (pull h f r).map (some o :: ·)
    | none => (pull h f r).map (none :: ·)

/-! Operands. -/
def ofCell : Value → V
  | .bool b => .bool b
  | .int k n => .int k n
  | .string s => .str s
  | .pointer none => .nilp
  | .slice none 0 0 => .nils
  | .map none => .nilm
  | .nilFunc => .nilf
  | .nilIface => .nili
  | _ => .undef

def ofConst : Value → V
  | .agg cs => .agg (cs.toList.map ofCell)
  | v => ofCell v

def ev (e : Env) : Operand → V
  | .tmp t => lk e t
  | .const v => ofConst v
  | .global _ => .undef
  | .func f => .clo f []

def evs (e : Env) : List Operand → List V
  | [] => []
  | x :: r => ev e x :: evs e r

/-! Cells. -/
def partOf (ti : TI) (cs : List V) (o : Nat) : Option V :=
  if ti.agg then (if o + ti.size ≤ cs.length then some (.agg ((cs.drop o).take ti.size)) else none) else cs[o]?

def overwrite (row : List V) (o : Nat) (cs : List V) : List V := row.take o ++ cs ++ row.drop (o + cs.length)

/-- Parts of a struct's literal. -/
def fillS (T : TT) (fs : List (Nat × TypeId)) (cells : List V) : List (Nat × V) → Option (List V)
  | [] => some cells
  | (i, v) :: r => match fs[i]? with
    | some (o, t) => match T t with
      | some ti => if v.cells.length = ti.size ∧ o + ti.size ≤ cells.length ∧ v.cells.all V.isCell then fillS T fs (overwrite cells o v.cells) r else none
      | none => none
    | none => none

def fillR (size : Nat) (rows : List (List V)) : List (Nat × V) → Option (List (List V))
  | [] => some rows
  | (i, v) :: r => if v.cells.length = size ∧ i < rows.length ∧ v.cells.all V.isCell then fillR size (rows.set i v.cells) r else none

def rowIds (rows : List (List V)) : Bool := match rows with
  | [] => false
  | r :: rs => V.anyIds r || rowIds rs

/-! Reckoning. -/
def eqCell : V → V → Option Bool
  | .bool a, .bool b => some (a == b)
  | .int k a, .int k' b => if k = k' then some (a == b) else none
  | .str a, .str b => some (a == b)
  | _, _ => none

def eqKind : TK → V → V → Option Bool
  | .bool, .bool a, .bool b => some (a == b)
  | .int _, .int k a, .int k' b => if k = k' then some (a == b) else none
  | .str, .str a, .str b => some (a == b)
  | _, _, _ => none

/-- Two structs' fields. -/
def eqAgg (T : TT) : Nat → List (Nat × TypeId) → List V → List V → Option Bool
  | 0, _, _, _ => none
  | _ + 1, [], _, _ => some true
  | d + 1, (o, t) :: fs, xs, ys => match T t with
    | none => none
    | some ti => match (match ti.kd with
        | .struct gs => if o + ti.size ≤ xs.length ∧ o + ti.size ≤ ys.length then eqAgg T d gs ((xs.drop o).take ti.size) ((ys.drop o).take ti.size) else none
        | kd => match xs[o]?, ys[o]? with
          | some x, some y => eqKind kd x y
          | _, _ => none) with
      | some true => eqAgg T d fs xs ys
      | r => r

def eqV (T : TT) (t : TypeId) (x y : V) : Option Bool := match T t with
  | none => none
  | some ti => match ti.kd, x, y with
    | .ptr, .nilp, .nilp => some true
    | .ptr, .nilp, .ptr .. => some false
    | .ptr, .ptr .., .nilp => some false
    | .ptr, .nilp, .el .. => some false
    | .ptr, .el .., .nilp => some false
    | .slice _, .nils, .nils => some true
    | .slice _, .fz (_ :: _), .nils => some false
    | .slice _, .ms _ _ _ (_ + 1) _, .nils => some false
    | .map _ _, .nilm, .nilm => some true
    | .map _ _, .map _, .nilm => some false
    | .func, .nilf, .nilf => some true
    | .func, .clo .., .nilf => some false
    | .iface, .ifc .., .nili => some false
    | .struct fs, .agg xs, .agg ys => eqAgg T 12 fs xs ys
    | .bool, .bool a, .bool b => some (a == b)
    | _, _, _ => none

def binInt (op : BinOp) (k : IntKind) (a b : Int) : Option V :=
  match op with
  | .add => some (.int k (k.wrap (a + b)))
  | .sub => some (.int k (k.wrap (a - b)))
  | .mul => some (.int k (k.wrap (a * b)))
  | .quo => if b = 0 then none else some (.int k (k.wrap (a.tdiv b)))
  | .rem => if b = 0 then none else some (.int k (a.tmod b))
  | .and => some (.int k (k.wrap (BitVec.ofInt k.bits a &&& BitVec.ofInt k.bits b).toNat))
  | .or => some (.int k (k.wrap (BitVec.ofInt k.bits a ||| BitVec.ofInt k.bits b).toNat))
  | .xor => some (.int k (k.wrap (BitVec.ofInt k.bits a ^^^ BitVec.ofInt k.bits b).toNat))
  | .andNot => some (.int k (k.wrap (BitVec.ofInt k.bits a &&& ~~~ BitVec.ofInt k.bits b).toNat))
  | .eql => some (.bool (a == b))
  | .neq => some (.bool (a != b))
  | .lss => some (.bool (decide (a < b)))
  | .leq => some (.bool (decide (a ≤ b)))
  | .gtr => some (.bool (decide (a > b)))
  | .geq => some (.bool (decide (a ≥ b)))
  | _ => none

def binStr (op : BinOp) (a b : ByteArray) : Option V :=
  match op with
  | .add => if a.size + b.size ≤ 9223372036854775807 then some (.str (a ++ b)) else none
  | .eql => some (.bool (a.toList == b.toList))
  | .neq => some (.bool !(a.toList == b.toList))
  | .lss => some (.bool (Op.bytesLess a.toList b.toList))
  | .leq => some (.bool (Op.bytesLess a.toList b.toList || a.toList == b.toList))
  | .gtr => some (.bool !(Op.bytesLess a.toList b.toList || a.toList == b.toList))
  | .geq => some (.bool !(Op.bytesLess a.toList b.toList))
  | _ => none

def bin (T : TT) (op : BinOp) (t : TypeId) : V → V → Option V
  | .int k a, .int k' b => match op with
    | .shl => if 0 ≤ b then some (.int k (k.wrap (a * 2 ^ min b.toNat k.bits))) else none
    | .shr => if 0 ≤ b then some (.int k (a.fdiv (2 ^ min b.toNat k.bits))) else none
    | _ => if k = k' then binInt op k a b else none
  | .str a, .str b => binStr op a b
  | x, y => match op with
    | .eql => (eqV T t x y).map .bool
    | .neq => (eqV T t x y).map fun b => .bool !b
    | _ => none

def un (op : UnOp) : V → Option V
  | .bool b => match op with | .not => some (.bool !b) | _ => none
  | .int k n => match op with | .neg => some (.int k (k.wrap (0 - n))) | _ => none
  | _ => none

def conv (T : TT) (src dst : TypeId) (x : V) : Option V := match T src, T dst with
  | some a, some b => match a.kd, b.kd, x with
    | .int _, .int k, .int _ n => some (.int k (k.wrap n))
    | .str, .str, .str s => some (.str s)
    | _, _, _ => none
  | _, _ => none

def max2 : V → V → Option V
  | .int k x, .int k' y => if k = k' then some (.int k (if y > x then y else x)) else none
  | _, _ => none
def min2 : V → V → Option V
  | .int k x, .int k' y => if k = k' then some (.int k (if y < x then y else x)) else none
  | _, _ => none

def natOf : V → Option Nat
  | .int _ n => if 0 ≤ n then some n.toNat else none
  | _ => none

def optNat : Option V → Nat → Option Nat
  | none, d => some d
  | some v, _ => natOf v

/-- What a cut of a slice is. -/
def cutS (size : Nat) (x : V) (lo hi mx : Option V) : Option V :=
  match x with
  | .str s => match mx, optNat lo 0, optNat hi s.size with
    | none, some l, some h => if l ≤ h ∧ h ≤ s.size then some (.str (s.extract l h)) else none
    | _, _, _ => none
  | .fz rows => match mx, optNat lo 0, optNat hi rows.length with
    | none, some l, some h => if l ≤ h ∧ h ≤ rows.length ∧ rows.all (fun r => r.length == size) then some (.fz ((rows.drop l).take (h - l))) else none
    | _, _, _ => none
  | .ms i st o n c => if st = size then (match optNat lo 0, optNat hi n with
    | some l, some h => if l ≤ h ∧ h ≤ n then (match mx with
        | none => some (.ms i st (o + l) (h - l) (c.map (· - l)))
        | some m => match natOf m with
          | some m => if h ≤ m ∧ m ≤ n then some (.ms i st (o + l) (h - l) (some (m - l))) else none
          | none => none) else none
    | _, _ => none) else none
  | .nils => match mx, optNat lo 0, optNat hi 0 with
    | none, some 0, some 0 => some .nils
    | _, _, _ => none
  | _ => none

/-! Operations: the answer, and the objects that are new or other ones. -/
abbrev Upd := List (Nat × Option Ob)

variable {α : Type}

def rows? (size : Nat) (x : V) (k : List (List V) → Bool → Rd α) : Rd α :=
  match x with
  | .nils => k [] true
  | .fz rows => if rows.all (fun r => r.length == size) then k rows true else .fail
  | .ms i st o n _ => if st = size then .get i fun ob => match ob with
      | .buf st' rows _ pure => if st' = size ∧ o + n ≤ rows.length then k ((rows.drop o).take n) pure else .fail
      | _ => .fail
    else .fail
  | _ => .fail

/-- Behind 'l' rows of an object, from row 'o' on, others: in place, or in a new object. -/
def appendM (ti : TI) (n i o l : Nat) (c : Option Nat) (rows : List (List V)) (frz pure : Bool) (new : List (List V)) (npure : Bool) : Rd (V × Upd) :=
  match c with
  | some c =>
    if c < l + new.length then .pure (.ms n ti.size 0 (l + new.length) none, [(n, some (.buf ti.size ((rows.drop o).take l ++ new) false (pure && npure)))])
    else if o + l + new.length ≤ rows.length ∧ frz = false then .pure (.ms i ti.size o (l + new.length) (some c), [(i, some (.buf ti.size (rows.take (o + l) ++ new ++ rows.drop (o + l + new.length)) false (pure && npure)))])
    else .fail
  | none =>
    if o + l + new.length ≤ rows.length then
      (if frz = false then .pure (.ms i ti.size o (l + new.length) none, [(i, some (.buf ti.size (rows.take (o + l) ++ new ++ rows.drop (o + l + new.length)) false (pure && npure)))]) else .fail)
    else if o = 0 ∧ (l = rows.length ∨ frz = false) then .pure (.ms n ti.size 0 (l + new.length) none, [(i, none), (n, some (.buf ti.size (rows.take l ++ new) frz (pure && npure)))])
    else .fail

def appendR (ti : TI) (n : Nat) (s : V) (new : List (List V)) (npure : Bool) : Rd (V × Upd) :=
  match s with
  | .nils => if new.length = 0 then .pure (s, []) else
      if new.length * ti.bytes ≤ 140737488355328 ∧ new.length ≤ 140737488355328 then .pure (.ms n ti.size 0 new.length none, [(n, some (.buf ti.size new false npure))]) else .fail
  | .fz _ => if new.length = 0 then .pure (s, []) else .fail
  | .ms i st o l c => if new.length = 0 then .pure (s, []) else if st = ti.size then .get i fun ob => match ob with
      | .buf st' rows frz pure => if st' = ti.size ∧ o + l ≤ rows.length ∧ (l + new.length) * ti.bytes ≤ 140737488355328 ∧ l + new.length ≤ 140737488355328 then appendM ti n i o l c rows frz pure new npure else .fail
      | _ => .fail
    else .fail
  | _ => .fail

def findKey (k : V) : List (V × V) → Option (Option V)
  | [] => some none
  | (k', v) :: r => match eqCell k k' with
    | some true => some (some v)
    | some false => findKey k r
    | none => none

def setKey (k v : V) : List (V × V) → Option (List (V × V))
  | [] => some [(k, v)]
  | (k', v') :: r => match eqCell k k' with
    | some true => some ((k, v) :: r)
    | some false => (setKey k v r).map ((k', v') :: ·)
    | none => none

def isKey (T : TT) (t : TypeId) (x : V) : Bool := match T t with
  | some ti => match ti.kd, x with
    | .int k, .int k' _ => decide (k = k')
    | .str, .str _ => true
    | _, _ => false
  | none => false

/-- May a value be one of the type's? -/
def fits (ti : TI) (v : V) : Bool := match v with
  | .agg cs => ti.agg && cs.length == ti.size && cs.all V.isCell
  | v => !ti.agg && v.isCell

mutual
def V.noFz : V → Bool
  | .fz (_ :: _) | .el .. => false
  | .clo _ cs => V.allNoFz cs
  | .agg cs => V.allNoFz cs
  | .tup vs => V.allNoFz vs
  | .ifc _ v => V.noFz v
  | _ => true
def V.allNoFz : List V → Bool
  | [] => true
  | v :: r => V.noFz v && V.allNoFz r
end

/- Frozen: a slice of an object becomes its rows ('ms' tells what becomes of a slice of an object). -/
section
variable (ms : Nat → Nat → Nat → Nat → (V → Upd → Rd α) → Rd α)
mutual
def frzG (x : V) (k : V → Upd → Rd α) : Rd α :=
  match x with
  | .ms i st o n _ => ms i st o n k
  | .nils => k (.fz []) []
  | .agg cs => frzGAll cs fun cs u => k (.agg cs) u
  | .tup vs => frzGAll vs fun vs u => k (.tup vs) u
  | v => k v []
def frzGAll (l : List V) (k : List V → Upd → Rd α) : Rd α :=
  match l with
  | [] => k [] []
  | v :: r => frzG v fun v u => frzGAll r fun r u' => k (v :: r) (u ++ u')
end
def frzGRows (rows : List (List V)) (k : List (List V) → Upd → Rd α) : Rd α :=
  match rows with
  | [] => k [] []
  | r :: rs => frzGAll ms r fun r u => frzGRows rs fun rs u' => k (r :: rs) (u ++ u')
/-- A slice of an object: rows that lead to no object as they are; others are frozen first, cell by cell. -/
def msUp (i st o n : Nat) (k : V → Upd → Rd α) : Rd α := .get i fun ob => match ob with
  | .buf st' rows _ true => if st' = st ∧ o + n ≤ rows.length then k (.fz ((rows.drop o).take n)) [(i, some (.buf st rows true true))] else .fail
  | .buf st' rows _ false => if st' = st ∧ o + n ≤ rows.length then frzGRows ms rows fun rows' u =>
      if rows'.all (fun r => r.all fun v => v.isCell && !v.hasIds) then k (.fz ((rows'.drop o).take n)) (u ++ [(i, some (.buf st rows' true true))]) else .fail
    else .fail
  | _ => .fail
end
def ms0 (i st o n : Nat) (k : V → Upd → Rd α) : Rd α := msUp (fun _ _ _ _ _ => .fail) i st o n k
def ms1 (i st o n : Nat) (k : V → Upd → Rd α) : Rd α := msUp ms0 i st o n k
def ms2 (i st o n : Nat) (k : V → Upd → Rd α) : Rd α := msUp ms1 i st o n k
def frz (x : V) (k : V → Upd → Rd α) : Rd α := frzG ms2 x k
def frzAll (l : List V) (k : List V → Upd → Rd α) : Rd α := frzGAll ms2 l k

def frzArgs (l : List V) (m : List Bool) (k : List V → Upd → Rd α) : Rd α :=
  match l, m with
  | [], _ => k [] []
  | v :: r, true :: m => frz v fun v u => frzArgs r m fun r u' => k (v :: r) (u ++ u')
  | v :: r, m => frzArgs r m.tail fun r u' => k (v :: r) u'

/-- The objects that are reached, and they themselves. -/
def collect : Nat → List Nat → List (Nat × Ob) → (List (Nat × Ob) → Rd α) → Rd α
  | 0, _, _, _ => .fail
  | _ + 1, [], acc, k => k acc
  | n + 1, i :: todo, acc, k =>
    if (acc.map (·.1)).contains i then collect n todo acc k
    else .get i fun o => collect n (o.ids ++ todo) (acc ++ [(i, o)]) k

def pullObs (f : Nat → Option Nat) : List (Nat × Ob) → Option (List Ob)
  | [] => some []
  | (_, o) :: r => (o.re f).bind fun o => (pullObs f r).map (o :: ·)

/-- The objects behind a call, in the caller's numbers: the old ones first. -/
def pushObs (f : Nat → Option Nat) : List (Option Ob) → Nat → Option Upd
  | [], _ => some []
  | o :: r, j => match f j, o with
    | some i, some o => (o.re f).bind fun o => (pushObs f r (j + 1)).map ((i, some o) :: ·)
    | some i, none => (pushObs f r (j + 1)).map ((i, none) :: ·)
    | none, _ => none

/-- The caller's number of an object of the callee's, of whose heap there are 'm'. -/
def back (l : List Nat) (n m j : Nat) : Option Nat := match nth l j with
  | some i => some i
  | none => if j < m then some (n + (j - l.length)) else none

abbrev Fun := List V → List Ob → Option (V × Heap)

def upd1 (u : Upd) (l : List Nat) : Bool := u.all fun p => !l.contains p.1

def afterR (n : Nat) (l : List Nat) (u : Upd) (r : V) (h : Heap) : Rd (V × Upd) :=
  match V.re (back l n h.length) r, pushObs (back l n h.length) h 0 with
  | some r, some us => if l.isEmpty && h.isEmpty && r.noFz then .pure (r, []) else .pure (r, us ++ u)
  | _, _ => .fail

def withR (fn : Fun) (n : Nat) (args : List V) (u : Upd) (obs : List (Nat × Ob)) : Rd (V × Upd) :=
  let l := obs.map (·.1)
  if upd1 u l && l.all (· < n) then match V.reAll (idx l) args, pullObs (idx l) obs with
    | some args, some hs => match fn args hs with
      | some (r, h) => if l.length ≤ h.length then afterR n l u r h else .fail
      | none => .fail
    | _, _ => .fail
  else .fail

def callR (fn : Fun) (pfz : List Bool) (n : Nat) (args : List V) : Rd (V × Upd) :=
  frzArgs args pfz fun args u => collect 4096 (V.allIds args) [] fun obs => withR fn n args u obs

/-- A function ('intr': it is a slices.Clone of elements of so many cells and bytes): 'pfz': which arguments are frozen at a call; 'rfz': is the answer frozen? 'gcs': at the head of the loop in a block, what lives there, and which nil slices (in a slot, or in a cell of the object to which a slot leads) stand as empty objects. -/
structure AGc where
  block : Nat
  live : List Nat
  thaw : List (Nat × Option Nat × Nat)

structure AFn where
  body : Code
  ntmps : Nat
  res : List ResultVar
  pfz : List Bool
  rfz : Bool
  intr : Option (Nat × Nat)
  gcs : List AGc

structure Cx where
  T : TT
  fns : FuncId → Option AFn
  call : FuncId → Fun

def lenR (x : V) : Rd (V × Upd) := match x with
  | .nils => .pure (.int .i64 0, [])
  | .fz rows => .pure (.int .i64 rows.length, [])
  | .ms _ _ _ n _ => .pure (.int .i64 n, [])
  | .str s => .pure (.int .i64 s.size, [])
  | .nilm => .pure (.int .i64 0, [])
  | .map i => .get i fun
    | .mp es _ => .pure (.int .i64 es.length, [])
    | _ => .fail
  | _ => .fail

def ok (v : Option V) : Rd (V × Upd) := match v with
  | some v => .pure (v, [])
  | none => .fail

def lenKd : TK → V → Bool
  | .str, .str _ => true
  | .slice _, .nils => true
  | .slice _, .fz _ => true
  | .slice _, .ms .. => true
  | .map _ _, .nilm => true
  | .map _ _, .map _ => true
  | _, _ => false

def appendB (T : TT) (n : Nat) (t t' : TypeId) (s x : V) : Rd (V × Upd) := match T t, T t' with
  | some a, some b => match a.kd, b.kd with
    | .slice e, .slice _ => match T e with
      | some ti => if ti.size = 0 then .fail else rows? ti.size x fun new p => appendR ti n s new p
      | none => .fail
    | _, _ => .fail
  | _, _ => .fail

def lenB (T : TT) (t : TypeId) (x : V) : Rd (V × Upd) := match T t with
  | some ti => if lenKd ti.kd x then lenR x else .fail
  | none => .fail

def capB (T : TT) (t : TypeId) (x : V) : Rd (V × Upd) := match T t with
  | some ti => match ti.kd, x with
    | .slice _, .ms _ _ _ _ (some c) => .pure (.int .i64 c, [])
    | .slice _, .nils => .pure (.int .i64 0, [])
    | _, _ => .fail
  | none => .fail

def builtinR (T : TT) (n : Nat) (b : Builtin) (ts : List TypeId) (args : List V) : Rd (V × Upd) :=
  match b, ts, args with
  | .len, [t], [x] => lenB T t x
  | .cap, [t], [x] => capB T t x
  | .max, _, [x, y] => ok (max2 x y)
  | .min, _, [x, y] => ok (min2 x y)
  | .append, [t, t'], [s, x] => appendB T n t t' s x
  | _, _, _ => .fail

def callV (cx : Cx) (n : Nat) (f : V) (args : List V) : Rd (V × Upd) := match f with
  | .clo g caps => match cx.fns g with
    | some fn => callR (cx.call g) fn.pfz n (args ++ caps)
    | none => .fail
  | _ => .fail

def allocR (T : TT) (n : Nat) (t : TypeId) : Rd (V × Upd) := match T t with
  | some ti => if ti.size = 0 then .fail else .pure (.ptr n 0 0, [(n, some (.buf ti.size [ti.zero.cells] false true))])
  | none => .fail

def boxR (n : Nat) (x : V) : Rd (V × Upd) :=
  if x.cells.all V.isCell ∧ x.cells.length ≠ 0 then .pure (.ptr n 0 0, [(n, some (.buf x.cells.length [x.cells] false (!V.anyIds x.cells)))]) else .fail

def loadR (T : TT) (t : TypeId) (a : V) : Rd (V × Upd) := match T t with
  | none => .fail
  | some ti => match a with
    | .ptr i r off => .get i fun ob => match ob with
      | .buf _ rows _ _ => match rows[r]? with
        | some row => ok (partOf ti row off)
        | none => .fail
      | _ => .fail
    | .el row off => ok (partOf ti row off)
    | _ => .fail

def storeR (T : TT) (t : TypeId) (a x : V) : Rd (V × Upd) := match T t with
  | none => .fail
  | some ti => match a with
    | .ptr i r off => .get i fun ob => match ob with
      | .buf st rows false pure => match rows[r]? with
        | some row => if x.cells.length = ti.size ∧ off + ti.size ≤ row.length ∧ x.cells.all V.isCell then .pure (.undef, [(i, some (.buf st (rows.set r (overwrite row off x.cells)) false (pure && !V.anyIds x.cells)))]) else .fail
        | none => .fail
      | _ => .fail
    | _ => .fail

def buildR (T : TT) (t : TypeId) (ps : List (Nat × V)) : Rd (V × Upd) := match T t with
  | some ti => match ti.kd with
    | .struct fs => if fs.all (fun p => (T p.2).isSome) then (match fillS T fs ti.zero.cells ps with
      | some cs => .pure (.agg cs, [])
      | none => .fail) else .fail
    | _ => .fail
  | none => .fail

def buildSliceR (T : TT) (n : Nat) (t : TypeId) (len : Nat) (ps : List (Nat × V)) : Rd (V × Upd) := match T t with
  | some ti' => match ti'.kd with
    | .slice el => match T el with
      | some ti => if ti.size = 0 ∨ 16777216 < len * ti.size then .fail else
        match fillR ti.size (List.replicate len ti.zero.cells) ps with
        | some rows => .pure (.ms n ti.size 0 len none, [(n, some (.buf ti.size rows false (!rowIds rows)))])
        | none => .fail
      | none => .fail
    | _ => .fail
  | none => .fail

def nilCheckR (x : V) : Rd (V × Upd) := match x with
  | .ptr i r off => .pure (.ptr i r off, [])
  | .el row off => .pure (.el row off, [])
  | .clo f cs => .pure (.clo f cs, [])
  | _ => .fail

def sliceR (T : TT) (t : TypeId) (x : V) (lo hi mx : Option V) : Rd (V × Upd) := match T t with
  | some ti' => match ti'.kd with
    | .slice el => match T el with
      | some ti => match x with
        | .str _ => .fail
        | x => ok (cutS ti.size x lo hi mx)
      | none => .fail
    | .str => match x with
      | .str s => ok (cutS 1 (.str s) lo hi mx)
      | _ => .fail
    | _ => .fail
  | none => .fail

def fieldAddrR (T : TT) (t : TypeId) (x : V) (f : Nat) : Rd (V × Upd) := match T t with
  | some ti => match ti.kd with
    | .struct fs => match fs[f]? with
      | some (o, ft) => match T ft with
        | some ft => if ft.size = 0 then .fail else (match x with
          | .ptr i r off => .pure (.ptr i r (off + o), [])
          | .el row off => .pure (.el row (off + o), [])
          | _ => .fail)
        | none => .fail
      | none => .fail
    | _ => .fail
  | none => .fail

def fieldR (T : TT) (t : TypeId) (x : V) (f : Nat) : Rd (V × Upd) := match T t with
  | some ti' => match ti'.kd with
    | .struct fs => match fs[f]? with
      | some (o, ft) => match T ft, x with
        | some ti, .agg cs => ok (partOf ti cs o)
        | _, _ => .fail
      | none => .fail
    | _ => .fail
  | none => .fail

def indexAddrR (T : TT) (t : TypeId) (x i : V) : Rd (V × Upd) := match T t with
  | some ti' => match ti'.kd with
    | .slice el => match T el, natOf i with
      | some ti, some i => match x with
        | .fz rows => match rows[i]? with
          | some row => if rows.all (fun r => r.length == ti.size) then .pure (.el row 0, []) else .fail
          | none => .fail
        | .ms id st o len _ => if i < len ∧ st = ti.size then .pure (.ptr id (o + i) 0, []) else .fail
        | _ => .fail
      | _, _ => .fail
    | _ => .fail
  | none => .fail

def indexR (T : TT) (t : TypeId) (x i : V) : Rd (V × Upd) := match T t with
  | some ti => match ti.kd with
    | .str => match x, natOf i with
      | .str s, some i => match s[i]? with
        | some b => .pure (.int .u8 b.toNat, [])
        | none => .fail
      | _, _ => .fail
    | _ => .fail
  | none => .fail

def giveR (ti : TI) (cok : Bool) (r : Option V) : V :=
  let v := match r with | some v => v | none => ti.zero
  if cok then .tup [v, .bool r.isSome] else v

def lookupR (T : TT) (t : TypeId) (m k : V) (cok : Bool) : Rd (V × Upd) := match T t with
  | some ti' => match ti'.kd with
    | .map kt et => match T et with
      | some ti => if isKey T kt k then (match m with
          | .nilm => .pure (giveR ti cok none, [])
          | .map i => .get i fun ob => match ob with
            | .mp es _ => match findKey k es with
              | some r => .pure (giveR ti cok r, [])
              | none => .fail
            | _ => .fail
          | _ => .fail) else .fail
      | none => .fail
    | _ => .fail
  | none => .fail

def mapUpdateR (T : TT) (t : TypeId) (m k x : V) : Rd (V × Upd) := match T t with
  | some ti' => match ti'.kd with
    | .map kt et => match T et with
      | some ti => if isKey T kt k ∧ fits ti x then (match m with
          | .map i => .get i fun ob => match ob with
            | .mp es p => match setKey k x es with
              | some es => .pure (.undef, [(i, some (.mp es (p && !x.hasIds)))])
              | none => .fail
            | _ => .fail
          | _ => .fail) else .fail
      | none => .fail
    | _ => .fail
  | none => .fail

def extractR (x : V) (i : Nat) : Rd (V × Upd) := match x with
  | .tup vs => ok vs[i]?
  | _ => .fail

def pickR (c a b : V) : Rd (V × Upd) := match c with
  | .bool c => .pure (if c then a else b, [])
  | _ => .fail

def parts (e : Env) : List (Nat × Operand) → List (Nat × V)
  | [] => []
  | (i, x) :: r => (i, ev e x) :: parts e r

def aop (cx : Cx) (n : Nat) (e : Env) (o : Oper) : Rd (V × Upd) :=
  match o.op with
  | .move x => .pure (ev e x, [])
  | .assign x => .pure (ev e x, [])
  | .pick c a b => pickR (ev e c) (ev e a) (ev e b)
  | .alloc t => allocR cx.T n t
  | .box _ x => boxR n (ev e x)
  | .load t a => loadR cx.T t (ev e a)
  | .store t a x => storeR cx.T t (ev e a) (ev e x)
  | .build t ps => buildR cx.T t (parts e ps.toList)
  | .buildSlice t len ps => buildSliceR cx.T n t len (parts e ps.toList)
  | .nilCheck x => nilCheckR (ev e x)
  | .binOp op t x y _ => ok (bin cx.T op t (ev e x) (ev e y))
  | .unOp op _ x => ok (un op (ev e x))
  | .convert src dst x => ok (conv cx.T src dst (ev e x))
  | .makeFunc (.func f) first caps => if first.size = 0 then .pure (.clo f (evs e caps.toList), []) else .fail
  | .makeMap _ none => .pure (.map n, [(n, some (.mp [] true))])
  | .slice t x lo hi mx => if mx.isSome && hi.isNone then .fail else sliceR cx.T t (ev e x) (lo.map (ev e)) (hi.map (ev e)) (mx.map (ev e))
  | .fieldAddr t x f => fieldAddrR cx.T t (ev e x) f
  | .field t x f => fieldR cx.T t (ev e x) f
  | .indexAddr t x i => indexAddrR cx.T t (ev e x) (ev e i)
  | .index t x i => indexR cx.T t (ev e x) (ev e i)
  | .lookup t m k cok => lookupR cx.T t (ev e m) (ev e k) cok
  | .mapUpdate t m k x => mapUpdateR cx.T t (ev e m) (ev e k) (ev e x)
  | .extract x i => extractR (ev e x) i
  | .call c => match c.callee with
    | .builtin b => builtinR cx.T n b c.argTypes.toList (evs e c.args.toList)
    | .value f => callV cx n (ev e f) (evs e c.args.toList)
    | .invoke .. => .fail
  | _ => .fail

/-! Code. -/
structure St where
  env : Env
  heap : Heap

inductive Ex where
  | normal | exit (id : Nat) | ret
  deriving DecidableEq

def yields (ops : Array Oper) (e : Env) (j : Nat) : Option Bool := match (ops[j]?).bind (·.dst) with
  | some t => match lk e t with
    | .bool b => some b
    | _ => none
  | none => none

/-- Is what an operation yields Go's value of none (where it wasn't wanted)? -/
def isSkip : V → Bool
  | .tup [] => true
  | _ => false
def skipped (ops : Array Oper) (e : Env) (j : Nat) : Bool := match (ops[j]?).bind (·.dst) with
  | some t => isSkip (lk e t)
  | none => false

/-- Is it wanted? 'none': that isn't known. -/
def wants (ops : Array Oper) (e : Env) (o : Oper) : Option Bool := match o.guard with
  | none => some true
  | some (j, b) => if skipped ops e j then some false else (yields ops e j).map (· == b)

def putDst (ntmps : Nat) (e : Env) (d : Option Tmp) (v : V) : Option Env := match d with
  | none => some e
  | some d => if d < ntmps then some ((d, v) :: e) else none

def runOps (cx : Cx) (ntmps : Nat) (ops : Array Oper) : List Oper → St → Option St
  | [], s => some s
  | o :: r, s => match wants ops s.env o with
    | none => none
    | some false => (putDst ntmps s.env o.dst (.tup [])).bind fun e => runOps cx ntmps ops r { s with env := e }
    | some true => match (aop cx s.heap.length s.env o).run s.heap [] with
      | none => none
      | some ((v, u), _) => (putDst ntmps s.env o.dst v).bind fun e => runOps cx ntmps ops r { env := e, heap := s.heap.puts u }

/-- What became of an operation: its answer, the objects it turned, those it looked at, and the number from which its new ones go. -/
structure Did where
  want : Bool
  val : V
  upd : Upd
  reads : List Nat

def Did.touches (a b : Did) : Bool := a.upd.any fun p => b.reads.contains p.1 || b.upd.any fun q => q.1 == p.1
def clash (a b : Did) : Bool := a.touches b || b.touches a

/-- Each operation clashes with those alone that are told to be ahead of it. -/
def apart (bef : Array Nat) (done : List Did) (j : Nat) (d : Did) : Bool :=
  (done.zipIdx.all fun (c, i) => !clash c d || (bef.getD j 0).testBit i)

/-- At least so many places. -/
def Heap.pad (n : Nat) (h : Heap) : Heap := if h.length < n then h ++ [none] else h

def runDraw (cx : Cx) (ntmps : Nat) (ops : Array Oper) (bef : Array Nat) : List Oper → Nat → St → List Did → Option St
  | [], _, s, _ => some s
  | o :: r, j, s, done => match wants ops s.env o with
    | none => none
    | some false => (putDst ntmps s.env o.dst (.tup [])).bind fun e => runDraw cx ntmps ops bef r (j + 1) { s with env := e } (done ++ [⟨false, .tup [], [], []⟩])
    | some true => match (aop cx s.heap.length s.env o).run s.heap [] with
      | none => none
      | some ((v, u), l) =>
        let d : Did := ⟨true, v, u, l⟩
        if apart bef done j d then
          (putDst ntmps s.env o.dst v).bind fun e => runDraw cx ntmps ops bef r (j + 1) { env := e, heap := Heap.pad (s.heap.length + 1) (s.heap.puts u) } (done ++ [d])
        else none

/-- Live slots alone, and the objects that they reach, numbered anew behind the first 'keep'. -/
def live (e : Env) : List Nat → Env
  | [] => []
  | t :: r => (t, lk e t) :: live e r

def reEnv (f : Nat → Option Nat) : Env → Option Env
  | [] => some []
  | (t, v) :: r => (V.re f v).bind fun v => (reEnv f r).map ((t, v) :: ·)

/-- Nil slices become slices of empty objects. -/
def thaw : List (Nat × Option Nat × Nat) → St → St
  | [], s => s
  | (t, none, st) :: r, s => match lk s.env t with
    | .nils => thaw r { env := (t, .ms s.heap.length st 0 0 none) :: s.env, heap := s.heap ++ [some (.buf st [] false true)] }
    | _ => thaw r s
  | (t, some o, st) :: r, s => match lk s.env t with
    | .ptr i 0 0 => match s.heap.at? i with
      | some (.buf st' [row] false _) => match row[o]? with
        | some .nils => thaw r { env := s.env, heap := (s.heap.put i (some (.buf st' [row.set o (.ms s.heap.length st 0 0 none)] false false))) ++ [some (.buf st [] false true)] }
        | _ => thaw r s
      | _ => thaw r s
    | _ => thaw r s

def envIds : Env → List Nat
  | [] => []
  | (_, v) :: r => V.ids v ++ envIds r

def upto : Nat → List Nat → List Nat
  | 0, acc => acc
  | n + 1, acc => upto n (n :: acc)

/-- Does it begin with 'i', 'i' + 1, .., so many? -/
def begins : Nat → Nat → List Nat → Bool
  | 0, _, _ => true
  | _ + 1, _, [] => false
  | n + 1, i, x :: r => Nat.beq x i && begins n (i + 1) r

def gc (keep : Nat) (ts : List Nat) (s : St) : Option St :=
  let e := live s.env ts
  let l := reach keep s.heap 4096 (upto keep (envIds e)) []
  if begins keep 0 l then (reEnv (idx l) e).bind fun e => (pull s.heap (idx l) l).map fun h => { env := e, heap := h } else none

def rounds (body : St → Option (Ex × St)) : Nat → St → Option (Ex × St)
  | 0, _ => none
  | n + 1, s => match body s with
    | some (.normal, s) => rounds body n s
    | r => r

def aregion (cx : Cx) (ntmps : Nat) (ops : Array Oper) (draw : Bool) (s : St) : Option (Ex × St) :=
  (if draw then runDraw cx ntmps ops (Region.before ops) ops.toList 0 s [] else runOps cx ntmps ops ops.toList s).map fun s => (.normal, s)

def gcOf : List AGc → Option Nat → Option AGc
  | _, none => none
  | [], _ => none
  | g :: r, some id => bif Nat.beq g.block id then some g else gcOf r (some id)

def head (keep : Nat) (g : Option AGc) (s : St) : Option St := match g with
  | none => some s
  | some g => gc keep g.live (thaw g.thaw s)

/-- 'id': the block that stands around. -/
def acode (cx : Cx) (ntmps keep R : Nat) (gcs : List AGc) : Code → Option Nat → St → Option (Ex × St)
  | .skip, _, s => some (.normal, s)
  | .region _ ops draw, _, s => aregion cx ntmps ops draw s
  | .seq a b, _, s => (acode cx ntmps keep R gcs a none s).bind fun r => match r with
    | (.normal, s) => acode cx ntmps keep R gcs b none s
    | r => some r
  | .cond c a b, _, s => match ev s.env c with
    | .bool true => acode cx ntmps keep R gcs a none s
    | .bool false => acode cx ntmps keep R gcs b none s
    | _ => none
  | .block id body, _, s => (acode cx ntmps keep R gcs body (some id) s).map fun r => match r with
    | (.exit i, s) => if i = id then (.normal, s) else (.exit i, s)
    | r => r
  | .loop body, id, s => rounds (fun s => (head keep (gcOf gcs id) s).bind fun s => acode cx ntmps keep R gcs body none s) R s
  | .exit id, _, s => some (.exit id, s)
  | .ret, _, s => some (.ret, s)
  | _, _, _ => none

/-! Functions. -/
def resOne (T : TT) (s : St) : ResultVar → Option V
  | .tmp t => some (lk s.env t)
  | .cell a t => match lk s.env a, T t with
    | .ptr i r off, some ti => match s.heap.at? i with
      | some (.buf _ rows _ _) => match rows[r]? with
        | some row => partOf ti row off
        | none => none
      | _ => none
    | _, _ => none

def resAll (T : TT) (s : St) : List ResultVar → Option (List V)
  | [] => some []
  | x :: r => (resOne T s x).bind fun v => (resAll T s r).map (v :: ·)

def oneOf : List V → V
  | [v] => v
  | vs => .tup vs

def finish (keep : Nat) (rfz : Bool) (v : V) (h : Heap) : Option (V × Heap) :=
  (if rfz then ((frz v fun v u => Rd.pure (v, u)).run h []).map fun r => (r.1.1, h.puts r.1.2) else some (v, h)).bind fun (v, h) =>
    let l := reach keep h 4096 (upto keep (V.ids v)) []
    if begins keep 0 l then (V.re (idx l) v).bind fun v => (pull h (idx l) l).map fun h => (v, h) else none

def argEnv : Nat → List V → Env
  | _, [] => []
  | n, v :: r => (n, v) :: argEnv (n + 1) r

/-- slices.Clone. -/
def cloneFn (st bytes : Nat) : Fun := fun args hs => match args, hs with
  | [.fz rows], [] => if st ≠ 0 ∧ rows.all (fun r => r.length == st) ∧ rows.length * bytes ≤ 140737488355328 then some (.ms 0 st 0 rows.length none, [some (.buf st rows false true)]) else none
  | _, _ => none

def runFn (cx : Cx) (fn : AFn) (R : Nat) : Fun := fun args hs =>
  if fn.ntmps < args.length then none else
  (acode cx fn.ntmps hs.length R fn.gcs fn.body none { env := argEnv 0 args, heap := hs.map some }).bind fun r => match r with
    | (.normal, s) | (.ret, s) => (resAll cx.T s fn.res).bind fun vs => finish hs.length fn.rfz (oneOf vs) s.heap
    | _ => none

/-- A call, no deeper than so many. -/
def acall (T : TT) (fns : FuncId → Option AFn) (R : Nat) : Nat → FuncId → Fun
  | 0, _ => fun _ _ => none
  | d + 1, f => fun args hs => match fns f with
    | none => none
    | some fn => match fn.intr with
      | some (st, bytes) => cloneFn st bytes args hs
      | none => runFn { T, fns, call := acall T fns R d } fn R args hs

end Go.Proofs.Ytfdemnefkfkghaa.R
