/- Parts of the proof of YtoggbcckkjfkhaaGreatRDagWrongAll, one behind the other: RA, RT, RB, RC, RD, RE, RF, RG. -/
import Derived.Calls
import Derived.Orders
import Derived.Test.YtoggbcckkjfkhaaGreatProg
import Derived.Below
import Derived.Deep.MidRow
import Derived.Deep.AppendSrc
import Derived.MapKept
import Derived.ChangeKeysEq
import Derived.Laws.StructEq
import Derived.Great.FillDense
import Derived.Laws.Tables
import Derived.Great.BuildSlice
/- A machine over values: what a Go function's code comes to, as a Lean function on data and a small heap of the call's own. -/
namespace Go.Proofs.YtoggbcckkjfkhaaGreat.R
open Go

/-- A value: numbers, texts; a slice that no longer turns ('fz': its rows of cells), or a slice of an object of the heap ('ms'); a pointer into an object, or at a row that no longer turns ('el'); maps and closures over objects. -/
inductive V where
  | undef
  | bool (b : Bool)
  | int (k : IntKind) (n : Int)
  | str (s : ByteArray)
  | nils
  | fz (rows : List (List V))
  | ms (id st off len : Nat) (cap : Option Nat)
  | nilp
  | ptr (id row off : Nat)
  | el (row : List V) (off : Nat)
  | nilm
  | map (id : Nat)
  | nilf
  | clo (f : FuncId) (caps : List V)
  | nili
  | ifc (t : TypeId) (v : V)
  | agg (cs : List V)
  | tup (vs : List V)
  deriving Inhabited

/-- An object: rows of cells ('frz': its rows are seen by frozen slices, and are never written again; 'pure': no cell leads to an object); a map. -/
inductive Ob where
  | buf (st : Nat) (rows : List (List V)) (frz pure : Bool)
  | mp (es : List (V × V)) (pure : Bool)

abbrev Heap := List (Option Ob)
abbrev Env := List (Nat × V)

def lk : Env → Nat → V
  | [], _ => .undef
  | (t, v) :: e, u => bif Nat.beq t u then v else lk e u

def Heap.at? : Heap → Nat → Option Ob
  | [], _ => none
  | o :: _, 0 => o
  | _ :: h, n + 1 => Heap.at? h n

/-- Object 'id' becomes 'o'. -/
def Heap.put : Heap → Nat → Option Ob → Heap
  | [], 0, o => [o]
  | [], n + 1, o => none :: Heap.put [] n o
  | _ :: h, 0, o => o :: h
  | x :: h, n + 1, o => x :: Heap.put h n o

def Heap.puts (h : Heap) : List (Nat × Option Ob) → Heap
  | [] => h
  | (i, o) :: r => Heap.puts (h.put i o) r

/-- Reading objects. -/
inductive Rd (α : Type) where
  | pure (a : α)
  | fail
  | get (id : Nat) (k : Ob → Rd α)

def Rd.run {α : Type} : Rd α → Heap → List Nat → Option (α × List Nat)
  | .pure a, _, l => some (a, l)
  | .fail, _, _ => none
  | .get i k, h, l => match h.at? i with
    | some o => (k o).run h (i :: l)
    | none => none

/-! What types are told. -/
inductive TK where
  | bool | int (k : IntKind) | str | ptr | slice (e : TypeId) | map (k e : TypeId) | struct (fs : List (Nat × TypeId)) | arr (n : Nat) (e : TypeId) | func | iface | uptr | other
  deriving Inhabited

structure TI where
  kd : TK
  size : Nat
  bytes : Nat
  zero : V

def TI.agg (t : TI) : Bool := match t.kd with | .struct _ => true | .arr .. => true | _ => false

abbrev TT := TypeId → Option TI

def V.cells : V → List V
  | .agg cs => cs
  | v => [v]

/-- May it stand in a cell? -/
def V.isCell : V → Bool
  | .undef | .agg _ | .tup _ => false
  | _ => true

mutual
def V.hasIds : V → Bool
  | .ms .. | .ptr .. | .map _ => true
  | .clo _ cs => V.anyIds cs
  | .agg cs => V.anyIds cs
  | .tup vs => V.anyIds vs
  | .ifc _ v => V.hasIds v
  | _ => false
def V.anyIds : List V → Bool
  | [] => false
  | v :: r => V.hasIds v || V.anyIds r
end

mutual
def V.ids : V → List Nat
  | .ms i .. | .ptr i .. | .map i => [i]
  | .clo _ cs => V.allIds cs
  | .agg cs => V.allIds cs
  | .tup vs => V.allIds vs
  | .ifc _ v => V.ids v
  | _ => []
def V.allIds : List V → List Nat
  | [] => []
  | v :: r => V.ids v ++ V.allIds r
end

mutual
/-- With objects' numbers turned. -/
def V.re (f : Nat → Option Nat) : V → Option V
  | .ms i st o l c => (f i).map fun j => .ms j st o l c
  | .ptr i r o => (f i).map fun j => .ptr j r o
  | .map i => (f i).map .map
  | .clo g cs => (V.reAll f cs).map (.clo g)
  | .agg cs => (V.reAll f cs).map .agg
  | .tup vs => (V.reAll f vs).map .tup
  | .ifc t v => (V.re f v).map (.ifc t)
  | v => some v
def V.reAll (f : Nat → Option Nat) : List V → Option (List V)
  | [] => some []
  | v :: r => (V.re f v).bind fun v => (V.reAll f r).map (v :: ·)
end

def reRows (f : Nat → Option Nat) : List (List V) → Option (List (List V))
  | [] => some []
  | r :: rs => (V.reAll f r).bind fun r => (reRows f rs).map (r :: ·)

def rePairs (f : Nat → Option Nat) : List (V × V) → Option (List (V × V))
  | [] => some []
  | (k, v) :: r => (V.re f k).bind fun k => (V.re f v).bind fun v => (rePairs f r).map ((k, v) :: ·)

def Ob.re (f : Nat → Option Nat) : Ob → Option Ob
  | .buf st rows frz true => some (.buf st rows frz true)
  | .buf st rows frz false => (reRows f rows).map fun rows => .buf st rows frz false
  | .mp es true => some (.mp es true)
  | .mp es false => (rePairs f es).map fun es => .mp es false

def rowsIds : List (List V) → List Nat
  | [] => []
  | r :: rs => V.allIds r ++ rowsIds rs

def pairsIds : List (V × V) → List Nat
  | [] => []
  | (k, v) :: r => V.ids k ++ V.ids v ++ pairsIds r

def Ob.ids : Ob → List Nat
  | .buf _ _ _ true => []
  | .buf _ rows _ false => rowsIds rows
  | .mp _ true => []
  | .mp es false => pairsIds es

def idx (l : List Nat) (i : Nat) : Option Nat := match l with
  | [] => none
  | x :: r => bif Nat.beq x i then some 0 else (idx r i).map (· + 1)

def nth : List Nat → Nat → Option Nat
  | [], _ => none
  | x :: _, 0 => some x
  | _ :: r, n + 1 => nth r n

/-- What objects are reached; those below 'keep' stay, even where there is nothing any more. -/
def reach (keep : Nat) (h : Heap) : Nat → List Nat → List Nat → List Nat
  | 0, _, acc => acc
  | _ + 1, [], acc => acc
  | n + 1, i :: todo, acc =>
    if acc.contains i then reach keep h n todo acc
    else match h.at? i with
      | some o => reach keep h n (todo ++ o.ids) (acc ++ [i])
      | none => if i < keep then reach keep h n todo (acc ++ [i]) else reach keep h n todo acc

/-- The objects of 'l', numbered anew. -/
def pull (h : Heap) (f : Nat → Option Nat) : List Nat → Option Heap
  | [] => some []
  | i :: r => match h.at? i with
    | some o => (o.re f).bind fun o => (pull h f r).map (some o :: ·)
    | none => (pull h f r).map (none :: ·)

/-! Operands. -/
def ofCell : Value → V
  | .bool b => .bool b
  | .int k n => .int k n
  | .string s => .str s
  | .pointer none => .nilp
  | .slice none 0 0 => .nils
  | .map none => .nilm
  | .nilFunc => .nilf
  | .nilIface => .nili
  | _ => .undef

def ofConst : Value → V
  | .agg cs => .agg (cs.toList.map ofCell)
  | v => ofCell v

def ev (e : Env) : Operand → V
  | .tmp t => lk e t
  | .const v => ofConst v
  | .global _ => .undef
  | .func f => .clo f []

def evs (e : Env) : List Operand → List V
  | [] => []
  | x :: r => ev e x :: evs e r

/-! Cells. -/
def partOf (ti : TI) (cs : List V) (o : Nat) : Option V :=
  if ti.agg then (if o + ti.size ≤ cs.length then some (.agg ((cs.drop o).take ti.size)) else none) else cs[o]?

def overwrite (row : List V) (o : Nat) (cs : List V) : List V := row.take o ++ cs ++ row.drop (o + cs.length)

/-- Parts of a struct's literal. -/
def fillS (T : TT) (fs : List (Nat × TypeId)) (cells : List V) : List (Nat × V) → Option (List V)
  | [] => some cells
  | (i, v) :: r => match fs[i]? with
    | some (o, t) => match T t with
      | some ti => if v.cells.length = ti.size ∧ o + ti.size ≤ cells.length ∧ v.cells.all V.isCell then fillS T fs (overwrite cells o v.cells) r else none
      | none => none
    | none => none

def fillR (size : Nat) (rows : List (List V)) : List (Nat × V) → Option (List (List V))
  | [] => some rows
  | (i, v) :: r => if v.cells.length = size ∧ i < rows.length ∧ v.cells.all V.isCell then fillR size (rows.set i v.cells) r else none

def rowIds (rows : List (List V)) : Bool := match rows with
  | [] => false
  | r :: rs => V.anyIds r || rowIds rs

/-! Reckoning. -/
def eqCell : V → V → Option Bool
  | .bool a, .bool b => some (a == b)
  | .int k a, .int k' b => if k = k' then some (a == b) else none
  | .str a, .str b => some (a == b)
  | _, _ => none

def eqKind : TK → V → V → Option Bool
  | .bool, .bool a, .bool b => some (a == b)
  | .int _, .int k a, .int k' b => if k = k' then some (a == b) else none
  | .str, .str a, .str b => some (a == b)
  | _, _, _ => none

/-- Two structs' fields. -/
def eqAgg (T : TT) : Nat → List (Nat × TypeId) → List V → List V → Option Bool
  | 0, _, _, _ => none
  | _ + 1, [], _, _ => some true
  | d + 1, (o, t) :: fs, xs, ys => match T t with
    | none => none
    | some ti => match (match ti.kd with
        | .struct gs => if o + ti.size ≤ xs.length ∧ o + ti.size ≤ ys.length then eqAgg T d gs ((xs.drop o).take ti.size) ((ys.drop o).take ti.size) else none
        | kd => match xs[o]?, ys[o]? with
          | some x, some y => eqKind kd x y
          | _, _ => none) with
      | some true => eqAgg T d fs xs ys
      | r => r

/-- Two arrays' elements. -/
def eqArr (kd : TK) (xs ys : List V) : List Nat → Option Bool
  | [] => some true
  | i :: is => match xs[i]?, ys[i]? with
    | some x, some y => match eqKind kd x y with
      | some true => eqArr kd xs ys is
      | r => r
    | _, _ => none

def eqV (T : TT) (t : TypeId) (x y : V) : Option Bool := match T t with
  | none => none
  | some ti => match ti.kd, x, y with
    | .ptr, .nilp, .nilp => some true
    | .ptr, .nilp, .ptr .. => some false
    | .ptr, .ptr .., .nilp => some false
    | .ptr, .nilp, .el .. => some false
    | .ptr, .el .., .nilp => some false
    | .slice _, .nils, .nils => some true
    | .slice _, .fz (_ :: _), .nils => some false
    | .slice _, .ms _ _ _ (_ + 1) _, .nils => some false
    | .map _ _, .nilm, .nilm => some true
    | .map _ _, .map _, .nilm => some false
    | .func, .nilf, .nilf => some true
    | .func, .clo .., .nilf => some false
    | .iface, .ifc .., .nili => some false
    | .struct fs, .agg xs, .agg ys => eqAgg T 12 fs xs ys
    | .arr n e, .agg xs, .agg ys => match T e with
      | some te => if te.agg = false ∧ te.size = 1 then eqArr te.kd xs ys (List.range n) else none
      | none => none
    | .bool, .bool a, .bool b => some (a == b)
    | _, _, _ => none

def binInt (op : BinOp) (k : IntKind) (a b : Int) : Option V :=
  match op with
  | .add => some (.int k (k.wrap (a + b)))
  | .sub => some (.int k (k.wrap (a - b)))
  | .mul => some (.int k (k.wrap (a * b)))
  | .quo => if b = 0 then none else some (.int k (k.wrap (a.tdiv b)))
  | .rem => if b = 0 then none else some (.int k (a.tmod b))
  | .and => some (.int k (k.wrap (BitVec.ofInt k.bits a &&& BitVec.ofInt k.bits b).toNat))
  | .or => some (.int k (k.wrap (BitVec.ofInt k.bits a ||| BitVec.ofInt k.bits b).toNat))
  | .xor => some (.int k (k.wrap (BitVec.ofInt k.bits a ^^^ BitVec.ofInt k.bits b).toNat))
  | .andNot => some (.int k (k.wrap (BitVec.ofInt k.bits a &&& ~~~ BitVec.ofInt k.bits b).toNat))
  | .eql => some (.bool (a == b))
  | .neq => some (.bool (a != b))
  | .lss => some (.bool (decide (a < b)))
  | .leq => some (.bool (decide (a ≤ b)))
  | .gtr => some (.bool (decide (a > b)))
  | .geq => some (.bool (decide (a ≥ b)))
  | _ => none

def binStr (op : BinOp) (a b : ByteArray) : Option V :=
  match op with
  | .add => if a.size + b.size ≤ 9223372036854775807 then some (.str (a ++ b)) else none
  | .eql => some (.bool (a.toList == b.toList))
  | .neq => some (.bool !(a.toList == b.toList))
  | .lss => some (.bool (Op.bytesLess a.toList b.toList))
  | .leq => some (.bool (Op.bytesLess a.toList b.toList || a.toList == b.toList))
  | .gtr => some (.bool !(Op.bytesLess a.toList b.toList || a.toList == b.toList))
  | .geq => some (.bool !(Op.bytesLess a.toList b.toList))
  | _ => none

def bin (T : TT) (op : BinOp) (t : TypeId) : V → V → Option V
  | .int k a, .int k' b => match op with
    | .shl => if 0 ≤ b then some (.int k (k.wrap (a * 2 ^ min b.toNat k.bits))) else none
    | .shr => if 0 ≤ b then some (.int k (a.fdiv (2 ^ min b.toNat k.bits))) else none
    | _ => if k = k' then binInt op k a b else none
  | .str a, .str b => binStr op a b
  | x, y => match op with
    | .eql => (eqV T t x y).map .bool
    | .neq => (eqV T t x y).map fun b => .bool !b
    | _ => none

def un (op : UnOp) : V → Option V
  | .bool b => match op with | .not => some (.bool !b) | _ => none
  | .int k n => match op with | .neg => some (.int k (k.wrap (0 - n))) | .xor => some (.int k (k.wrap (BitVec.ofInt k.bits (if k.signed then -1 else k.max) ^^^ BitVec.ofInt k.bits n).toNat)) | _ => none
  | _ => none

def conv (T : TT) (src dst : TypeId) (x : V) : Option V := match T src, T dst with
  | some a, some b => match a.kd, b.kd, x with
    | .int _, .int k, .int _ n => some (.int k (k.wrap n))
    | .str, .str, .str s => some (.str s)
    | _, _, _ => none
  | _, _ => none

def max2 : V → V → Option V
  | .int k x, .int k' y => if k = k' then some (.int k (if y > x then y else x)) else none
  | .str x, .str y => some (.str (if !(Op.bytesLess x.toList y.toList) then x else y))
  | _, _ => none
def min2 : V → V → Option V
  | .int k x, .int k' y => if k = k' then some (.int k (if y < x then y else x)) else none
  | .str x, .str y => some (.str (if Op.bytesLess x.toList y.toList || x.toList == y.toList then x else y))
  | _, _ => none

def natOf : V → Option Nat
  | .int _ n => if 0 ≤ n then some n.toNat else none
  | _ => none

def optNat : Option V → Nat → Option Nat
  | none, d => some d
  | some v, _ => natOf v

/-- What a cut of a slice is. -/
def cutS (size : Nat) (x : V) (lo hi mx : Option V) : Option V :=
  match x with
  | .str s => match mx, optNat lo 0, optNat hi s.size with
    | none, some l, some h => if l ≤ h ∧ h ≤ s.size then some (.str (s.extract l h)) else none
    | _, _, _ => none
  | .fz rows => match mx, optNat lo 0, optNat hi rows.length with
    | none, some l, some h => if l ≤ h ∧ h ≤ rows.length ∧ rows.all (fun r => r.length == size) then some (.fz ((rows.drop l).take (h - l))) else none
    | _, _, _ => none
  | .ms i st o n c => if st = size then (match optNat lo 0, optNat hi n with
    | some l, some h => if l ≤ h ∧ h ≤ n then (match mx with
        | none => some (.ms i st (o + l) (h - l) (c.map (· - l)))
        | some m => match natOf m with
          | some m => if h ≤ m ∧ m ≤ n then some (.ms i st (o + l) (h - l) (some (m - l))) else none
          | none => none) else none
    | _, _ => none) else none
  | .nils => match mx, optNat lo 0, optNat hi 0 with
    | none, some 0, some 0 => some .nils
    | _, _, _ => none
  | _ => none

/-! Operations: the answer, and the objects that are new or other ones. -/
abbrev Upd := List (Nat × Option Ob)

variable {α : Type}

def rows? (size : Nat) (x : V) (k : List (List V) → Bool → Rd α) : Rd α :=
  match x with
  | .nils => k [] true
  | .fz rows => if rows.all (fun r => r.length == size) then k rows true else .fail
  | .ms i st o n _ => if st = size then .get i fun ob => match ob with
      | .buf st' rows _ pure => if st' = size ∧ o + n ≤ rows.length then k ((rows.drop o).take n) pure else .fail
      | _ => .fail
    else .fail
  | _ => .fail

/-- Behind 'l' rows of an object, from row 'o' on, others: in place, or in a new object. -/
def appendM (ti : TI) (n i o l : Nat) (c : Option Nat) (rows : List (List V)) (frz pure : Bool) (new : List (List V)) (npure : Bool) : Rd (V × Upd) :=
  match c with
  | some c =>
    if c < l + new.length then .pure (.ms n ti.size 0 (l + new.length) none, [(n, some (.buf ti.size ((rows.drop o).take l ++ new) false (pure && npure)))])
    else if o + l + new.length ≤ rows.length ∧ frz = false then .pure (.ms i ti.size o (l + new.length) (some c), [(i, some (.buf ti.size (rows.take (o + l) ++ new ++ rows.drop (o + l + new.length)) false (pure && npure)))])
    else .fail
  | none =>
    if o + l + new.length ≤ rows.length then
      (if frz = false then .pure (.ms i ti.size o (l + new.length) none, [(i, some (.buf ti.size (rows.take (o + l) ++ new ++ rows.drop (o + l + new.length)) false (pure && npure)))]) else .fail)
    else if o = 0 ∧ (l = rows.length ∨ frz = false) then .pure (.ms n ti.size 0 (l + new.length) none, [(i, none), (n, some (.buf ti.size (rows.take l ++ new) frz (pure && npure)))])
    else .fail

def appendR (ti : TI) (n : Nat) (s : V) (new : List (List V)) (npure : Bool) : Rd (V × Upd) :=
  match s with
  | .nils => if new.length = 0 then .pure (s, []) else
      if new.length * ti.bytes ≤ 140737488355328 ∧ new.length ≤ 140737488355328 then .pure (.ms n ti.size 0 new.length none, [(n, some (.buf ti.size new false npure))]) else .fail
  | .fz _ => if new.length = 0 then .pure (s, []) else .fail
  | .ms i st o l c => if new.length = 0 then .pure (s, []) else if st = ti.size then .get i fun ob => match ob with
      | .buf st' rows frz pure => if st' = ti.size ∧ o + l ≤ rows.length ∧ (l + new.length) * ti.bytes ≤ 140737488355328 ∧ l + new.length ≤ 140737488355328 then appendM ti n i o l c rows frz pure new npure else .fail
      | _ => .fail
    else .fail
  | _ => .fail

def findKey (k : V) : List (V × V) → Option (Option V)
  | [] => some none
  | (k', v) :: r => match eqCell k k' with
    | some true => some (some v)
    | some false => findKey k r
    | none => none

def setKey (k v : V) : List (V × V) → Option (List (V × V))
  | [] => some [(k, v)]
  | (k', v') :: r => match eqCell k k' with
    | some true => some ((k, v) :: r)
    | some false => (setKey k v r).map ((k', v') :: ·)
    | none => none

def delKey (k : V) : List (V × V) → Option (List (V × V))
  | [] => some []
  | (k', v') :: r => match eqCell k k' with
    | some true => some r
    | some false => (delKey k r).map ((k', v') :: ·)
    | none => none

def isKey (T : TT) (t : TypeId) (x : V) : Bool := match T t with
  | some ti => match ti.kd, x with
    | .int k, .int k' _ => decide (k = k')
    | .str, .str _ => true
    | _, _ => false
  | none => false

/-- May a value be one of the type's? -/
def fits (ti : TI) (v : V) : Bool := match v with
  | .agg cs => ti.agg && cs.length == ti.size && cs.all V.isCell
  | v => !ti.agg && v.isCell

mutual
def V.noFz : V → Bool
  | .fz _ | .el .. => false
  | .clo _ cs => V.allNoFz cs
  | .agg cs => V.allNoFz cs
  | .tup vs => V.allNoFz vs
  | .ifc _ v => V.noFz v
  | _ => true
def V.allNoFz : List V → Bool
  | [] => true
  | v :: r => V.noFz v && V.allNoFz r
end

/- Frozen: a slice of an object becomes its rows ('ms' tells what becomes of a slice of an object). -/
section
variable (ms : Nat → Nat → Nat → Nat → (V → Upd → Rd α) → Rd α)
mutual
def frzG (x : V) (k : V → Upd → Rd α) : Rd α :=
  match x with
  | .ms i st o n _ => ms i st o n k
  | .nils => k (.fz []) []
  | .agg cs => frzGAll cs fun cs u => k (.agg cs) u
  | .tup vs => frzGAll vs fun vs u => k (.tup vs) u
  | v => k v []
def frzGAll (l : List V) (k : List V → Upd → Rd α) : Rd α :=
  match l with
  | [] => k [] []
  | v :: r => frzG v fun v u => frzGAll r fun r u' => k (v :: r) (u ++ u')
end
def frzGRows (rows : List (List V)) (k : List (List V) → Upd → Rd α) : Rd α :=
  match rows with
  | [] => k [] []
  | r :: rs => frzGAll ms r fun r u => frzGRows rs fun rs u' => k (r :: rs) (u ++ u')
/-- A slice of an object: rows that lead to no object as they are; others are frozen first, cell by cell. -/
def msUp (i st o n : Nat) (k : V → Upd → Rd α) : Rd α := .get i fun ob => match ob with
  | .buf st' rows _ true => if st' = st ∧ o + n ≤ rows.length then k (.fz ((rows.drop o).take n)) [(i, some (.buf st rows true true))] else .fail
  | .buf st' rows _ false => if st' = st ∧ o + n ≤ rows.length then frzGRows ms rows fun rows' u =>
      if rows'.all (fun r => r.all fun v => v.isCell && !v.hasIds) then k (.fz ((rows'.drop o).take n)) (u ++ [(i, some (.buf st rows' true true))]) else .fail
    else .fail
  | _ => .fail
end
def ms0 (i st o n : Nat) (k : V → Upd → Rd α) : Rd α := msUp (fun _ _ _ _ _ => .fail) i st o n k
def ms1 (i st o n : Nat) (k : V → Upd → Rd α) : Rd α := msUp ms0 i st o n k
def ms2 (i st o n : Nat) (k : V → Upd → Rd α) : Rd α := msUp ms1 i st o n k
def frz (x : V) (k : V → Upd → Rd α) : Rd α := frzG ms2 x k
def frzAll (l : List V) (k : List V → Upd → Rd α) : Rd α := frzGAll ms2 l k

def frzArgs (l : List V) (m : List Bool) (k : List V → Upd → Rd α) : Rd α :=
  match l, m with
  | [], _ => k [] []
  | v :: r, true :: m => frz v fun v u => frzArgs r m fun r u' => k (v :: r) (u ++ u')
  | v :: r, m => frzArgs r m.tail fun r u' => k (v :: r) u'

/-- The objects that are reached, and they themselves. -/
def collect : Nat → List Nat → List (Nat × Ob) → (List (Nat × Ob) → Rd α) → Rd α
  | 0, _, _, _ => .fail
  | _ + 1, [], acc, k => k acc
  | n + 1, i :: todo, acc, k =>
    if (acc.map (·.1)).contains i then collect n todo acc k
    else .get i fun o => collect n (o.ids ++ todo) (acc ++ [(i, o)]) k

def pullObs (f : Nat → Option Nat) : List (Nat × Ob) → Option (List Ob)
  | [] => some []
  | (_, o) :: r => (o.re f).bind fun o => (pullObs f r).map (o :: ·)

/-- The objects behind a call, in the caller's numbers: the old ones first. -/
def pushObs (f : Nat → Option Nat) : List (Option Ob) → Nat → Option Upd
  | [], _ => some []
  | o :: r, j => match f j, o with
    | some i, some o => (o.re f).bind fun o => (pushObs f r (j + 1)).map ((i, some o) :: ·)
    | some i, none => (pushObs f r (j + 1)).map ((i, none) :: ·)
    | none, _ => none

/-- The caller's number of an object of the callee's, of whose heap there are 'm'. -/
def back (l : List Nat) (n m j : Nat) : Option Nat := match nth l j with
  | some i => some i
  | none => if j < m then some (n + (j - l.length)) else none

abbrev Fun := List V → List Ob → Option (V × Heap)

def upd1 (u : Upd) (l : List Nat) : Bool := u.all fun p => !l.contains p.1

def afterR (n : Nat) (l : List Nat) (u : Upd) (r : V) (h : Heap) : Rd (V × Upd) :=
  match V.re (back l n h.length) r, pushObs (back l n h.length) h 0 with
  | some r, some us => if l.isEmpty && h.isEmpty && r.noFz then .pure (r, []) else .pure (r, us ++ u)
  | _, _ => .fail

def withR (fn : Fun) (n : Nat) (args : List V) (u : Upd) (obs : List (Nat × Ob)) : Rd (V × Upd) :=
  let l := obs.map (·.1)
  if upd1 u l && l.all (· < n) then match V.reAll (idx l) args, pullObs (idx l) obs with
    | some args, some hs => match fn args hs with
      | some (r, h) => if l.length ≤ h.length then afterR n l u r h else .fail
      | none => .fail
    | _, _ => .fail
  else .fail

def callR (fn : Fun) (pfz : List Bool) (n : Nat) (args : List V) : Rd (V × Upd) :=
  frzArgs args pfz fun args u => collect 4096 (V.allIds args) [] fun obs => withR fn n args u obs

/-- A function ('intr': what it answers, where its code is not gone through): 'pfz': which arguments are frozen at a call; 'rfz': is the answer frozen? 'gcs': at the head of the loop in a block, what lives there, and which nil slices (in a slot, or in a cell of the object to which a slot leads) stand as empty objects. -/
structure AGc where
  block : Nat
  live : List Nat
  thaw : List (Nat × Option Nat × Nat)

structure AFn where
  body : Code
  ntmps : Nat
  res : List ResultVar
  pfz : List Bool
  rfz : Bool
  intr : Option Fun
  gcs : List AGc

structure Cx where
  T : TT
  fns : FuncId → Option AFn
  call : FuncId → Fun

def lenR (x : V) : Rd (V × Upd) := match x with
  | .nils => .pure (.int .i64 0, [])
  | .fz rows => .pure (.int .i64 rows.length, [])
  | .ms _ _ _ n _ => .pure (.int .i64 n, [])
  | .str s => .pure (.int .i64 s.size, [])
  | .nilm => .pure (.int .i64 0, [])
  | .map i => .get i fun
    | .mp es _ => .pure (.int .i64 es.length, [])
    | _ => .fail
  | _ => .fail

def ok (v : Option V) : Rd (V × Upd) := match v with
  | some v => .pure (v, [])
  | none => .fail

def lenKd : TK → V → Bool
  | .str, .str _ => true
  | .slice _, .nils => true
  | .slice _, .fz _ => true
  | .slice _, .ms .. => true
  | .map _ _, .nilm => true
  | .map _ _, .map _ => true
  | _, _ => false

/-! Bytes and texts. -/
def bytesOf : List (List V) → Option (List UInt8)
  | [] => some []
  | [.int .u8 k] :: r => (bytesOf r).map (UInt8.ofNat k.toNat :: ·)
  | _ => none
def rowsOf (s : ByteArray) : List (List V) := s.data.toList.map fun b => [.int .u8 b.toNat]
def textR (rows : List (List V)) : Rd (V × Upd) := match bytesOf rows with
  | some l => .pure (.str ⟨l.toArray⟩, [])
  | none => .fail
def bytesR (x : V) : Rd (V × Upd) := rows? 1 x fun rows _ => textR rows
def isU8 (T : TT) (e : TypeId) : Bool := match T e with
  | some te => match te.kd with
    | .int .u8 => true
    | _ => false
  | none => false
def convR (T : TT) (n : Nat) (src dst : TypeId) (x : V) : Rd (V × Upd) := match T src, T dst with
  | some a, some b => match a.kd, b.kd, x with
    | .slice e, .str, x => if isU8 T e then bytesR x else .fail
    | .str, .slice e, .str s => if isU8 T e ∧ s.size ≤ 140737488355328 then .pure (.ms n 1 0 s.size none, [(n, some (.buf 1 (rowsOf s) false true))]) else .fail
    | .slice _, .slice e, .ms i st o l c => if isU8 T e ∧ src = dst then .get i fun ob => match ob with
        | .buf .. => if l = 0 then .fail else .pure (.ms i st o l c, [])
        | _ => .fail
      else .fail
    | _, _, x => ok (conv T src dst x)
  | _, _ => .fail

/-- append(s, make([]T, k)...) -/
def appendZ (ti : TI) (n : Nat) (s x : V) : Rd (V × Upd) := match x with
  | .int _ k => if 0 ≤ k ∧ k.toNat * ti.bytes ≤ 140737488355328 ∧ k ≤ 140737488355328 then appendR ti n s (List.replicate k.toNat ti.zero.cells) true else .fail
  | _ => .fail

/-- copy: all is read before anything is written. -/
def copyR (ti : TI) (d x : V) : Rd (V × Upd) := match d with
  | .nils => rows? ti.size x fun _ _ => .pure (.int .i64 0, [])
  | .ms i st o n _ => if st = ti.size then rows? ti.size x fun new p => .get i fun ob => match ob with
      | .buf st' rows false pure => if st' = ti.size ∧ o + n ≤ rows.length then .pure (.int .i64 (min new.length n : Nat), [(i, some (.buf ti.size (rows.take o ++ new.take n ++ rows.drop (o + min new.length n)) false (pure && p)))]) else .fail
      | _ => .fail
    else .fail
  | _ => .fail
def copyB (T : TT) (t t' : TypeId) (d x : V) : Rd (V × Upd) := match T t, T t' with
  | some a, some b => match a.kd, b.kd with
    | .slice e, .slice _ => match T e with
      | some ti => if ti.size = 0 then .fail else copyR ti d x
      | none => .fail
    | _, _ => .fail
  | _, _ => .fail

/-- clear, of a slice. -/
def clearR (ti : TI) (d : V) : Rd (V × Upd) := match d with
  | .nils => .pure (.undef, [])
  | .ms i st o n _ => if st = ti.size then .get i fun ob => match ob with
      | .buf st' rows false pure => if st' = ti.size ∧ o + n ≤ rows.length then .pure (.undef, [(i, some (.buf ti.size (rows.take o ++ List.replicate n ti.zero.cells ++ rows.drop (o + n)) false pure))]) else .fail
      | _ => .fail
    else .fail
  | _ => .fail
def clearB (T : TT) (t : TypeId) (d : V) : Rd (V × Upd) := match T t with
  | some a => match a.kd with
    | .slice e => match T e with
      | some ti => if ti.size = 0 then .fail else clearR ti d
      | none => .fail
    | _ => .fail
  | _ => .fail

def appendB (T : TT) (n : Nat) (t t' : TypeId) (s x : V) : Rd (V × Upd) := match T t, T t' with
  | some a, some b => match a.kd, b.kd with
    | .slice e, .slice _ => match T e with
      | some ti => if ti.size = 0 then .fail else rows? ti.size x fun new p => appendR ti n s new p
      | none => .fail
    | .slice e, .int _ => match T e with
      | some ti => if ti.size = 0 then .fail else appendZ ti n s x
      | none => .fail
    | .slice e, .str => match T e, x with
      | some ti, .str y => if ti.size = 1 then appendR ti n s (rowsOf y) true else .fail
      | _, _ => .fail
    | _, _ => .fail
  | _, _ => .fail

def lenB (T : TT) (t : TypeId) (x : V) : Rd (V × Upd) := match T t with
  | some ti => if lenKd ti.kd x then lenR x else .fail
  | none => .fail

def capB (T : TT) (t : TypeId) (x : V) : Rd (V × Upd) := match T t with
  | some ti => match ti.kd, x with
    | .slice _, .ms _ _ _ _ (some c) => .pure (.int .i64 c, [])
    | .slice _, .nils => .pure (.int .i64 0, [])
    | _, _ => .fail
  | none => .fail

def delR (T : TT) (t : TypeId) (m k : V) : Rd (V × Upd) := match T t with
  | some ti' => match ti'.kd with
    | .map kt _ => if isKey T kt k then (match m with
        | .nilm => .pure (.undef, [])
        | .map i => .get i fun ob => match ob with
          | .mp es p => match delKey k es with
            | some es => .pure (.undef, [(i, some (.mp es p))])
            | none => .fail
          | _ => .fail
        | _ => .fail) else .fail
    | _ => .fail
  | none => .fail

def builtinR (T : TT) (n : Nat) (b : Builtin) (ts : List TypeId) (args : List V) : Rd (V × Upd) :=
  match b, ts, args with
  | .len, [t], [x] => lenB T t x
  | .cap, [t], [x] => capB T t x
  | .max, _, [x, y] => ok (max2 x y)
  | .min, _, [x, y] => ok (min2 x y)
  | .append, [t, t'], [s, x] => appendB T n t t' s x
  | .copy, [t, t'], [d, x] => copyB T t t' d x
  | .clear, [t], [d] => clearB T t d
  | .delete, [t, _], [m, k] => delR T t m k
  | _, _, _ => .fail

def callV (cx : Cx) (n : Nat) (f : V) (args : List V) : Rd (V × Upd) := match f with
  | .clo g caps => match cx.fns g with
    | some fn => callR (cx.call g) fn.pfz n (args ++ caps)
    | none => .fail
  | _ => .fail

/-- make([]T, len, cap). -/
def makeSliceR (T : TT) (n : Nat) (t : TypeId) (len cap : V) : Rd (V × Upd) := match T t with
  | some ti' => match ti'.kd with
    | .slice e => match T e, natOf len, natOf cap with
      | some ti, some l, some c => if ti.size ≠ 0 ∧ l ≤ c ∧ c ≤ 140737488355328 ∧ c * ti.bytes ≤ 140737488355328 then
          .pure (.ms n ti.size 0 l (if l = c then none else some c), [(n, some (.buf ti.size (List.replicate c ti.zero.cells) false true))]) else .fail
      | _, _, _ => .fail
    | _ => .fail
  | none => .fail

def allocR (T : TT) (n : Nat) (t : TypeId) : Rd (V × Upd) := match T t with
  | some ti => if ti.size = 0 then .fail else .pure (.ptr n 0 0, [(n, some (.buf ti.size [ti.zero.cells] false true))])
  | none => .fail

def boxR (n : Nat) (x : V) : Rd (V × Upd) :=
  if x.cells.all V.isCell ∧ x.cells.length ≠ 0 then .pure (.ptr n 0 0, [(n, some (.buf x.cells.length [x.cells] false (!V.anyIds x.cells)))]) else .fail

def loadR (T : TT) (t : TypeId) (a : V) : Rd (V × Upd) := match T t with
  | none => .fail
  | some ti => match a with
    | .ptr i r off => .get i fun ob => match ob with
      | .buf _ rows _ _ => match rows[r]? with
        | some row => ok (partOf ti row off)
        | none => .fail
      | _ => .fail
    | .el row off => ok (partOf ti row off)
    | _ => .fail

def storeR (T : TT) (t : TypeId) (a x : V) : Rd (V × Upd) := match T t with
  | none => .fail
  | some ti => match a with
    | .ptr i r off => .get i fun ob => match ob with
      | .buf st rows false pure => match rows[r]? with
        | some row => if x.cells.length = ti.size ∧ off + ti.size ≤ row.length ∧ x.cells.all V.isCell then .pure (.undef, [(i, some (.buf st (rows.set r (overwrite row off x.cells)) false (pure && !V.anyIds x.cells)))]) else .fail
        | none => .fail
      | _ => .fail
    | _ => .fail

def buildR (T : TT) (t : TypeId) (ps : List (Nat × V)) : Rd (V × Upd) := match T t with
  | some ti => match ti.kd with
    | .struct fs => if fs.all (fun p => (T p.2).isSome) then (match fillS T fs ti.zero.cells ps with
      | some cs => .pure (.agg cs, [])
      | none => .fail) else .fail
    | _ => .fail
  | none => .fail

def buildSliceR (T : TT) (n : Nat) (t : TypeId) (len : Nat) (ps : List (Nat × V)) : Rd (V × Upd) := match T t with
  | some ti' => match ti'.kd with
    | .slice el => match T el with
      | some ti => if ti.size = 0 ∨ 16777216 < len * ti.size then .fail else
        match fillR ti.size (List.replicate len ti.zero.cells) ps with
        | some rows => .pure (.ms n ti.size 0 len none, [(n, some (.buf ti.size rows false (!rowIds rows)))])
        | none => .fail
      | none => .fail
    | _ => .fail
  | none => .fail

def nilCheckR (x : V) : Rd (V × Upd) := match x with
  | .ptr i r off => .pure (.ptr i r off, [])
  | .el row off => .pure (.el row off, [])
  | .clo f cs => .pure (.clo f cs, [])
  | _ => .fail

def okOr (v : Option V) (r : Rd (V × Upd)) : Rd (V × Upd) := match v with
  | some v => .pure (v, [])
  | none => r
/-- Beyond its length, within its object. -/
def farR (st : Nat) (x : V) (lo hi mx : Option V) : Rd (V × Upd) := match x, hi, mx with
  | .ms i st' o _ none, some hv, none => match natOf hv, optNat lo 0 with
    | some h, some l => .get i fun ob => match ob with
      | .buf st2 rows _ _ => if st' = st ∧ st2 = st ∧ o + h ≤ rows.length ∧ l ≤ h then .pure (.ms i st (o + l) (h - l) none, []) else .fail
      | _ => .fail
    | _, _ => .fail
  | _, _, _ => .fail
def sliceR (T : TT) (t : TypeId) (x : V) (lo hi mx : Option V) : Rd (V × Upd) := match T t with
  | some ti' => match ti'.kd with
    | .slice el => match T el with
      | some ti => match x with
        | .str _ => .fail
        | x => okOr (cutS ti.size x lo hi mx) (farR ti.size x lo hi mx)
      | none => .fail
    | .str => match x with
      | .str s => ok (cutS 1 (.str s) lo hi mx)
      | _ => .fail
    | _ => .fail
  | none => .fail

def fieldAddrR (T : TT) (t : TypeId) (x : V) (f : Nat) : Rd (V × Upd) := match T t with
  | some ti => match ti.kd with
    | .struct fs => match fs[f]? with
      | some (o, ft) => match T ft with
        | some ft => if ft.size = 0 then .fail else (match x with
          | .ptr i r off => .pure (.ptr i r (off + o), [])
          | .el row off => .pure (.el row (off + o), [])
          | _ => .fail)
        | none => .fail
      | none => .fail
    | _ => .fail
  | none => .fail

def fieldR (T : TT) (t : TypeId) (x : V) (f : Nat) : Rd (V × Upd) := match T t with
  | some ti' => match ti'.kd with
    | .struct fs => match fs[f]? with
      | some (o, ft) => match T ft, x with
        | some ti, .agg cs => ok (partOf ti cs o)
        | _, _ => .fail
      | none => .fail
    | _ => .fail
  | none => .fail

def indexAddrR (T : TT) (t : TypeId) (x i : V) : Rd (V × Upd) := match T t with
  | some ti' => match ti'.kd with
    | .slice el => match T el, natOf i with
      | some ti, some i => match x with
        | .fz rows => match rows[i]? with
          | some row => if rows.all (fun r => r.length == ti.size) then .pure (.el row 0, []) else .fail
          | none => .fail
        | .ms id st o len _ => if i < len ∧ st = ti.size then .pure (.ptr id (o + i) 0, []) else .fail
        | _ => .fail
      | _, _ => .fail
    | _ => .fail
  | none => .fail

def indexR (T : TT) (t : TypeId) (x i : V) : Rd (V × Upd) := match T t with
  | some ti => match ti.kd with
    | .str => match x, natOf i with
      | .str s, some i => match s[i]? with
        | some b => .pure (.int .u8 b.toNat, [])
        | none => .fail
      | _, _ => .fail
    | _ => .fail
  | none => .fail

def giveR (ti : TI) (cok : Bool) (r : Option V) : V :=
  let v := match r with | some v => v | none => ti.zero
  if cok then .tup [v, .bool r.isSome] else v

/-! Arrays: a variable of an array of one-cell elements stands as so many rows of one cell. -/
def arrOf (T : TT) (t : TypeId) : Option (Nat × TI) := match T t with
  | some ti => match ti.kd with
    | .arr n e => match T e with
      | some te => if te.size = 0 ∨ ti.size ≠ n * te.size then none else some (n, te)
      | none => none
    | _ => none
  | none => none
def allocA (T : TT) (n : Nat) (t : TypeId) : Rd (V × Upd) := match arrOf T t with
  | some (m, te) => if te.size = 1 ∧ m ≠ 0 ∧ m ≤ 16777216 then (match T t with
      | some ti => .pure (.ptr n 0 0, [(n, some (.buf 1 (ti.zero.cells.map fun c => [c]) false true))])
      | none => .fail) else allocR T n t
  | none => allocR T n t
def loadA (T : TT) (t : TypeId) (a : V) : Rd (V × Upd) := match arrOf T t, a with
  | some (m, te), .ptr i r 0 => .get i fun ob => match ob with
    | .buf st rows _ _ => if st = 1 ∧ te.size = 1 ∧ m ≠ 1 then (if r + m ≤ rows.length then .pure (.agg ((rows.drop r).take m).flatten, []) else .fail) else loadR T t a
    | _ => .fail
  | _, _ => loadR T t a
def storeA (T : TT) (t : TypeId) (a x : V) : Rd (V × Upd) := match arrOf T t, a with
  | some (m, te), .ptr i r 0 => .get i fun ob => match ob with
    | .buf st rows false pure => if st = 1 ∧ te.size = 1 ∧ m ≠ 1 then (if r + m ≤ rows.length ∧ x.cells.length = m ∧ x.cells.all V.isCell then
        .pure (.undef, [(i, some (.buf 1 (rows.take r ++ x.cells.map (fun c => [c]) ++ rows.drop (r + m)) false (pure && !V.anyIds x.cells)))]) else .fail) else storeR T t a x
    | _ => .fail
  | _, _ => storeR T t a x
def indexAddrA (T : TT) (t : TypeId) (x i : V) : Rd (V × Upd) := match arrOf T t with
  | some (m, te) => match natOf i with
    | some k => if k < m then (match x with
      | .ptr id r off => .get id fun ob => match ob with
        | .buf st _ _ _ => if st = 1 ∧ te.size = 1 then .pure (.ptr id (r + off + k) 0, []) else .pure (.ptr id r (off + k * te.size), [])
        | _ => .fail
      | .el row off => .pure (.el row (off + k * te.size), [])
      | _ => .fail) else .fail
    | none => .fail
  | none => indexAddrR T t x i
def indexA (T : TT) (t : TypeId) (x i : V) : Rd (V × Upd) := match arrOf T t with
  | some (m, te) => match natOf i, x with
    | some k, .agg cs => if k < m then ok (partOf te cs (k * te.size)) else .fail
    | _, _ => .fail
  | none => indexR T t x i
def sliceA (T : TT) (t : TypeId) (x : V) (lo hi mx : Option V) : Rd (V × Upd) := match arrOf T t with
  | some (m, te) => match x, optNat lo 0, optNat hi m, mx with
    | .ptr i r off, some l, some h, none => if te.size = 1 ∧ l ≤ h ∧ h ≤ m then .get i fun ob => match ob with
        | .buf st rows _ _ => if st = 1 ∧ r + off + m ≤ rows.length then .pure (.ms i 1 (r + off + l) (h - l) (some (m - l)), []) else .fail
        | _ => .fail
      else .fail
    | _, _, _, _ => .fail
  | none => sliceR T t x lo hi mx
def arrayAtR (T : TT) (t : TypeId) (x : V) : Rd (V × Upd) := match arrOf T t with
  | some (m, te) => if te.size = 1 ∧ m ≠ 0 then (match x with
    | .ms i 1 o len _ => if m ≤ len then .get i fun ob => match ob with
        | .buf .. => .pure (.ptr i o 0, [])
        | _ => .fail
      else .fail
    | .fz rows => if m ≤ rows.length ∧ rows.all (fun r => r.length == 1) then .pure (.el (rows.take m).flatten 0, []) else .fail
    | _ => .fail) else .fail
  | none => .fail

def lookupR (T : TT) (t : TypeId) (m k : V) (cok : Bool) : Rd (V × Upd) := match T t with
  | some ti' => match ti'.kd with
    | .map kt et => match T et with
      | some ti => if isKey T kt k then (match m with
          | .nilm => .pure (giveR ti cok none, [])
          | .map i => .get i fun ob => match ob with
            | .mp es _ => match findKey k es with
              | some r => .pure (giveR ti cok r, [])
              | none => .fail
            | _ => .fail
          | _ => .fail) else .fail
      | none => .fail
    | _ => .fail
  | none => .fail

def mapUpdateR (T : TT) (t : TypeId) (m k x : V) : Rd (V × Upd) := match T t with
  | some ti' => match ti'.kd with
    | .map kt et => match T et with
      | some ti => if isKey T kt k ∧ fits ti x then (match m with
          | .map i => .get i fun ob => match ob with
            | .mp es p => match setKey k x es with
              | some es => .pure (.undef, [(i, some (.mp es (p && !x.hasIds)))])
              | none => .fail
            | _ => .fail
          | _ => .fail) else .fail
      | none => .fail
    | _ => .fail
  | none => .fail

def extractR (x : V) (i : Nat) : Rd (V × Upd) := match x with
  | .tup vs => ok vs[i]?
  | _ => .fail

def pickR (c a b : V) : Rd (V × Upd) := match c with
  | .bool c => .pure (if c then a else b, [])
  | _ => .fail

def parts (e : Env) : List (Nat × Operand) → List (Nat × V)
  | [] => []
  | (i, x) :: r => (i, ev e x) :: parts e r

def aop (cx : Cx) (n : Nat) (e : Env) (o : Oper) : Rd (V × Upd) :=
  match o.op with
  | .move x => .pure (ev e x, [])
  | .assign x => .pure (ev e x, [])
  | .pick c a b => pickR (ev e c) (ev e a) (ev e b)
  | .alloc t => allocA cx.T n t
  | .box _ x => boxR n (ev e x)
  | .load t a => loadA cx.T t (ev e a)
  | .store t a x => storeA cx.T t (ev e a) (ev e x)
  | .build t ps => buildR cx.T t (parts e ps.toList)
  | .buildSlice t len ps => buildSliceR cx.T n t len (parts e ps.toList)
  | .nilCheck x => nilCheckR (ev e x)
  | .binOp op t x y _ => ok (bin cx.T op t (ev e x) (ev e y))
  | .unOp op _ x => ok (un op (ev e x))
  | .convert src dst x => convR cx.T n src dst (ev e x)
  | .makeSlice t len cap => makeSliceR cx.T n t (ev e len) (ev e cap)
  | .sliceToArrayPointer t x => arrayAtR cx.T t (ev e x)
  | .makeFunc (.func f) first caps => if first.size = 0 then .pure (.clo f (evs e caps.toList), []) else .fail
  | .makeMap _ none => .pure (.map n, [(n, some (.mp [] true))])
  | .slice t x lo hi mx => if mx.isSome && hi.isNone then .fail else sliceA cx.T t (ev e x) (lo.map (ev e)) (hi.map (ev e)) (mx.map (ev e))
  | .fieldAddr t x f => fieldAddrR cx.T t (ev e x) f
  | .field t x f => fieldR cx.T t (ev e x) f
  | .indexAddr t x i => indexAddrA cx.T t (ev e x) (ev e i)
  | .index t x i => indexA cx.T t (ev e x) (ev e i)
  | .lookup t m k cok => lookupR cx.T t (ev e m) (ev e k) cok
  | .mapUpdate t m k x => mapUpdateR cx.T t (ev e m) (ev e k) (ev e x)
  | .extract x i => extractR (ev e x) i
  | .call c => match c.callee with
    | .builtin b => builtinR cx.T n b c.argTypes.toList (evs e c.args.toList)
    | .value f => callV cx n (ev e f) (evs e c.args.toList)
    | .invoke .. => .fail
  | _ => .fail

/-! Code. -/
structure St where
  env : Env
  heap : Heap

inductive Ex where
  | normal | exit (id : Nat) | ret
  deriving DecidableEq

def yields (ops : Array Oper) (e : Env) (j : Nat) : Option Bool := match (ops[j]?).bind (·.dst) with
  | some t => match lk e t with
    | .bool b => some b
    | _ => none
  | none => none

/-- Is what an operation yields Go's value of none (where it wasn't wanted)? -/
def isSkip : V → Bool
  | .tup [] => true
  | _ => false
def skipped (ops : Array Oper) (e : Env) (j : Nat) : Bool := match (ops[j]?).bind (·.dst) with
  | some t => isSkip (lk e t)
  | none => false

/-- Is it wanted? 'none': that isn't known. -/
def wants (ops : Array Oper) (e : Env) (o : Oper) : Option Bool := match o.guard with
  | none => some true
  | some (j, b) => if skipped ops e j then some false else (yields ops e j).map (· == b)

def putDst (ntmps : Nat) (e : Env) (d : Option Tmp) (v : V) : Option Env := match d with
  | none => some e
  | some d => if d < ntmps then some ((d, v) :: e) else none

def runOps (cx : Cx) (ntmps : Nat) (ops : Array Oper) : List Oper → St → Option St
  | [], s => some s
  | o :: r, s => match wants ops s.env o with
    | none => none
    | some false => (putDst ntmps s.env o.dst (.tup [])).bind fun e => runOps cx ntmps ops r { s with env := e }
    | some true => match (aop cx s.heap.length s.env o).run s.heap [] with
      | none => none
      | some ((v, u), _) => (putDst ntmps s.env o.dst v).bind fun e => runOps cx ntmps ops r { env := e, heap := s.heap.puts u }

/-- What became of an operation: its answer, the objects it turned, those it looked at, and the number from which its new ones go. -/
structure Did where
  want : Bool
  val : V
  upd : Upd
  reads : List Nat

def Did.touches (a b : Did) : Bool := a.upd.any fun p => b.reads.contains p.1 || b.upd.any fun q => q.1 == p.1
def clash (a b : Did) : Bool := a.touches b || b.touches a

/-- Each operation clashes with those alone that are told to be ahead of it. -/
def apart (bef : Array Nat) (done : List Did) (j : Nat) (d : Did) : Bool :=
  (done.zipIdx.all fun (c, i) => !clash c d || (bef.getD j 0).testBit i)

/-- At least so many places. -/
def Heap.pad (n : Nat) (h : Heap) : Heap := if h.length < n then h ++ [none] else h

def runDraw (cx : Cx) (ntmps : Nat) (ops : Array Oper) (bef : Array Nat) : List Oper → Nat → St → List Did → Option St
  | [], _, s, _ => some s
  | o :: r, j, s, done => match wants ops s.env o with
    | none => none
    | some false => (putDst ntmps s.env o.dst (.tup [])).bind fun e => runDraw cx ntmps ops bef r (j + 1) { s with env := e } (done ++ [⟨false, .tup [], [], []⟩])
    | some true => match (aop cx s.heap.length s.env o).run s.heap [] with
      | none => none
      | some ((v, u), l) =>
        let d : Did := ⟨true, v, u, l⟩
        if apart bef done j d then
          (putDst ntmps s.env o.dst v).bind fun e => runDraw cx ntmps ops bef r (j + 1) { env := e, heap := Heap.pad (s.heap.length + 1) (s.heap.puts u) } (done ++ [d])
        else none

/-- Live slots alone, and the objects that they reach, numbered anew behind the first 'keep'. -/
def live (e : Env) : List Nat → Env
  | [] => []
  | t :: r => (t, lk e t) :: live e r

def reEnv (f : Nat → Option Nat) : Env → Option Env
  | [] => some []
  | (t, v) :: r => (V.re f v).bind fun v => (reEnv f r).map ((t, v) :: ·)

/-- A cell, found from an object: 'o' below 100 is the cell; else cell 'o % 100' leads to an object, in which 'o / 100 - 1' is gone on with. -/
def follow (h : Heap) : Nat → Nat → Nat → Option (Nat × Nat)
  | 0, _, _ => none
  | n + 1, i, o => if o < 100 then some (i, o) else match h.at? i with
    | some (.buf _ [row] _ _) => match row[o % 100]? with
      | some (.ptr j 0 0) => follow h n j (o / 100 - 1)
      | _ => none
    | _ => none
def whereN (s : St) (t o : Nat) : Option (Nat × Nat) := match lk s.env t with
  | .ptr i 0 0 => follow s.heap 8 i o
  | _ => none

/-- The rows of a list that stands in an object are frozen, cell by cell; the list itself stays an object. -/
def softOb (t : Nat) (s : St) : Option (Nat × Ob × Upd) := match lk s.env t with
  | .ms i _ _ _ _ => match s.heap.at? i with
    | some (.buf st rows false false) => match (frzGRows ms1 rows fun rows' u => Rd.pure (rows', u)).run s.heap [] with
      | some ((rows', u), _) => if (u.all fun p => p.1 != i) && rows'.all (fun r => r.all fun v => v.isCell && !v.hasIds) then some (i, .buf st rows' false true, u) else none
      | none => none
    | _ => none
  | _ => none
def soft (t : Nat) (s : St) : St := match softOb t s with
  | some (i, o, u) => { env := s.env, heap := (s.heap.puts u).put i (some o) }
  | none => s

/-- Nil slices become slices of empty objects. ('some 1000000': rows are frozen, see 'soft'.) -/
def thaw : List (Nat × Option Nat × Nat) → St → St
  | [], s => s
  | (t, none, st) :: r, s => match lk s.env t with
    | .nils => thaw r { env := (t, .ms s.heap.length st 0 0 none) :: s.env, heap := s.heap ++ [some (.buf st [] false true)] }
    | _ => thaw r s
  | (t, some o, st) :: r, s => if o = 1000000 then thaw r (soft t s) else match whereN s t o with
    | some (i, o) => match s.heap.at? i with
      | some (.buf st' [row] false _) => match row[o]? with
        | some .nils => thaw r { env := s.env, heap := (s.heap.put i (some (.buf st' [row.set o (.ms s.heap.length st 0 0 none)] false false))) ++ [some (.buf st [] false true)] }
        | _ => thaw r s
      | _ => thaw r s
    | none => thaw r s

def envIds : Env → List Nat
  | [] => []
  | (_, v) :: r => V.ids v ++ envIds r

def upto : Nat → List Nat → List Nat
  | 0, acc => acc
  | n + 1, acc => upto n (n :: acc)

/-- Does it begin with 'i', 'i' + 1, .., so many? -/
def begins : Nat → Nat → List Nat → Bool
  | 0, _, _ => true
  | _ + 1, _, [] => false
  | n + 1, i, x :: r => Nat.beq x i && begins n (i + 1) r

def gc (keep : Nat) (ts : List Nat) (s : St) : Option St :=
  let e := live s.env ts
  let l := reach keep s.heap 4096 (upto keep (envIds e)) []
  if begins keep 0 l then (reEnv (idx l) e).bind fun e => (pull s.heap (idx l) l).map fun h => { env := e, heap := h } else none

def rounds (body : St → Option (Ex × St)) : Nat → St → Option (Ex × St)
  | 0, _ => none
  | n + 1, s => match body s with
    | some (.normal, s) => rounds body n s
    | r => r

def aregion (cx : Cx) (ntmps : Nat) (ops : Array Oper) (draw : Bool) (s : St) : Option (Ex × St) :=
  (if draw then runDraw cx ntmps ops (Region.before ops) ops.toList 0 s [] else runOps cx ntmps ops ops.toList s).map fun s => (.normal, s)

def gcOf : List AGc → Option Nat → Option AGc
  | _, none => none
  | [], _ => none
  | g :: r, some id => bif Nat.beq g.block id then some g else gcOf r (some id)

def head (keep : Nat) (g : Option AGc) (s : St) : Option St := match g with
  | none => some s
  | some g => gc keep g.live (thaw g.thaw s)

def argEnv : Nat → List V → Env
  | _, [] => []
  | n, v :: r => (n, v) :: argEnv (n + 1) r

/-! Iterators: a function of which some slots hold yield; 'cb': a round of the loop over it (none: it goes on; else how it was left). -/
structure ISt where
  env : Env
  heap : Heap
  y : List Nat
  stop : Option Ex

abbrev CB := List V → Heap → Option (Option Ex × Heap)

/-- The arguments, if an operation calls yield. -/
def yArgs (o : Oper) (y : List Nat) : Option (List Operand) := match o.op with
  | .call c => match c.callee with
    | .value (.tmp t) => if y.contains t then some c.args.toList else none
    | _ => none
  | _ => none
def yDrop (d : Option Tmp) (y : List Nat) : List Nat := match d with
  | none => y
  | some d => y.filter fun t => !(t == d)
/-- Which slots hold yield behind an operation. -/
def yNext (o : Oper) (y : List Nat) : List Nat := match o.op, o.dst with
  | .move (.tmp t), some d => if y.contains t then d :: yDrop (some d) y else yDrop (some d) y
  | _, d => yDrop d y

def iOps (cx : Cx) (ntmps : Nat) (cb : CB) (ops : Array Oper) : List Oper → ISt → Option ISt
  | [], s => some s
  | o :: r, s => match wants ops s.env o with
    | none => none
    | some false => (putDst ntmps s.env o.dst (.tup [])).bind fun e => iOps cx ntmps cb ops r { s with env := e, y := yDrop o.dst s.y }
    | some true => match yArgs o s.y with
      | some ars => match s.stop with
        | some _ => none
        | none => match cb (evs s.env ars) s.heap with
          | none => none
          | some (st, h) => (putDst ntmps s.env o.dst (.bool st.isNone)).bind fun e => iOps cx ntmps cb ops r { env := e, heap := h, y := yDrop o.dst s.y, stop := st }
      | none => match (aop cx s.heap.length s.env o).run s.heap [] with
        | none => none
        | some ((v, u), _) => (putDst ntmps s.env o.dst v).bind fun e => iOps cx ntmps cb ops r { env := e, heap := s.heap.puts u, y := yNext o s.y, stop := s.stop }

def yDrops (ops : List Oper) (y : List Nat) : List Nat := ops.foldl (fun y o => yDrop o.dst y) y

/-- Of those that hold yield, the ones that live at a loop's head. -/
def yHead (g : Option AGc) (y : List Nat) : List Nat := match g with
  | none => y
  | some g => y.filter fun t => g.live.contains t

def iRounds (body : ISt → Option (Ex × ISt)) : Nat → ISt → Option (Ex × ISt)
  | 0, _ => none
  | n + 1, s => match body s with
    | some (.normal, s) => iRounds body n s
    | r => r

def icode (cx : Cx) (ntmps keep R : Nat) (gcs : List AGc) (cb : CB) : Code → Option Nat → ISt → Option (Ex × ISt)
  | .skip, _, s => some (.normal, s)
  | .region _ ops draw, _, s =>
    if draw then (if ops.toList.all (fun o => (yArgs o s.y).isNone) then (runDraw cx ntmps ops (Region.before ops) ops.toList 0 { env := s.env, heap := s.heap } []).map fun t => (.normal, { env := t.env, heap := t.heap, y := yDrops ops.toList s.y, stop := s.stop }) else none)
    else (iOps cx ntmps cb ops ops.toList s).map fun s => (.normal, s)
  | .seq a b, _, s => (icode cx ntmps keep R gcs cb a none s).bind fun r => match r with
    | (.normal, s) => icode cx ntmps keep R gcs cb b none s
    | r => some r
  | .cond c a b, _, s => match ev s.env c with
    | .bool true => icode cx ntmps keep R gcs cb a none s
    | .bool false => icode cx ntmps keep R gcs cb b none s
    | _ => none
  | .block id body, _, s => (icode cx ntmps keep R gcs cb body (some id) s).map fun r => match r with
    | (.exit i, s) => if i = id then (.normal, s) else (.exit i, s)
    | r => r
  | .loop body, id, s => iRounds (fun s => (head keep (gcOf gcs id) { env := s.env, heap := s.heap }).bind fun t => icode cx ntmps keep R gcs cb body none { env := t.env, heap := t.heap, y := yHead (gcOf gcs id) s.y, stop := s.stop }) R s
  | .exit id, _, s => some (.exit id, s)
  | .ret, _, s => some (.ret, s)
  | _, _, _ => none

def bindPs : List Tmp → List V → Env → Env
  | p :: ps, v :: vs, e => bindPs ps vs ((p, v) :: e)
  | _, _, e => e

/-- One round of a loop over an iterator. -/
def roundOf (ntmps : Nat) (ps : List Tmp) (env : Env) (assign body : Nat → St → Option (Ex × St)) : CB := fun args h =>
  if args.length = ps.length ∧ ps.all (· < ntmps) then (match assign h.length { env := bindPs ps args env, heap := h } with
    | some (.normal, s1) => (body h.length s1).map fun r => (match r.1 with | .normal => none | ex => some ex, r.2.heap)
    | _ => none) else none

/-- 'id': the block that stands around. -/
def acode (cx : Cx) (ntmps keep R : Nat) (gcs : List AGc) : Code → Option Nat → St → Option (Ex × St)
  | .skip, _, s => some (.normal, s)
  | .region _ ops draw, _, s => aregion cx ntmps ops draw s
  | .seq a b, _, s => (acode cx ntmps keep R gcs a none s).bind fun r => match r with
    | (.normal, s) => acode cx ntmps keep R gcs b none s
    | r => some r
  | .cond c a b, _, s => match ev s.env c with
    | .bool true => acode cx ntmps keep R gcs a none s
    | .bool false => acode cx ntmps keep R gcs b none s
    | _ => none
  | .block id body, _, s => (acode cx ntmps keep R gcs body (some id) s).map fun r => match r with
    | (.exit i, s) => if i = id then (.normal, s) else (.exit i, s)
    | r => r
  | .loop body, id, s => rounds (fun s => (head keep (gcOf gcs id) s).bind fun s => acode cx ntmps keep R gcs body none s) R s
  | .exit id, _, s => some (.exit id, s)
  | .ret, _, s => some (.ret, s)
  | .rangeFunc g ps assign body, _, s => match ev s.env g with
    | .clo gf caps => match cx.fns gf with
      | some fn => if fn.intr.isSome || fn.res.length != 0 || decide (fn.ntmps < caps.length + 1) then none else
        (icode cx fn.ntmps s.heap.length R fn.gcs (roundOf ntmps ps.toList s.env (fun k s1 => acode cx ntmps k R gcs assign none s1) (fun k s1 => acode cx ntmps k R gcs body none s1))
          fn.body none { env := argEnv 0 (.undef :: caps), heap := s.heap, y := [0], stop := none }).bind fun r => match r with
          | (.normal, t) | (.ret, t) => some (match t.stop with | none => Ex.normal | some ex => ex, { env := s.env, heap := t.heap })
          | _ => none
      | none => none
    | _ => none
  | _, _, _ => none

/-! Functions. -/
def resCell (T : TT) (s : St) (a : Tmp) (t : TypeId) : Option V := match lk s.env a, T t with
    | .ptr i r off, some ti => match s.heap.at? i with
      | some (.buf _ rows _ _) => match rows[r]? with
        | some row => partOf ti row off
        | none => none
      | _ => none
    | _, _ => none
/-- An array's variable may stand as rows of one cell. -/
def resArr (T : TT) (s : St) (a : Tmp) (t : TypeId) : Option V := match lk s.env a with
  | .ptr i r off => ((loadA T t (.ptr i r off)).run s.heap []).map fun x => x.1.1
  | _ => none
def resOne (T : TT) (s : St) : ResultVar → Option V
  | .tmp t => some (lk s.env t)
  | .cell a t => match resCell T s a t with
    | some v => some v
    | none => resArr T s a t

def resAll (T : TT) (s : St) : List ResultVar → Option (List V)
  | [] => some []
  | x :: r => (resOne T s x).bind fun v => (resAll T s r).map (v :: ·)

def oneOf : List V → V
  | [v] => v
  | vs => .tup vs

def finish (keep : Nat) (rfz : Bool) (v : V) (h : Heap) : Option (V × Heap) :=
  (if rfz then ((frz v fun v u => Rd.pure (v, u)).run h []).map fun r => (r.1.1, h.puts r.1.2) else some (v, h)).bind fun (v, h) =>
    let l := reach keep h 4096 (upto keep (V.ids v)) []
    if begins keep 0 l then (V.re (idx l) v).bind fun v => (pull h (idx l) l).map fun h => (v, h) else none

/-- slices.Clone. -/
def cloneFn (st bytes : Nat) : Fun := fun args hs => match args, hs with
  | [.fz rows], [] => if st ≠ 0 ∧ rows.all (fun r => r.length == st) ∧ rows.length * bytes ≤ 140737488355328 then some (.ms 0 st 0 rows.length none, [some (.buf st rows false true)]) else none
  | _, _ => none

def runFn (cx : Cx) (fn : AFn) (R : Nat) : Fun := fun args hs =>
  if fn.ntmps < args.length then none else
  (acode cx fn.ntmps hs.length R fn.gcs fn.body none { env := argEnv 0 args, heap := hs.map some }).bind fun r => match r with
    | (.normal, s) | (.ret, s) => (resAll cx.T s fn.res).bind fun vs => finish hs.length fn.rfz (oneOf vs) s.heap
    | _ => none

/-- A call, no deeper than so many. -/
def acall (T : TT) (fns : FuncId → Option AFn) (R : Nat) : Nat → FuncId → Fun
  | 0, _ => fun _ _ => none
  | d + 1, f => fun args hs => match fns f with
    | none => none
    | some fn => match fn.intr with
      | some F => F args hs
      | none => runFn { T, fns, call := acall T fns R d } fn R args hs

end Go.Proofs.YtoggbcckkjfkhaaGreat.R
/- The seat's types and functions, for the machine over values. -/
namespace Go.Proofs.YtoggbcckkjfkhaaGreat.R
open Go Go.Proofs
set_option maxRecDepth 100000
def table : List (Option TI) := [
  none,
  some ⟨.func, 1, 8, .nilf⟩,
  some ⟨.int .i64, 1, 8, .int .i64 0⟩,
  some ⟨.int .i64, 1, 8, .int .i64 0⟩,
  some ⟨.bool, 1, 1, .bool false⟩,
  some ⟨.int .u8, 1, 1, .int .u8 0⟩,
  none,
  none,
  none,
  some ⟨.str, 1, 16, .str ⟨#[]⟩⟩,
  none,
  none,
  none,
  none,
  none,
  none,
  none,
  none,
  none,
  none,
  none,
  none,
  none,
  some ⟨.struct [(0, 3), (1, 3), (2, 3), (3, 3), (4, 3), (5, 3), (6, 3)], 7, 56, .agg [.int .i64 0, .int .i64 0, .int .i64 0, .int .i64 0, .int .i64 0, .int .i64 0, .int .i64 0]⟩,
  some ⟨.slice 54, 1, 24, .nils⟩,
  some ⟨.slice 96, 1, 24, .nils⟩,
  some ⟨.slice 57, 1, 24, .nils⟩,
  none,
  some ⟨.struct [(0, 24), (1, 25), (2, 26)], 3, 72, .agg [.nils, .nils, .nils]⟩,
  none,
  some ⟨.struct [(0, 5), (1, 9), (2, 9), (3, 9), (4, 9), (5, 9)], 6, 88, .agg [.int .u8 0, .str ⟨#[]⟩, .str ⟨#[]⟩, .str ⟨#[]⟩, .str ⟨#[]⟩, .str ⟨#[]⟩]⟩,
  none,
  none,
  some ⟨.ptr, 1, 8, .nilp⟩,
  some ⟨.int .i64, 1, 8, .int .i64 0⟩,
  none,
  none,
  some ⟨.ptr, 1, 8, .nilp⟩,
  none,
  none,
  none,
  none,
  none,
  none,
  none,
  none,
  some ⟨.slice 156, 1, 24, .nils⟩,
  some ⟨.slice 9, 1, 24, .nils⟩,
  some ⟨.slice 163, 1, 24, .nils⟩,
  some ⟨.slice 111, 1, 24, .nils⟩,
  none,
  some ⟨.struct [(0, 4), (1, 46), (2, 47), (3, 48), (4, 49)], 5, 104, .agg [.bool false, .nils, .nils, .nils, .nils]⟩,
  none,
  none,
  some ⟨.int .u32, 1, 4, .int .u32 0⟩,
  some ⟨.int .u16, 1, 2, .int .u16 0⟩,
  none,
  some ⟨.struct [(0, 9), (1, 54), (2, 55)], 3, 24, .agg [.str ⟨#[]⟩, .int .u32 0, .int .u16 0]⟩,
  none,
  none,
  some ⟨.slice 107, 1, 24, .nils⟩,
  none,
  none,
  none,
  none,
  none,
  none,
  none,
  none,
  some ⟨.slice 412, 1, 24, .nils⟩,
  none,
  some ⟨.struct [(0, 23), (7, 33), (8, 37), (9, 69)], 10, 96, .agg [.int .i64 0, .int .i64 0, .int .i64 0, .int .i64 0, .int .i64 0, .int .i64 0, .int .i64 0, .nilp, .nilp, .nils]⟩,
  none,
  none,
  none,
  some ⟨.slice 30, 1, 24, .nils⟩,
  some ⟨.map 3 210, 1, 8, .nilm⟩,
  some ⟨.slice 315, 1, 24, .nils⟩,
  none,
  some ⟨.struct [(0, 3), (1, 76), (2, 76), (3, 77), (4, 4), (5, 3), (6, 4), (7, 3)], 8, 80, .agg [.int .i64 0, .nilm, .nilm, .nils, .bool false, .int .i64 0, .bool false, .int .i64 0]⟩,
  some ⟨.ptr, 1, 8, .nilp⟩,
  none,
  none,
  some ⟨.ptr, 1, 8, .nilp⟩,
  some ⟨.ptr, 1, 8, .nilp⟩,
  some ⟨.ptr, 1, 8, .nilp⟩,
  none,
  some ⟨.struct [(0, 23), (7, 80), (8, 83), (9, 84), (10, 85)], 11, 88, .agg [.int .i64 0, .int .i64 0, .int .i64 0, .int .i64 0, .int .i64 0, .int .i64 0, .int .i64 0, .nilp, .nilp, .nilp, .nilp]⟩,
  none,
  none,
  none,
  none,
  none,
  none,
  none,
  none,
  some ⟨.struct [(0, 54), (1, 54)], 2, 8, .agg [.int .u32 0, .int .u32 0]⟩,
  none,
  none,
  none,
  none,
  none,
  none,
  some ⟨.struct [(0, 5), (1, 9), (2, 54), (3, 55), (4, 9)], 5, 48, .agg [.int .u8 0, .str ⟨#[]⟩, .int .u32 0, .int .u16 0, .str ⟨#[]⟩]⟩,
  none,
  none,
  none,
  some ⟨.struct [(0, 54), (1, 51)], 6, 112, .agg [.int .u32 0, .bool false, .nils, .nils, .nils, .nils]⟩,
  none,
  none,
  none,
  some ⟨.struct [(0, 5), (1, 9), (2, 9), (3, 54), (4, 55), (5, 9)], 6, 64, .agg [.int .u8 0, .str ⟨#[]⟩, .str ⟨#[]⟩, .int .u32 0, .int .u16 0, .str ⟨#[]⟩]⟩,
  none,
  none,
  none,
  none,
  none,
  some ⟨.map 54 147, 1, 8, .nilm⟩,
  none,
  some ⟨.struct [(0, 33), (1, 23), (8, 117), (9, 3)], 10, 80, .agg [.nilp, .int .i64 0, .int .i64 0, .int .i64 0, .int .i64 0, .int .i64 0, .int .i64 0, .int .i64 0, .nilm, .int .i64 0]⟩,
  some ⟨.func, 1, 8, .nilf⟩,
  some ⟨.func, 1, 8, .nilf⟩,
  none,
  none,
  none,
  some ⟨.int .u8, 1, 1, .int .u8 0⟩,
  some ⟨.slice 125, 1, 24, .nils⟩,
  none,
  some ⟨.struct [(0, 126), (1, 24)], 2, 48, .agg [.nils, .nils]⟩,
  none,
  some ⟨.ptr, 1, 8, .nilp⟩,
  none,
  some ⟨.struct [(0, 130)], 1, 8, .agg [.nilp]⟩,
  some ⟨.func, 1, 8, .nilf⟩,
  none,
  none,
  none,
  none,
  some ⟨.func, 1, 8, .nilf⟩,
  none,
  none,
  some ⟨.func, 1, 8, .nilf⟩,
  some ⟨.ptr, 1, 8, .nilp⟩,
  none,
  some ⟨.struct [(0, 142)], 1, 8, .agg [.nilp]⟩,
  none,
  none,
  some ⟨.ptr, 1, 8, .nilp⟩,
  none,
  some ⟨.struct [(0, 51), (5, 4), (6, 3)], 7, 120, .agg [.bool false, .nils, .nils, .nils, .nils, .bool false, .int .i64 0]⟩,
  none,
  none,
  none,
  none,
  none,
  none,
  some ⟨.struct [(0, 9), (1, 9)], 2, 32, .agg [.str ⟨#[]⟩, .str ⟨#[]⟩]⟩,
  some ⟨.func, 1, 8, .nilf⟩,
  none,
  none,
  none,
  some ⟨.struct [(0, 9), (1, 9)], 2, 32, .agg [.str ⟨#[]⟩, .str ⟨#[]⟩]⟩,
  none,
  some ⟨.struct [(0, 54), (1, 55), (2, 161)], 4, 40, .agg [.int .u32 0, .int .u16 0, .str ⟨#[]⟩, .str ⟨#[]⟩]⟩,
  none,
  none,
  none,
  none,
  none,
  some ⟨.slice 182, 1, 24, .nils⟩,
  none,
  some ⟨.struct [(0, 169), (1, 3), (2, 24)], 3, 56, .agg [.nils, .int .i64 0, .nils]⟩,
  none,
  none,
  none,
  some ⟨.struct [(0, 9), (1, 9), (2, 4)], 3, 40, .agg [.str ⟨#[]⟩, .str ⟨#[]⟩, .bool false]⟩,
  none,
  none,
  none,
  some ⟨.int .u64, 1, 8, .int .u64 0⟩,
  none,
  none,
  some ⟨.struct [(0, 9), (1, 9), (2, 51)], 7, 136, .agg [.str ⟨#[]⟩, .str ⟨#[]⟩, .bool false, .nils, .nils, .nils, .nils]⟩,
  none,
  none,
  none,
  none,
  none,
  none,
  none,
  none,
  none,
  none,
  none,
  none,
  none,
  none,
  none,
  none,
  none,
  some ⟨.struct [(0, 24), (1, 24)], 2, 48, .agg [.nils, .nils]⟩,
  none,
  none,
  some ⟨.func, 1, 8, .nilf⟩,
  none,
  none,
  none,
  none,
  some ⟨.struct [(0, 47), (1, 26)], 2, 48, .agg [.nils, .nils]⟩,
  none,
  some ⟨.slice 5, 1, 24, .nils⟩,
  none,
  none,
  none,
  none,
  none,
  none,
  none,
  none,
  none,
  some ⟨.int .u64, 1, 8, .int .u64 0⟩,
  none,
  none,
  none,
  none,
  none,
  none,
  none,
  none,
  none,
  none,
  none,
  none,
  none,
  none,
  none,
  none,
  none,
  none,
  none,
  some ⟨.ptr, 1, 8, .nilp⟩,
  none,
  none,
  none,
  none,
  none,
  none,
  none,
  none,
  none,
  none,
  none,
  none,
  none,
  none,
  none,
  none,
  none,
  none,
  none,
  none,
  none,
  none,
  none,
  none,
  none,
  none,
  none,
  none,
  none,
  none,
  none,
  none,
  none,
  none,
  none,
  none,
  none,
  none,
  none,
  none,
  none,
  none,
  none,
  none,
  none,
  none,
  none,
  none,
  none,
  some ⟨.ptr, 1, 8, .nilp⟩,
  none,
  some ⟨.func, 1, 8, .nilf⟩,
  none,
  some ⟨.func, 1, 8, .nilf⟩,
  none,
  none,
  none,
  none,
  none,
  none,
  none,
  none,
  none,
  none,
  none,
  none,
  none,
  none,
  none,
  none,
  none,
  none,
  none,
  none,
  some ⟨.struct [(0, 3), (1, 210)], 2, 32, .agg [.int .i64 0, .nils]⟩,
  none,
  none,
  none,
  none,
  none,
  none,
  none,
  none,
  none,
  none,
  none,
  none,
  none,
  none,
  none,
  none,
  none,
  none,
  none,
  none,
  none,
  some ⟨.struct [(0, 47), (1, 47)], 2, 48, .agg [.nils, .nils]⟩,
  none,
  none,
  none,
  none,
  none,
  none,
  none,
  none,
  none,
  none,
  none,
  none,
  none,
  none,
  none,
  none,
  none,
  none,
  none,
  none,
  none,
  none,
  none,
  none,
  none,
  none,
  none,
  none,
  none,
  none,
  none,
  none,
  none,
  none,
  none,
  none,
  none,
  none,
  none,
  none,
  none,
  none,
  none,
  none,
  none,
  none,
  none,
  none,
  none,
  none,
  none,
  none,
  none,
  none,
  none,
  none,
  none,
  none,
  none,
  none,
  none,
  none,
  none,
  none,
  none,
  none,
  none,
  none,
  none,
  none,
  none,
  none,
  none,
  none,
  some ⟨.struct [(0, 9), (1, 46)], 2, 40, .agg [.str ⟨#[]⟩, .nils]⟩]
def T : TT := fun t => match table[t]? with | some x => x | none => none
theorem T_1 : T 1 = some ⟨.func, 1, 8, .nilf⟩ := rfl
theorem T_2 : T 2 = some ⟨.int .i64, 1, 8, .int .i64 0⟩ := rfl
theorem T_3 : T 3 = some ⟨.int .i64, 1, 8, .int .i64 0⟩ := rfl
theorem T_4 : T 4 = some ⟨.bool, 1, 1, .bool false⟩ := rfl
theorem T_5 : T 5 = some ⟨.int .u8, 1, 1, .int .u8 0⟩ := rfl
theorem T_9 : T 9 = some ⟨.str, 1, 16, .str ⟨#[]⟩⟩ := rfl
theorem T_23 : T 23 = some ⟨.struct [(0, 3), (1, 3), (2, 3), (3, 3), (4, 3), (5, 3), (6, 3)], 7, 56, .agg [.int .i64 0, .int .i64 0, .int .i64 0, .int .i64 0, .int .i64 0, .int .i64 0, .int .i64 0]⟩ := rfl
theorem T_24 : T 24 = some ⟨.slice 54, 1, 24, .nils⟩ := rfl
theorem T_25 : T 25 = some ⟨.slice 96, 1, 24, .nils⟩ := rfl
theorem T_26 : T 26 = some ⟨.slice 57, 1, 24, .nils⟩ := rfl
theorem T_28 : T 28 = some ⟨.struct [(0, 24), (1, 25), (2, 26)], 3, 72, .agg [.nils, .nils, .nils]⟩ := rfl
theorem T_30 : T 30 = some ⟨.struct [(0, 5), (1, 9), (2, 9), (3, 9), (4, 9), (5, 9)], 6, 88, .agg [.int .u8 0, .str ⟨#[]⟩, .str ⟨#[]⟩, .str ⟨#[]⟩, .str ⟨#[]⟩, .str ⟨#[]⟩]⟩ := rfl
theorem T_33 : T 33 = some ⟨.ptr, 1, 8, .nilp⟩ := rfl
theorem T_34 : T 34 = some ⟨.int .i64, 1, 8, .int .i64 0⟩ := rfl
theorem T_37 : T 37 = some ⟨.ptr, 1, 8, .nilp⟩ := rfl
theorem T_46 : T 46 = some ⟨.slice 156, 1, 24, .nils⟩ := rfl
theorem T_47 : T 47 = some ⟨.slice 9, 1, 24, .nils⟩ := rfl
theorem T_48 : T 48 = some ⟨.slice 163, 1, 24, .nils⟩ := rfl
theorem T_49 : T 49 = some ⟨.slice 111, 1, 24, .nils⟩ := rfl
theorem T_51 : T 51 = some ⟨.struct [(0, 4), (1, 46), (2, 47), (3, 48), (4, 49)], 5, 104, .agg [.bool false, .nils, .nils, .nils, .nils]⟩ := rfl
theorem T_54 : T 54 = some ⟨.int .u32, 1, 4, .int .u32 0⟩ := rfl
theorem T_55 : T 55 = some ⟨.int .u16, 1, 2, .int .u16 0⟩ := rfl
theorem T_57 : T 57 = some ⟨.struct [(0, 9), (1, 54), (2, 55)], 3, 24, .agg [.str ⟨#[]⟩, .int .u32 0, .int .u16 0]⟩ := rfl
theorem T_60 : T 60 = some ⟨.slice 107, 1, 24, .nils⟩ := rfl
theorem T_69 : T 69 = some ⟨.slice 412, 1, 24, .nils⟩ := rfl
theorem T_71 : T 71 = some ⟨.struct [(0, 23), (7, 33), (8, 37), (9, 69)], 10, 96, .agg [.int .i64 0, .int .i64 0, .int .i64 0, .int .i64 0, .int .i64 0, .int .i64 0, .int .i64 0, .nilp, .nilp, .nils]⟩ := rfl
theorem T_75 : T 75 = some ⟨.slice 30, 1, 24, .nils⟩ := rfl
theorem T_76 : T 76 = some ⟨.map 3 210, 1, 8, .nilm⟩ := rfl
theorem T_77 : T 77 = some ⟨.slice 315, 1, 24, .nils⟩ := rfl
theorem T_79 : T 79 = some ⟨.struct [(0, 3), (1, 76), (2, 76), (3, 77), (4, 4), (5, 3), (6, 4), (7, 3)], 8, 80, .agg [.int .i64 0, .nilm, .nilm, .nils, .bool false, .int .i64 0, .bool false, .int .i64 0]⟩ := rfl
theorem T_80 : T 80 = some ⟨.ptr, 1, 8, .nilp⟩ := rfl
theorem T_83 : T 83 = some ⟨.ptr, 1, 8, .nilp⟩ := rfl
theorem T_84 : T 84 = some ⟨.ptr, 1, 8, .nilp⟩ := rfl
theorem T_85 : T 85 = some ⟨.ptr, 1, 8, .nilp⟩ := rfl
theorem T_87 : T 87 = some ⟨.struct [(0, 23), (7, 80), (8, 83), (9, 84), (10, 85)], 11, 88, .agg [.int .i64 0, .int .i64 0, .int .i64 0, .int .i64 0, .int .i64 0, .int .i64 0, .int .i64 0, .nilp, .nilp, .nilp, .nilp]⟩ := rfl
theorem T_96 : T 96 = some ⟨.struct [(0, 54), (1, 54)], 2, 8, .agg [.int .u32 0, .int .u32 0]⟩ := rfl
theorem T_103 : T 103 = some ⟨.struct [(0, 5), (1, 9), (2, 54), (3, 55), (4, 9)], 5, 48, .agg [.int .u8 0, .str ⟨#[]⟩, .int .u32 0, .int .u16 0, .str ⟨#[]⟩]⟩ := rfl
theorem T_107 : T 107 = some ⟨.struct [(0, 54), (1, 51)], 6, 112, .agg [.int .u32 0, .bool false, .nils, .nils, .nils, .nils]⟩ := rfl
theorem T_111 : T 111 = some ⟨.struct [(0, 5), (1, 9), (2, 9), (3, 54), (4, 55), (5, 9)], 6, 64, .agg [.int .u8 0, .str ⟨#[]⟩, .str ⟨#[]⟩, .int .u32 0, .int .u16 0, .str ⟨#[]⟩]⟩ := rfl
theorem T_117 : T 117 = some ⟨.map 54 147, 1, 8, .nilm⟩ := rfl
theorem T_119 : T 119 = some ⟨.struct [(0, 33), (1, 23), (8, 117), (9, 3)], 10, 80, .agg [.nilp, .int .i64 0, .int .i64 0, .int .i64 0, .int .i64 0, .int .i64 0, .int .i64 0, .int .i64 0, .nilm, .int .i64 0]⟩ := rfl
theorem T_120 : T 120 = some ⟨.func, 1, 8, .nilf⟩ := rfl
theorem T_121 : T 121 = some ⟨.func, 1, 8, .nilf⟩ := rfl
theorem T_125 : T 125 = some ⟨.int .u8, 1, 1, .int .u8 0⟩ := rfl
theorem T_126 : T 126 = some ⟨.slice 125, 1, 24, .nils⟩ := rfl
theorem T_128 : T 128 = some ⟨.struct [(0, 126), (1, 24)], 2, 48, .agg [.nils, .nils]⟩ := rfl
theorem T_130 : T 130 = some ⟨.ptr, 1, 8, .nilp⟩ := rfl
theorem T_132 : T 132 = some ⟨.struct [(0, 130)], 1, 8, .agg [.nilp]⟩ := rfl
theorem T_133 : T 133 = some ⟨.func, 1, 8, .nilf⟩ := rfl
theorem T_138 : T 138 = some ⟨.func, 1, 8, .nilf⟩ := rfl
theorem T_141 : T 141 = some ⟨.func, 1, 8, .nilf⟩ := rfl
theorem T_142 : T 142 = some ⟨.ptr, 1, 8, .nilp⟩ := rfl
theorem T_144 : T 144 = some ⟨.struct [(0, 142)], 1, 8, .agg [.nilp]⟩ := rfl
theorem T_147 : T 147 = some ⟨.ptr, 1, 8, .nilp⟩ := rfl
theorem T_149 : T 149 = some ⟨.struct [(0, 51), (5, 4), (6, 3)], 7, 120, .agg [.bool false, .nils, .nils, .nils, .nils, .bool false, .int .i64 0]⟩ := rfl
theorem T_156 : T 156 = some ⟨.struct [(0, 9), (1, 9)], 2, 32, .agg [.str ⟨#[]⟩, .str ⟨#[]⟩]⟩ := rfl
theorem T_157 : T 157 = some ⟨.func, 1, 8, .nilf⟩ := rfl
theorem T_161 : T 161 = some ⟨.struct [(0, 9), (1, 9)], 2, 32, .agg [.str ⟨#[]⟩, .str ⟨#[]⟩]⟩ := rfl
theorem T_163 : T 163 = some ⟨.struct [(0, 54), (1, 55), (2, 161)], 4, 40, .agg [.int .u32 0, .int .u16 0, .str ⟨#[]⟩, .str ⟨#[]⟩]⟩ := rfl
theorem T_169 : T 169 = some ⟨.slice 182, 1, 24, .nils⟩ := rfl
theorem T_171 : T 171 = some ⟨.struct [(0, 169), (1, 3), (2, 24)], 3, 56, .agg [.nils, .int .i64 0, .nils]⟩ := rfl
theorem T_175 : T 175 = some ⟨.struct [(0, 9), (1, 9), (2, 4)], 3, 40, .agg [.str ⟨#[]⟩, .str ⟨#[]⟩, .bool false]⟩ := rfl
theorem T_179 : T 179 = some ⟨.int .u64, 1, 8, .int .u64 0⟩ := rfl
theorem T_182 : T 182 = some ⟨.struct [(0, 9), (1, 9), (2, 51)], 7, 136, .agg [.str ⟨#[]⟩, .str ⟨#[]⟩, .bool false, .nils, .nils, .nils, .nils]⟩ := rfl
theorem T_200 : T 200 = some ⟨.struct [(0, 24), (1, 24)], 2, 48, .agg [.nils, .nils]⟩ := rfl
theorem T_203 : T 203 = some ⟨.func, 1, 8, .nilf⟩ := rfl
theorem T_208 : T 208 = some ⟨.struct [(0, 47), (1, 26)], 2, 48, .agg [.nils, .nils]⟩ := rfl
theorem T_210 : T 210 = some ⟨.slice 5, 1, 24, .nils⟩ := rfl
theorem T_220 : T 220 = some ⟨.int .u64, 1, 8, .int .u64 0⟩ := rfl
theorem T_240 : T 240 = some ⟨.ptr, 1, 8, .nilp⟩ := rfl
theorem T_290 : T 290 = some ⟨.ptr, 1, 8, .nilp⟩ := rfl
theorem T_292 : T 292 = some ⟨.func, 1, 8, .nilf⟩ := rfl
theorem T_294 : T 294 = some ⟨.func, 1, 8, .nilf⟩ := rfl
theorem T_315 : T 315 = some ⟨.struct [(0, 3), (1, 210)], 2, 32, .agg [.int .i64 0, .nils]⟩ := rfl
theorem T_337 : T 337 = some ⟨.struct [(0, 47), (1, 47)], 2, 48, .agg [.nils, .nils]⟩ := rfl
theorem T_412 : T 412 = some ⟨.struct [(0, 9), (1, 46)], 2, 40, .agg [.str ⟨#[]⟩, .nils]⟩ := rfl
noncomputable def fn3 : AFn := { body := (Tryz.f3.body).getD .skip, ntmps := 173, res := Tryz.f3.results.toList, pfz := [true, true, true], rfz := true, intr := none, gcs := [] }
noncomputable def fn4 : AFn := { body := (Tryz.f4.body).getD .skip, ntmps := 18, res := Tryz.f4.results.toList, pfz := [true], rfz := true, intr := none, gcs := [] }
noncomputable def fn5 : AFn := { body := (Tryz.f5.body).getD .skip, ntmps := 71, res := Tryz.f5.results.toList, pfz := [], rfz := true, intr := none, gcs := [⟨0, [1, 3, 4], []⟩] }
noncomputable def fn6 : AFn := { body := (Tryz.f6.body).getD .skip, ntmps := 15, res := Tryz.f6.results.toList, pfz := [true], rfz := true, intr := none, gcs := [] }
noncomputable def fn7 : AFn := { body := (Tryz.f7.body).getD .skip, ntmps := 64, res := Tryz.f7.results.toList, pfz := [true, true, true], rfz := true, intr := none, gcs := [] }
noncomputable def fn8 : AFn := { body := (Tryz.f8.body).getD .skip, ntmps := 67, res := Tryz.f8.results.toList, pfz := [true], rfz := true, intr := none, gcs := [] }
noncomputable def fn9 : AFn := { body := (Tryz.f9.body).getD .skip, ntmps := 16, res := Tryz.f9.results.toList, pfz := [true], rfz := true, intr := none, gcs := [] }
noncomputable def fn10 : AFn := { body := (Tryz.f10.body).getD .skip, ntmps := 74, res := Tryz.f10.results.toList, pfz := [true], rfz := true, intr := none, gcs := [⟨0, [1, 29, 30], []⟩, ⟨2, [1, 51, 52], []⟩] }
noncomputable def fn11 : AFn := { body := (Tryz.f11.body).getD .skip, ntmps := 43, res := Tryz.f11.results.toList, pfz := [true, true], rfz := true, intr := none, gcs := [⟨0, [2, 3, 15, 16], []⟩] }
noncomputable def fn12 : AFn := { body := (Tryz.f12.body).getD .skip, ntmps := 22, res := Tryz.f12.results.toList, pfz := [true], rfz := true, intr := none, gcs := [] }
noncomputable def fn13 : AFn := { body := (Tryz.f13.body).getD .skip, ntmps := 62, res := Tryz.f13.results.toList, pfz := [true, true, true], rfz := true, intr := none, gcs := [⟨1, [0, 2, 11], []⟩] }
noncomputable def fn14 : AFn := { body := (Tryz.f14.body).getD .skip, ntmps := 17, res := Tryz.f14.results.toList, pfz := [true, true], rfz := true, intr := none, gcs := [] }
noncomputable def fn15 : AFn := { body := (Tryz.f15.body).getD .skip, ntmps := 17, res := Tryz.f15.results.toList, pfz := [true, true], rfz := true, intr := none, gcs := [] }
noncomputable def fn16 : AFn := { body := (Tryz.f16.body).getD .skip, ntmps := 46, res := Tryz.f16.results.toList, pfz := [true], rfz := true, intr := none, gcs := [⟨0, [0, 4, 15, 16], []⟩] }
noncomputable def fn17 : AFn := { body := (Tryz.f17.body).getD .skip, ntmps := 9, res := Tryz.f17.results.toList, pfz := [true], rfz := true, intr := none, gcs := [] }
noncomputable def fn18 : AFn := { body := (Tryz.f18.body).getD .skip, ntmps := 103, res := Tryz.f18.results.toList, pfz := [true, true], rfz := true, intr := none, gcs := [] }
noncomputable def fn19 : AFn := { body := (Tryz.f19.body).getD .skip, ntmps := 10, res := Tryz.f19.results.toList, pfz := [true], rfz := true, intr := none, gcs := [] }
noncomputable def fn20 : AFn := { body := (Tryz.f20.body).getD .skip, ntmps := 10, res := Tryz.f20.results.toList, pfz := [true], rfz := true, intr := none, gcs := [] }
noncomputable def fn21 : AFn := { body := (Tryz.f21.body).getD .skip, ntmps := 10, res := Tryz.f21.results.toList, pfz := [true], rfz := true, intr := none, gcs := [] }
noncomputable def fn22 : AFn := { body := (Tryz.f22.body).getD .skip, ntmps := 10, res := Tryz.f22.results.toList, pfz := [true], rfz := true, intr := none, gcs := [] }
noncomputable def fn23 : AFn := { body := (Tryz.f23.body).getD .skip, ntmps := 26, res := Tryz.f23.results.toList, pfz := [true, true], rfz := true, intr := none, gcs := [⟨0, [0, 1, 12, 13], []⟩] }
noncomputable def fn24 : AFn := { body := (Tryz.f24.body).getD .skip, ntmps := 20, res := Tryz.f24.results.toList, pfz := [true], rfz := true, intr := none, gcs := [⟨0, [0, 8, 9], []⟩] }
noncomputable def fn25 : AFn := { body := (Tryz.f25.body).getD .skip, ntmps := 39, res := Tryz.f25.results.toList, pfz := [true], rfz := true, intr := none, gcs := [] }
noncomputable def fn26 : AFn := { body := (Tryz.f26.body).getD .skip, ntmps := 2, res := Tryz.f26.results.toList, pfz := [], rfz := true, intr := none, gcs := [] }
noncomputable def fn27 : AFn := { body := (Tryz.f27.body).getD .skip, ntmps := 21, res := Tryz.f27.results.toList, pfz := [true, true], rfz := true, intr := none, gcs := [] }
noncomputable def fn28 : AFn := { body := (Tryz.f28.body).getD .skip, ntmps := 49, res := Tryz.f28.results.toList, pfz := [true], rfz := true, intr := none, gcs := [] }
noncomputable def fn29 : AFn := { body := (Tryz.f29.body).getD .skip, ntmps := 41, res := Tryz.f29.results.toList, pfz := [true], rfz := true, intr := none, gcs := [⟨0, [4, 17, 18, 19], []⟩] }
noncomputable def fn30 : AFn := { body := (Tryz.f30.body).getD .skip, ntmps := 44, res := Tryz.f30.results.toList, pfz := [true], rfz := true, intr := none, gcs := [⟨0, [0, 4, 8, 9, 10], [(4, some 100, 1), (4, some 200, 1)]⟩] }
noncomputable def fn31 : AFn := { body := (Tryz.f31.body).getD .skip, ntmps := 29, res := Tryz.f31.results.toList, pfz := [true], rfz := true, intr := none, gcs := [⟨0, [4, 5, 9, 10, 11], [(4, some 100, 1), (4, some 200, 3)]⟩] }
noncomputable def fn32 : AFn := { body := (Tryz.f32.body).getD .skip, ntmps := 17, res := Tryz.f32.results.toList, pfz := [true], rfz := true, intr := none, gcs := [⟨0, [1, 3], []⟩] }
noncomputable def fn33 : AFn := { body := (Tryz.f33.body).getD .skip, ntmps := 34, res := Tryz.f33.results.toList, pfz := [true], rfz := true, intr := none, gcs := [⟨0, [0, 5, 6], []⟩] }
noncomputable def fn34 : AFn := { body := (Tryz.f34.body).getD .skip, ntmps := 46, res := Tryz.f34.results.toList, pfz := [true], rfz := true, intr := none, gcs := [⟨0, [0, 8, 9], []⟩] }
noncomputable def fn35 : AFn := { body := (Tryz.f35.body).getD .skip, ntmps := 16, res := Tryz.f35.results.toList, pfz := [true, true], rfz := true, intr := none, gcs := [] }
noncomputable def fn36 : AFn := { body := (Tryz.f36.body).getD .skip, ntmps := 26, res := Tryz.f36.results.toList, pfz := [true, true], rfz := true, intr := none, gcs := [⟨0, [0, 1, 12, 13], []⟩] }
noncomputable def fn37 : AFn := { body := (Tryz.f37.body).getD .skip, ntmps := 10, res := Tryz.f37.results.toList, pfz := [true], rfz := true, intr := none, gcs := [] }
noncomputable def fn38 : AFn := { body := (Tryz.f38.body).getD .skip, ntmps := 23, res := Tryz.f38.results.toList, pfz := [true], rfz := true, intr := none, gcs := [] }
noncomputable def fn39 : AFn := { body := (Tryz.f39.body).getD .skip, ntmps := 21, res := Tryz.f39.results.toList, pfz := [true], rfz := true, intr := none, gcs := [] }
noncomputable def fn40 : AFn := { body := (Tryz.f40.body).getD .skip, ntmps := 17, res := Tryz.f40.results.toList, pfz := [true, true], rfz := true, intr := none, gcs := [] }
noncomputable def fn41 : AFn := { body := (Tryz.f41.body).getD .skip, ntmps := 52, res := Tryz.f41.results.toList, pfz := [true, true], rfz := true, intr := none, gcs := [] }
noncomputable def fn42 : AFn := { body := (Tryz.f42.body).getD .skip, ntmps := 74, res := Tryz.f42.results.toList, pfz := [true, true], rfz := true, intr := none, gcs := [] }
noncomputable def fn43 : AFn := { body := (Tryz.f43.body).getD .skip, ntmps := 9, res := Tryz.f43.results.toList, pfz := [true, true], rfz := true, intr := none, gcs := [] }
noncomputable def fn45 : AFn := { body := (Tryz.f45.body).getD .skip, ntmps := 70, res := Tryz.f45.results.toList, pfz := [true, true], rfz := true, intr := none, gcs := [] }
noncomputable def fn46 : AFn := { body := (Tryz.f46.body).getD .skip, ntmps := 39, res := Tryz.f46.results.toList, pfz := [true, true], rfz := true, intr := none, gcs := [] }
noncomputable def fn47 : AFn := { body := (Tryz.f47.body).getD .skip, ntmps := 41, res := Tryz.f47.results.toList, pfz := [true, true, true], rfz := true, intr := none, gcs := [] }
noncomputable def fn48 : AFn := { body := (Tryz.f48.body).getD .skip, ntmps := 26, res := Tryz.f48.results.toList, pfz := [true, true, true], rfz := true, intr := none, gcs := [] }
noncomputable def fn54 : AFn := { body := (Tryz.f54.body).getD .skip, ntmps := 5, res := Tryz.f54.results.toList, pfz := [true], rfz := true, intr := none, gcs := [] }
noncomputable def fn58 : AFn := { body := (Tryz.f58.body).getD .skip, ntmps := 18, res := Tryz.f58.results.toList, pfz := [true, true], rfz := true, intr := none, gcs := [] }
noncomputable def fn59 : AFn := { body := (Tryz.f59.body).getD .skip, ntmps := 36, res := Tryz.f59.results.toList, pfz := [true], rfz := true, intr := none, gcs := [] }
noncomputable def fn60 : AFn := { body := (Tryz.f60.body).getD .skip, ntmps := 9, res := Tryz.f60.results.toList, pfz := [true], rfz := true, intr := none, gcs := [] }
noncomputable def fn61 : AFn := { body := (Tryz.f61.body).getD .skip, ntmps := 11, res := Tryz.f61.results.toList, pfz := [true], rfz := true, intr := none, gcs := [] }
noncomputable def fn62 : AFn := { body := (Tryz.f62.body).getD .skip, ntmps := 11, res := Tryz.f62.results.toList, pfz := [true, false], rfz := true, intr := none, gcs := [] }
noncomputable def fn63 : AFn := { body := (Tryz.f63.body).getD .skip, ntmps := 17, res := Tryz.f63.results.toList, pfz := [true, true], rfz := true, intr := none, gcs := [] }
noncomputable def fn64 : AFn := { body := (Tryz.f64.body).getD .skip, ntmps := 14, res := Tryz.f64.results.toList, pfz := [true, false], rfz := true, intr := none, gcs := [] }
noncomputable def fn65 : AFn := { body := (Tryz.f65.body).getD .skip, ntmps := 9, res := Tryz.f65.results.toList, pfz := [true, true], rfz := false, intr := none, gcs := [] }
noncomputable def fn66 : AFn := { body := (Tryz.f66.body).getD .skip, ntmps := 9, res := Tryz.f66.results.toList, pfz := [true, true], rfz := false, intr := none, gcs := [] }
noncomputable def fn67 : AFn := { body := (Tryz.f67.body).getD .skip, ntmps := 16, res := Tryz.f67.results.toList, pfz := [true], rfz := true, intr := none, gcs := [] }
noncomputable def fn68 : AFn := { body := (Tryz.f68.body).getD .skip, ntmps := 4, res := Tryz.f68.results.toList, pfz := [], rfz := true, intr := none, gcs := [] }
noncomputable def fn69 : AFn := { body := (Tryz.f69.body).getD .skip, ntmps := 59, res := Tryz.f69.results.toList, pfz := [true, true, true], rfz := true, intr := none, gcs := [] }
noncomputable def fn70 : AFn := { body := (Tryz.f70.body).getD .skip, ntmps := 4, res := Tryz.f70.results.toList, pfz := [], rfz := true, intr := none, gcs := [] }
noncomputable def fn71 : AFn := { body := (Tryz.f71.body).getD .skip, ntmps := 21, res := Tryz.f71.results.toList, pfz := [true, true], rfz := true, intr := none, gcs := [] }
noncomputable def fn72 : AFn := { body := (Tryz.f72.body).getD .skip, ntmps := 8, res := Tryz.f72.results.toList, pfz := [true], rfz := false, intr := some (cloneFn 1 4), gcs := [] }
noncomputable def fn73 : AFn := { body := (Tryz.f73.body).getD .skip, ntmps := 5, res := Tryz.f73.results.toList, pfz := [true], rfz := true, intr := none, gcs := [] }
noncomputable def fn74 : AFn := { body := (Tryz.f74.body).getD .skip, ntmps := 5, res := Tryz.f74.results.toList, pfz := [true], rfz := true, intr := none, gcs := [] }
noncomputable def fn75 : AFn := { body := (Tryz.f75.body).getD .skip, ntmps := 25, res := Tryz.f75.results.toList, pfz := [true, true], rfz := true, intr := none, gcs := [] }
noncomputable def fn76 : AFn := { body := (Tryz.f76.body).getD .skip, ntmps := 16, res := Tryz.f76.results.toList, pfz := [true, true], rfz := true, intr := none, gcs := [] }
noncomputable def fn78 : AFn := { body := (Tryz.f78.body).getD .skip, ntmps := 18, res := Tryz.f78.results.toList, pfz := [true, true], rfz := true, intr := none, gcs := [] }
noncomputable def fn79 : AFn := { body := (Tryz.f79.body).getD .skip, ntmps := 20, res := Tryz.f79.results.toList, pfz := [true], rfz := false, intr := none, gcs := [] }
noncomputable def fn80 : AFn := { body := (Tryz.f80.body).getD .skip, ntmps := 36, res := Tryz.f80.results.toList, pfz := [true], rfz := true, intr := none, gcs := [] }
noncomputable def fn81 : AFn := { body := (Tryz.f81.body).getD .skip, ntmps := 49, res := Tryz.f81.results.toList, pfz := [true, true, true], rfz := false, intr := none, gcs := [⟨0, [0, 1, 2, 8, 9, 10], []⟩] }
noncomputable def fn82 : AFn := { body := (Tryz.f82.body).getD .skip, ntmps := 15, res := Tryz.f82.results.toList, pfz := [true, true], rfz := true, intr := none, gcs := [] }
noncomputable def fn86 : AFn := { body := (Tryz.f86.body).getD .skip, ntmps := 31, res := Tryz.f86.results.toList, pfz := [true, true, true], rfz := true, intr := none, gcs := [] }
noncomputable def fn87 : AFn := { body := (Tryz.f87.body).getD .skip, ntmps := 29, res := Tryz.f87.results.toList, pfz := [true, true], rfz := true, intr := none, gcs := [] }
noncomputable def fn88 : AFn := { body := (Tryz.f88.body).getD .skip, ntmps := 27, res := Tryz.f88.results.toList, pfz := [true], rfz := true, intr := none, gcs := [] }
noncomputable def fn89 : AFn := { body := (Tryz.f89.body).getD .skip, ntmps := 7, res := Tryz.f89.results.toList, pfz := [true], rfz := true, intr := none, gcs := [] }
noncomputable def fn90 : AFn := { body := (Tryz.f90.body).getD .skip, ntmps := 50, res := Tryz.f90.results.toList, pfz := [true, true], rfz := true, intr := none, gcs := [⟨0, [0, 6, 33, 34, 35], []⟩] }
noncomputable def fn91 : AFn := { body := (Tryz.f91.body).getD .skip, ntmps := 33, res := Tryz.f91.results.toList, pfz := [true, true, true], rfz := true, intr := none, gcs := [] }
noncomputable def fn92 : AFn := { body := (Tryz.f92.body).getD .skip, ntmps := 138, res := Tryz.f92.results.toList, pfz := [true, true, true, true], rfz := true, intr := none, gcs := [⟨0, [8, 10, 11, 13, 103, 104], []⟩] }
noncomputable def fn93 : AFn := { body := (Tryz.f93.body).getD .skip, ntmps := 32, res := Tryz.f93.results.toList, pfz := [true, true, true, true], rfz := true, intr := none, gcs := [] }
noncomputable def fn94 : AFn := { body := (Tryz.f94.body).getD .skip, ntmps := 25, res := Tryz.f94.results.toList, pfz := [true, true], rfz := true, intr := none, gcs := [] }
noncomputable def fn95 : AFn := { body := (Tryz.f95.body).getD .skip, ntmps := 32, res := Tryz.f95.results.toList, pfz := [true, true, true], rfz := true, intr := none, gcs := [] }
noncomputable def fn96 : AFn := { body := (Tryz.f96.body).getD .skip, ntmps := 28, res := Tryz.f96.results.toList, pfz := [true, true], rfz := true, intr := none, gcs := [] }
noncomputable def fn98 : AFn := { body := (Tryz.f98.body).getD .skip, ntmps := 16, res := Tryz.f98.results.toList, pfz := [true, true], rfz := true, intr := none, gcs := [] }
noncomputable def fn103 : AFn := { body := (Tryz.f103.body).getD .skip, ntmps := 40, res := Tryz.f103.results.toList, pfz := [true, true], rfz := true, intr := none, gcs := [] }
noncomputable def fn104 : AFn := { body := (Tryz.f104.body).getD .skip, ntmps := 11, res := Tryz.f104.results.toList, pfz := [true, true], rfz := true, intr := none, gcs := [] }
noncomputable def fn105 : AFn := { body := (Tryz.f105.body).getD .skip, ntmps := 24, res := Tryz.f105.results.toList, pfz := [true], rfz := true, intr := none, gcs := [⟨0, [1, 3, 7, 8, 9], []⟩] }
noncomputable def fn106 : AFn := { body := (Tryz.f106.body).getD .skip, ntmps := 27, res := Tryz.f106.results.toList, pfz := [true, true], rfz := true, intr := none, gcs := [⟨0, [1, 5, 14, 15, 16], []⟩] }
noncomputable def fn111 : AFn := { body := (Tryz.f111.body).getD .skip, ntmps := 15, res := Tryz.f111.results.toList, pfz := [true, true, true], rfz := true, intr := none, gcs := [] }
noncomputable def fn112 : AFn := { body := (Tryz.f112.body).getD .skip, ntmps := 10, res := Tryz.f112.results.toList, pfz := [true], rfz := true, intr := none, gcs := [] }
noncomputable def fn113 : AFn := { body := (Tryz.f113.body).getD .skip, ntmps := 19, res := Tryz.f113.results.toList, pfz := [true, true], rfz := false, intr := none, gcs := [⟨0, [0, 1, 7, 8], []⟩] }
noncomputable def fn114 : AFn := { body := (Tryz.f114.body).getD .skip, ntmps := 19, res := Tryz.f114.results.toList, pfz := [true, true], rfz := false, intr := none, gcs := [⟨0, [0, 1, 7, 8], []⟩] }
noncomputable def fn115 : AFn := { body := (Tryz.f115.body).getD .skip, ntmps := 3, res := Tryz.f115.results.toList, pfz := [], rfz := true, intr := none, gcs := [] }
noncomputable def fn116 : AFn := { body := (Tryz.f116.body).getD .skip, ntmps := 16, res := Tryz.f116.results.toList, pfz := [true, true], rfz := true, intr := none, gcs := [] }
noncomputable def fn117 : AFn := { body := (Tryz.f117.body).getD .skip, ntmps := 95, res := Tryz.f117.results.toList, pfz := [false, true, true], rfz := false, intr := none, gcs := [] }
noncomputable def fn118 : AFn := { body := (Tryz.f118.body).getD .skip, ntmps := 9, res := Tryz.f118.results.toList, pfz := [false], rfz := false, intr := none, gcs := [] }
noncomputable def fn119 : AFn := { body := (Tryz.f119.body).getD .skip, ntmps := 3, res := Tryz.f119.results.toList, pfz := [], rfz := true, intr := none, gcs := [] }
noncomputable def fn120 : AFn := { body := (Tryz.f120.body).getD .skip, ntmps := 59, res := Tryz.f120.results.toList, pfz := [true, true, true], rfz := true, intr := none, gcs := [] }
noncomputable def fn121 : AFn := { body := (Tryz.f121.body).getD .skip, ntmps := 6, res := Tryz.f121.results.toList, pfz := [true, true], rfz := true, intr := none, gcs := [] }
noncomputable def fn122 : AFn := { body := (Tryz.f122.body).getD .skip, ntmps := 6, res := Tryz.f122.results.toList, pfz := [true, true], rfz := true, intr := none, gcs := [] }
noncomputable def fn123 : AFn := { body := (Tryz.f123.body).getD .skip, ntmps := 16, res := Tryz.f123.results.toList, pfz := [true, true], rfz := true, intr := none, gcs := [] }
noncomputable def fn124 : AFn := { body := (Tryz.f124.body).getD .skip, ntmps := 21, res := Tryz.f124.results.toList, pfz := [true, true], rfz := true, intr := none, gcs := [] }
noncomputable def fn128 : AFn := { body := (Tryz.f128.body).getD .skip, ntmps := 8, res := Tryz.f128.results.toList, pfz := [true], rfz := false, intr := some (cloneFn 2 32), gcs := [] }
noncomputable def fn129 : AFn := { body := (Tryz.f129.body).getD .skip, ntmps := 8, res := Tryz.f129.results.toList, pfz := [true], rfz := false, intr := some (cloneFn 1 16), gcs := [] }
noncomputable def fn130 : AFn := { body := (Tryz.f130.body).getD .skip, ntmps := 8, res := Tryz.f130.results.toList, pfz := [true], rfz := false, intr := some (cloneFn 4 40), gcs := [] }
noncomputable def fn131 : AFn := { body := (Tryz.f131.body).getD .skip, ntmps := 8, res := Tryz.f131.results.toList, pfz := [true], rfz := false, intr := some (cloneFn 6 64), gcs := [] }
noncomputable def fn132 : AFn := { body := (Tryz.f132.body).getD .skip, ntmps := 52, res := Tryz.f132.results.toList, pfz := [true], rfz := true, intr := none, gcs := [⟨0, [1, 18, 19, 20], []⟩] }
noncomputable def fn136 : AFn := { body := (Tryz.f136.body).getD .skip, ntmps := 21, res := Tryz.f136.results.toList, pfz := [true, true], rfz := true, intr := none, gcs := [] }
noncomputable def fn139 : AFn := { body := (Tryz.f139.body).getD .skip, ntmps := 9, res := Tryz.f139.results.toList, pfz := [true, true], rfz := false, intr := none, gcs := [] }
noncomputable def fn140 : AFn := { body := (Tryz.f140.body).getD .skip, ntmps := 11, res := Tryz.f140.results.toList, pfz := [true], rfz := true, intr := none, gcs := [] }
noncomputable def fn141 : AFn := { body := (Tryz.f141.body).getD .skip, ntmps := 10, res := Tryz.f141.results.toList, pfz := [true], rfz := true, intr := none, gcs := [] }
noncomputable def fn143 : AFn := { body := (Tryz.f143.body).getD .skip, ntmps := 17, res := Tryz.f143.results.toList, pfz := [true], rfz := true, intr := none, gcs := [] }
noncomputable def fn145 : AFn := { body := (Tryz.f145.body).getD .skip, ntmps := 22, res := Tryz.f145.results.toList, pfz := [true], rfz := true, intr := none, gcs := [] }
noncomputable def fn146 : AFn := { body := (Tryz.f146.body).getD .skip, ntmps := 31, res := Tryz.f146.results.toList, pfz := [true, true, true], rfz := true, intr := none, gcs := [] }
noncomputable def fn147 : AFn := { body := (Tryz.f147.body).getD .skip, ntmps := 56, res := Tryz.f147.results.toList, pfz := [true, true, true], rfz := true, intr := none, gcs := [] }
noncomputable def fn148 : AFn := { body := (Tryz.f148.body).getD .skip, ntmps := 43, res := Tryz.f148.results.toList, pfz := [true, true], rfz := true, intr := none, gcs := [] }
noncomputable def fn149 : AFn := { body := (Tryz.f149.body).getD .skip, ntmps := 38, res := Tryz.f149.results.toList, pfz := [true, true, true], rfz := true, intr := none, gcs := [⟨0, [2, 4, 8, 13, 14, 15], []⟩] }
noncomputable def fn150 : AFn := { body := (Tryz.f150.body).getD .skip, ntmps := 76, res := Tryz.f150.results.toList, pfz := [true, true], rfz := true, intr := none, gcs := [⟨0, [0, 1, 6, 15, 16, 17], []⟩, ⟨2, [6, 42, 43, 44], []⟩] }
noncomputable def fn152 : AFn := { body := (Tryz.f152.body).getD .skip, ntmps := 49, res := Tryz.f152.results.toList, pfz := [true, true, true, true], rfz := false, intr := none, gcs := [] }
noncomputable def fn153 : AFn := { body := (Tryz.f153.body).getD .skip, ntmps := 117, res := Tryz.f153.results.toList, pfz := [true, true, true], rfz := true, intr := none, gcs := [⟨0, [0, 4, 6, 8, 23, 24, 25], []⟩] }
noncomputable def fn154 : AFn := { body := (Tryz.f154.body).getD .skip, ntmps := 108, res := Tryz.f154.results.toList, pfz := [true, true], rfz := true, intr := none, gcs := [⟨0, [0, 9, 64, 65, 66], []⟩] }
noncomputable def fn158 : AFn := { body := (Tryz.f158.body).getD .skip, ntmps := 8, res := Tryz.f158.results.toList, pfz := [true], rfz := false, intr := some (cloneFn 3 24), gcs := [] }
noncomputable def fn159 : AFn := { body := (Tryz.f159.body).getD .skip, ntmps := 25, res := Tryz.f159.results.toList, pfz := [true, true], rfz := true, intr := none, gcs := [] }
noncomputable def fn161 : AFn := { body := (Tryz.f161.body).getD .skip, ntmps := 22, res := Tryz.f161.results.toList, pfz := [true], rfz := true, intr := none, gcs := [⟨0, [3, 6, 7, 8], []⟩] }
noncomputable def fn170 : AFn := { body := (Tryz.f170.body).getD .skip, ntmps := 13, res := Tryz.f170.results.toList, pfz := [true], rfz := true, intr := none, gcs := [] }
noncomputable def fn171 : AFn := { body := (Tryz.f171.body).getD .skip, ntmps := 54, res := Tryz.f171.results.toList, pfz := [true, true], rfz := false, intr := none, gcs := [⟨0, [0, 1, 6, 7, 8], []⟩] }
noncomputable def fn174 : AFn := { body := (Tryz.f174.body).getD .skip, ntmps := 95, res := Tryz.f174.results.toList, pfz := [false, true, true], rfz := false, intr := none, gcs := [] }
noncomputable def fn175 : AFn := { body := (Tryz.f175.body).getD .skip, ntmps := 9, res := Tryz.f175.results.toList, pfz := [false], rfz := false, intr := none, gcs := [] }
noncomputable def fn176 : AFn := { body := (Tryz.f176.body).getD .skip, ntmps := 95, res := Tryz.f176.results.toList, pfz := [false, true, true], rfz := false, intr := none, gcs := [] }
noncomputable def fn177 : AFn := { body := (Tryz.f177.body).getD .skip, ntmps := 9, res := Tryz.f177.results.toList, pfz := [false], rfz := false, intr := none, gcs := [] }
noncomputable def fn178 : AFn := { body := (Tryz.f178.body).getD .skip, ntmps := 38, res := Tryz.f178.results.toList, pfz := [true, false, false], rfz := true, intr := none, gcs := [⟨0, [0, 5, 22, 23, 24], []⟩] }
noncomputable def fn179 : AFn := { body := (Tryz.f179.body).getD .skip, ntmps := 38, res := Tryz.f179.results.toList, pfz := [true, false, false], rfz := true, intr := none, gcs := [⟨0, [0, 5, 22, 23, 24], []⟩] }
noncomputable def fn180 : AFn := { body := (Tryz.f180.body).getD .skip, ntmps := 54, res := Tryz.f180.results.toList, pfz := [true, true], rfz := false, intr := none, gcs := [⟨0, [0, 1, 6, 7, 8], []⟩] }
noncomputable def fn198 : AFn := { body := (Tryz.f198.body).getD .skip, ntmps := 20, res := Tryz.f198.results.toList, pfz := [true, true], rfz := true, intr := none, gcs := [] }
noncomputable def fn199 : AFn := { body := (Tryz.f199.body).getD .skip, ntmps := 20, res := Tryz.f199.results.toList, pfz := [true], rfz := true, intr := none, gcs := [] }
noncomputable def fn200 : AFn := { body := (Tryz.f200.body).getD .skip, ntmps := 11, res := Tryz.f200.results.toList, pfz := [true, true], rfz := true, intr := none, gcs := [] }
noncomputable def fn201 : AFn := { body := (Tryz.f201.body).getD .skip, ntmps := 19, res := Tryz.f201.results.toList, pfz := [true, true], rfz := false, intr := none, gcs := [⟨0, [0, 1, 7, 8], []⟩] }
noncomputable def fn202 : AFn := { body := (Tryz.f202.body).getD .skip, ntmps := 6, res := Tryz.f202.results.toList, pfz := [true], rfz := true, intr := none, gcs := [] }
noncomputable def fn203 : AFn := { body := (Tryz.f203.body).getD .skip, ntmps := 22, res := Tryz.f203.results.toList, pfz := [true], rfz := true, intr := none, gcs := [⟨0, [1, 3], []⟩] }
noncomputable def fn204 : AFn := { body := (Tryz.f204.body).getD .skip, ntmps := 60, res := Tryz.f204.results.toList, pfz := [true, true, true], rfz := true, intr := none, gcs := [] }
noncomputable def fn205 : AFn := { body := (Tryz.f205.body).getD .skip, ntmps := 47, res := Tryz.f205.results.toList, pfz := [true, true], rfz := true, intr := none, gcs := [] }
noncomputable def fn206 : AFn := { body := (Tryz.f206.body).getD .skip, ntmps := 14, res := Tryz.f206.results.toList, pfz := [true], rfz := true, intr := none, gcs := [] }
noncomputable def fn207 : AFn := { body := (Tryz.f207.body).getD .skip, ntmps := 12, res := Tryz.f207.results.toList, pfz := [true], rfz := true, intr := none, gcs := [] }
noncomputable def fn208 : AFn := { body := (Tryz.f208.body).getD .skip, ntmps := 52, res := Tryz.f208.results.toList, pfz := [true, true], rfz := true, intr := none, gcs := [] }
noncomputable def fn209 : AFn := { body := (Tryz.f209.body).getD .skip, ntmps := 3, res := Tryz.f209.results.toList, pfz := [], rfz := true, intr := none, gcs := [] }
noncomputable def fn210 : AFn := { body := (Tryz.f210.body).getD .skip, ntmps := 59, res := Tryz.f210.results.toList, pfz := [true, true, true], rfz := true, intr := none, gcs := [] }
noncomputable def fn212 : AFn := { body := (Tryz.f212.body).getD .skip, ntmps := 5, res := Tryz.f212.results.toList, pfz := [true], rfz := true, intr := none, gcs := [] }
noncomputable def fn216 : AFn := { body := (Tryz.f216.body).getD .skip, ntmps := 27, res := Tryz.f216.results.toList, pfz := [true, true], rfz := true, intr := none, gcs := [] }
noncomputable def fn218 : AFn := { body := (Tryz.f218.body).getD .skip, ntmps := 40, res := Tryz.f218.results.toList, pfz := [true], rfz := true, intr := none, gcs := [⟨0, [1, 3, 11, 12, 13], []⟩, ⟨2, [3, 23, 24, 25], []⟩] }
noncomputable def fn219 : AFn := { body := (Tryz.f219.body).getD .skip, ntmps := 8, res := Tryz.f219.results.toList, pfz := [true, true], rfz := true, intr := none, gcs := [] }
noncomputable def fn233 : AFn := { body := (Tryz.f233.body).getD .skip, ntmps := 17, res := Tryz.f233.results.toList, pfz := [true, true], rfz := true, intr := none, gcs := [] }
noncomputable def fn234 : AFn := { body := (Tryz.f234.body).getD .skip, ntmps := 6, res := Tryz.f234.results.toList, pfz := [true], rfz := false, intr := none, gcs := [] }
noncomputable def fn240 : AFn := { body := (Tryz.f240.body).getD .skip, ntmps := 17, res := Tryz.f240.results.toList, pfz := [true, true], rfz := true, intr := none, gcs := [] }
noncomputable def fn241 : AFn := { body := (Tryz.f241.body).getD .skip, ntmps := 6, res := Tryz.f241.results.toList, pfz := [true], rfz := false, intr := none, gcs := [] }
noncomputable def fn245 : AFn := { body := (Tryz.f245.body).getD .skip, ntmps := 8, res := Tryz.f245.results.toList, pfz := [true], rfz := false, intr := some (cloneFn 1 1), gcs := [] }
noncomputable def fn252 : AFn := { body := (Tryz.f252.body).getD .skip, ntmps := 5, res := Tryz.f252.results.toList, pfz := [true], rfz := true, intr := none, gcs := [] }
noncomputable def fn253 : AFn := { body := (Tryz.f253.body).getD .skip, ntmps := 15, res := Tryz.f253.results.toList, pfz := [true, true], rfz := true, intr := none, gcs := [] }
noncomputable def fn254 : AFn := { body := (Tryz.f254.body).getD .skip, ntmps := 30, res := Tryz.f254.results.toList, pfz := [true, true], rfz := true, intr := none, gcs := [] }
noncomputable def fn255 : AFn := { body := (Tryz.f255.body).getD .skip, ntmps := 36, res := Tryz.f255.results.toList, pfz := [true, true, true], rfz := true, intr := none, gcs := [⟨0, [2, 4, 6, 7, 12, 13, 14], []⟩] }
noncomputable def fn258 : AFn := { body := (Tryz.f258.body).getD .skip, ntmps := 34, res := Tryz.f258.results.toList, pfz := [true], rfz := true, intr := none, gcs := [⟨0, [0, 4], []⟩] }
noncomputable def fn259 : AFn := { body := (Tryz.f259.body).getD .skip, ntmps := 16, res := Tryz.f259.results.toList, pfz := [true, true], rfz := true, intr := none, gcs := [] }
noncomputable def fn260 : AFn := { body := (Tryz.f260.body).getD .skip, ntmps := 6, res := Tryz.f260.results.toList, pfz := [true, true], rfz := true, intr := none, gcs := [] }
noncomputable def fn270 : AFn := { body := (Tryz.f270.body).getD .skip, ntmps := 8, res := Tryz.f270.results.toList, pfz := [true, true], rfz := true, intr := none, gcs := [] }
noncomputable def fn284 : AFn := { body := (Tryz.f284.body).getD .skip, ntmps := 6, res := Tryz.f284.results.toList, pfz := [true], rfz := true, intr := none, gcs := [] }
noncomputable def fn288 : AFn := { body := (Tryz.f288.body).getD .skip, ntmps := 6, res := Tryz.f288.results.toList, pfz := [true], rfz := true, intr := none, gcs := [] }
noncomputable def fn290 : AFn := { body := (Tryz.f290.body).getD .skip, ntmps := 18, res := Tryz.f290.results.toList, pfz := [true, true], rfz := true, intr := none, gcs := [] }
noncomputable def fn291 : AFn := { body := (Tryz.f291.body).getD .skip, ntmps := 8, res := Tryz.f291.results.toList, pfz := [true, true], rfz := true, intr := none, gcs := [] }
noncomputable def fn294 : AFn := { body := (Tryz.f294.body).getD .skip, ntmps := 38, res := Tryz.f294.results.toList, pfz := [true, false, false], rfz := true, intr := none, gcs := [⟨0, [0, 5, 22, 23, 24], []⟩] }
noncomputable def fn313 : AFn := { body := (Tryz.f313.body).getD .skip, ntmps := 13, res := Tryz.f313.results.toList, pfz := [true, true], rfz := true, intr := none, gcs := [] }
noncomputable def fns : FuncId → Option AFn
  | 3 => some fn3
  | 4 => some fn4
  | 5 => some fn5
  | 6 => some fn6
  | 7 => some fn7
  | 8 => some fn8
  | 9 => some fn9
  | 10 => some fn10
  | 11 => some fn11
  | 12 => some fn12
  | 13 => some fn13
  | 14 => some fn14
  | 15 => some fn15
  | 16 => some fn16
  | 17 => some fn17
  | 18 => some fn18
  | 19 => some fn19
  | 20 => some fn20
  | 21 => some fn21
  | 22 => some fn22
  | 23 => some fn23
  | 24 => some fn24
  | 25 => some fn25
  | 26 => some fn26
  | 27 => some fn27
  | 28 => some fn28
  | 29 => some fn29
  | 30 => some fn30
  | 31 => some fn31
  | 32 => some fn32
  | 33 => some fn33
  | 34 => some fn34
  | 35 => some fn35
  | 36 => some fn36
  | 37 => some fn37
  | 38 => some fn38
  | 39 => some fn39
  | 40 => some fn40
  | 41 => some fn41
  | 42 => some fn42
  | 43 => some fn43
  | 45 => some fn45
  | 46 => some fn46
  | 47 => some fn47
  | 48 => some fn48
  | 54 => some fn54
  | 58 => some fn58
  | 59 => some fn59
  | 60 => some fn60
  | 61 => some fn61
  | 62 => some fn62
  | 63 => some fn63
  | 64 => some fn64
  | 65 => some fn65
  | 66 => some fn66
  | 67 => some fn67
  | 68 => some fn68
  | 69 => some fn69
  | 70 => some fn70
  | 71 => some fn71
  | 72 => some fn72
  | 73 => some fn73
  | 74 => some fn74
  | 75 => some fn75
  | 76 => some fn76
  | 78 => some fn78
  | 79 => some fn79
  | 80 => some fn80
  | 81 => some fn81
  | 82 => some fn82
  | 86 => some fn86
  | 87 => some fn87
  | 88 => some fn88
  | 89 => some fn89
  | 90 => some fn90
  | 91 => some fn91
  | 92 => some fn92
  | 93 => some fn93
  | 94 => some fn94
  | 95 => some fn95
  | 96 => some fn96
  | 98 => some fn98
  | 103 => some fn103
  | 104 => some fn104
  | 105 => some fn105
  | 106 => some fn106
  | 111 => some fn111
  | 112 => some fn112
  | 113 => some fn113
  | 114 => some fn114
  | 115 => some fn115
  | 116 => some fn116
  | 117 => some fn117
  | 118 => some fn118
  | 119 => some fn119
  | 120 => some fn120
  | 121 => some fn121
  | 122 => some fn122
  | 123 => some fn123
  | 124 => some fn124
  | 128 => some fn128
  | 129 => some fn129
  | 130 => some fn130
  | 131 => some fn131
  | 132 => some fn132
  | 136 => some fn136
  | 139 => some fn139
  | 140 => some fn140
  | 141 => some fn141
  | 143 => some fn143
  | 145 => some fn145
  | 146 => some fn146
  | 147 => some fn147
  | 148 => some fn148
  | 149 => some fn149
  | 150 => some fn150
  | 152 => some fn152
  | 153 => some fn153
  | 154 => some fn154
  | 158 => some fn158
  | 159 => some fn159
  | 161 => some fn161
  | 170 => some fn170
  | 171 => some fn171
  | 174 => some fn174
  | 175 => some fn175
  | 176 => some fn176
  | 177 => some fn177
  | 178 => some fn178
  | 179 => some fn179
  | 180 => some fn180
  | 198 => some fn198
  | 199 => some fn199
  | 200 => some fn200
  | 201 => some fn201
  | 202 => some fn202
  | 203 => some fn203
  | 204 => some fn204
  | 205 => some fn205
  | 206 => some fn206
  | 207 => some fn207
  | 208 => some fn208
  | 209 => some fn209
  | 210 => some fn210
  | 212 => some fn212
  | 216 => some fn216
  | 218 => some fn218
  | 219 => some fn219
  | 233 => some fn233
  | 234 => some fn234
  | 240 => some fn240
  | 241 => some fn241
  | 245 => some fn245
  | 252 => some fn252
  | 253 => some fn253
  | 254 => some fn254
  | 255 => some fn255
  | 258 => some fn258
  | 259 => some fn259
  | 260 => some fn260
  | 270 => some fn270
  | 284 => some fn284
  | 288 => some fn288
  | 290 => some fn290
  | 291 => some fn291
  | 294 => some fn294
  | 313 => some fn313
  | _ => none
end Go.Proofs.YtoggbcckkjfkhaaGreat.R
/- How the machine's values and objects stand in Go's memory. -/
namespace Go.Proofs.YtoggbcckkjfkhaaGreat.R
open Go Go.RowKit

/-- Where an object stands: nowhere yet (a nil slice); in a block of so many rows; a map's block. -/
inductive Loc where
  | nil
  | at (b st cap : Nat)
  | mp (b : Nat)

def Loc.block : Loc → Option Nat
  | .nil => none
  | .at b _ _ => some b
  | .mp b => some b

abbrev Place := Nat → Option Loc
abbrev Froz := Nat → Nat → Prop
def none0 : Place := fun _ => none
def cl (w : World) (b o : Nat) : Option Value := w.cell? ⟨b, o, none⟩

/-- The value 'v' of the machine is Go's value 'cv'. -/
inductive Rel (F : Froz) (c : Nat → Nat → Option Value) : Place → V → Value → Prop where
  | undef (β : Place) (v : Value) : Rel F c β .undef v
  | bool (β : Place) (b : Bool) : Rel F c β (.bool b) (.bool b)
  | int (β : Place) (k : IntKind) (n : Int) : Rel F c β (.int k n) (.int k n)
  | str (β : Place) (s : ByteArray) : Rel F c β (.str s) (.string s)
  | nils (β : Place) : Rel F c β .nils (.slice none 0 0)
  | fz0 (β : Place) (a : Option Addr) (cap : Nat) : Rel F c β (.fz []) (.slice a 0 cap)
  | fz (β : Place) (rows : List (List V)) (b o st cap : Nat) (g : Nat → Nat → Value) (hl : rows.length ≤ cap) (hst : ∀ row ∈ rows, row.length = st)
      (hcell : ∀ row ∈ rows, ∀ v ∈ row, v.isCell = true ∧ v.hasIds = false)
      (hF : ∀ r j, r < rows.length → j < st → F b (o + r * st + j) ∧ c b (o + r * st + j) = some (g r j))
      (h : ∀ r j row v, rows[r]? = some row → row[j]? = some v → Rel F c none0 v (g r j)) : Rel F c β (.fz rows) (.slice (some ⟨b, o, none⟩) rows.length cap)
  | ms0 (β : Place) (i st : Nat) (cap : Option Nat) (h : β i = some .nil) (hc : ∀ k, cap = some k → k = 0) : Rel F c β (.ms i st 0 0 cap) (.slice none 0 0)
  | ms (β : Place) (i st off len : Nat) (cap : Option Nat) (b C cc o : Nat) (h : β i = some (.at b st C)) (hc : off + cc ≤ C) (hlen : len ≤ cc) (hcap : ∀ k, cap = some k → cc = k) (hnone : cap = none → off + cc = C)
      (ho : cc = 0 ∨ o = off * st) : Rel F c β (.ms i st off len cap) (.slice (some ⟨b, o, none⟩) len cc)
  | nilp (β : Place) : Rel F c β .nilp (.pointer none)
  | ptr (β : Place) (i row off b st C : Nat) (h : β i = some (.at b st C)) : Rel F c β (.ptr i row off) (.pointer (some ⟨b, row * st + off, none⟩))
  | el (β : Place) (row : List V) (off b base : Nat) (g : Nat → Value) (hcell : ∀ v ∈ row, v.isCell = true ∧ v.hasIds = false) (hF : ∀ j, j < row.length → F b (base + j) ∧ c b (base + j) = some (g j)) (h : ∀ j v, row[j]? = some v → Rel F c none0 v (g j)) :
      Rel F c β (.el row off) (.pointer (some ⟨b, base + off, none⟩))
  | nilm (β : Place) : Rel F c β .nilm (.map none)
  | map (β : Place) (i b : Nat) (h : β i = some (.mp b)) : Rel F c β (.map i) (.map (some b))
  | nilf (β : Place) : Rel F c β .nilf .nilFunc
  | clo (β : Place) (f : FuncId) (caps : List V) (cvs : Array Value) (hs : cvs.size = caps.length) (h : ∀ j v, caps[j]? = some v → Rel F c β v (cvs.getD j undef)) : Rel F c β (.clo f caps) (.func (.func f) #[] cvs)
  | nili (β : Place) : Rel F c β .nili .nilIface
  | ifc (β : Place) (t : TypeId) (v : V) (cv : Value) (h : Rel F c β v cv) : Rel F c β (.ifc t v) (.iface t cv)
  | agg (β : Place) (cs : List V) (cvs : Array Value) (hs : cvs.size = cs.length) (h : ∀ j v, cs[j]? = some v → Rel F c β v (cvs.getD j undef)) : Rel F c β (.agg cs) (.agg cvs)
  | tup (β : Place) (vs : List V) (cvs : Array Value) (hs : cvs.size = vs.length) (h : ∀ j v, vs[j]? = some v → Rel F c β v (cvs.getD j undef)) : Rel F c β (.tup vs) (.tuple cvs)

/-- Lists of values. -/
structure RelAll (F : Froz) (c : Nat → Nat → Option Value) (β : Place) (vs : List V) (cvs : Array Value) : Prop where
  size : cvs.size = vs.length
  at_ : ∀ j v, vs[j]? = some v → Rel F c β v (cvs.getD j undef)

theorem Rel.mono {F F' : Froz} {c c' : Nat → Nat → Option Value} {β : Place} {v : V} {cv : Value} (hF : ∀ b o, F b o → F' b o ∧ c' b o = c b o) (h : Rel F c β v cv) :
    ∀ {β' : Place}, (∀ i l, β i = some l → β' i = some l) → Rel F' c' β' v cv := by
  induction h with
  | undef β v => intro β' _; exact .undef _ _
  | bool β b => intro β' _; exact .bool _ _
  | int β k n => intro β' _; exact .int _ _ _
  | str β s => intro β' _; exact .str _ _
  | nils β => intro β' _; exact .nils _
  | fz0 β a cap => intro β' _; exact .fz0 _ _ _
  | fz β rows b o st cap g hl hst hcell hF' h ih =>
    intro β' _
    refine .fz _ rows b o st cap g hl hst hcell (fun r j hr hj => ?_) fun r j row v hr hv => ih r j row v hr hv fun i l h => h
    obtain ⟨h1, h2⟩ := hF' r j hr hj
    exact ⟨(hF _ _ h1).1, by rw [(hF _ _ h1).2, h2]⟩
  | ms0 β i st cap h hc => intro β' hb; exact .ms0 _ _ _ _ (hb _ _ h) hc
  | ms β i st off len cap b C cc o h hc hlen hcap hnone ho => intro β' hb; exact .ms _ i st off len cap b C cc o (hb _ _ h) hc hlen hcap hnone ho
  | nilp β => intro β' _; exact .nilp _
  | ptr β i row off b st C h => intro β' hb; exact .ptr _ _ _ _ _ _ C (hb _ _ h)
  | el β row off b base g hcell hF' h ih =>
    intro β' _
    refine .el _ row off b base g hcell (fun j hj => ?_) fun j v hv => ih j v hv fun i l h => h
    obtain ⟨h1, h2⟩ := hF' j hj
    exact ⟨(hF _ _ h1).1, by rw [(hF _ _ h1).2, h2]⟩
  | nilm β => intro β' _; exact .nilm _
  | map β i b h => intro β' hb; exact .map _ _ _ (hb _ _ h)
  | nilf β => intro β' _; exact .nilf _
  | clo β f caps cvs hs h ih => intro β' hb; exact .clo _ _ _ _ hs fun j v hv => ih j v hv hb
  | nili β => intro β' _; exact .nili _
  | ifc β t v cv h ih => intro β' hb; exact .ifc _ _ _ _ (ih hb)
  | agg β cs cvs hs h ih => intro β' hb; exact .agg _ _ _ hs fun j v hv => ih j v hv hb
  | tup β vs cvs hs h ih => intro β' hb; exact .tup _ _ _ hs fun j v hv => ih j v hv hb

theorem RelAll.mono {F F' : Froz} {c c' : Nat → Nat → Option Value} {β β' : Place} {vs : List V} {cvs : Array Value} (hF : ∀ b o, F b o → F' b o ∧ c' b o = c b o) (hb : ∀ i l, β i = some l → β' i = some l) (h : RelAll F c β vs cvs) :
    RelAll F' c' β' vs cvs := ⟨h.size, fun j v hv => (h.at_ j v hv).mono hF hb⟩

/-! Numbers turned. -/
theorem reAll_get {f : Nat → Option Nat} : ∀ {l l' : List V}, V.reAll f l = some l' → l'.length = l.length ∧ ∀ (j : Nat) (v' : V), l'[j]? = some v' → ∃ v, l[j]? = some v ∧ V.re f v = some v'
  | [], l', h => by
    simp only [V.reAll, Option.some.injEq] at h
    subst h
    exact ⟨rfl, by simp⟩
  | v :: r, l', h => by
    simp only [V.reAll, Option.bind_eq_some_iff, Option.map_eq_some_iff] at h
    obtain ⟨v', hv, r', hr, rfl⟩ := h
    obtain ⟨hl, hg⟩ := reAll_get hr
    refine ⟨by simp [hl], fun j u hu => ?_⟩
    cases j with
    | zero => exact ⟨v, rfl, by simpa using hu ▸ hv⟩
    | succ j => exact hg j u (by simpa using hu)

theorem Rel.re {F : Froz} {c : Nat → Nat → Option Value} {f : Nat → Option Nat} {β : Place} {v : V} {cv : Value} (h : Rel F c β v cv) :
    ∀ {β' : Place} {v' : V}, (∀ i j, f i = some j → β' j = β i) → V.re f v = some v' → Rel F c β' v' cv := by
  induction h with
  | ms0 β i st cap h hc =>
    intro β' v' hb hv
    simp only [V.re, Option.map_eq_some_iff] at hv
    obtain ⟨j, hj, rfl⟩ := hv
    exact .ms0 _ _ _ _ (by rw [hb _ _ hj, h]) hc
  | ms β i st off len cap b C cc o h hc hlen hcap hnone ho =>
    intro β' v' hb hv
    simp only [V.re, Option.map_eq_some_iff] at hv
    obtain ⟨j, hj, rfl⟩ := hv
    exact .ms _ j st off len cap b C cc o (by rw [hb _ _ hj, h]) hc hlen hcap hnone ho
  | ptr β i row off b st C h =>
    intro β' v' hb hv
    simp only [V.re, Option.map_eq_some_iff] at hv
    obtain ⟨j, hj, rfl⟩ := hv
    exact .ptr _ _ _ _ _ _ C (by rw [hb _ _ hj, h])
  | map β i b h =>
    intro β' v' hb hv
    simp only [V.re, Option.map_eq_some_iff] at hv
    obtain ⟨j, hj, rfl⟩ := hv
    exact .map _ _ _ (by rw [hb _ _ hj, h])
  | clo β g caps cvs hs h ih =>
    intro β' v' hb hv
    simp only [V.re, Option.map_eq_some_iff] at hv
    obtain ⟨l, hl, rfl⟩ := hv
    obtain ⟨hlen, hget⟩ := reAll_get hl
    exact .clo _ _ _ _ (by omega) fun j v hv => by
      obtain ⟨u, hu, hre⟩ := hget j v hv
      exact ih j u hu hb hre
  | agg β cs cvs hs h ih =>
    intro β' v' hb hv
    simp only [V.re, Option.map_eq_some_iff] at hv
    obtain ⟨l, hl, rfl⟩ := hv
    obtain ⟨hlen, hget⟩ := reAll_get hl
    exact .agg _ _ _ (by omega) fun j v hv => by
      obtain ⟨u, hu, hre⟩ := hget j v hv
      exact ih j u hu hb hre
  | tup β cs cvs hs h ih =>
    intro β' v' hb hv
    simp only [V.re, Option.map_eq_some_iff] at hv
    obtain ⟨l, hl, rfl⟩ := hv
    obtain ⟨hlen, hget⟩ := reAll_get hl
    exact .tup _ _ _ (by omega) fun j v hv => by
      obtain ⟨u, hu, hre⟩ := hget j v hv
      exact ih j u hu hb hre
  | ifc β t v cv h ih =>
    intro β' v' hb hv
    simp only [V.re, Option.map_eq_some_iff] at hv
    obtain ⟨u, hu, rfl⟩ := hv
    exact .ifc _ _ _ _ (ih hb hu)
  | undef β v => intro β' v' _ hv; cases hv; exact .undef _ _
  | bool β b => intro β' v' _ hv; cases hv; exact .bool _ _
  | int β k n => intro β' v' _ hv; cases hv; exact .int _ _ _
  | str β s => intro β' v' _ hv; cases hv; exact .str _ _
  | nils β => intro β' v' _ hv; cases hv; exact .nils _
  | fz0 β a cap => intro β' v' _ hv; cases hv; exact .fz0 _ _ _
  | fz β rows b o st cap g hl hst hcell hF' h ih => intro β' v' _ hv; cases hv; exact .fz _ rows b o st cap g hl hst hcell hF' h
  | nilp β => intro β' v' _ hv; cases hv; exact .nilp _
  | el β row off b base g hcell hF' h ih => intro β' v' _ hv; cases hv; exact .el _ row off b base g hcell hF' h
  | nilm β => intro β' v' _ hv; cases hv; exact .nilm _
  | nilf β => intro β' v' _ hv; cases hv; exact .nilf _
  | nili β => intro β' v' _ hv; cases hv; exact .nili _

/-- What leads to no object does not hang on where objects stand. -/
theorem anyIds_get : ∀ {l : List V}, V.anyIds l = false → ∀ (j : Nat) (v : V), l[j]? = some v → v.hasIds = false
  | [], _, j, v, hv => by simp at hv
  | x :: r, h, j, v, hv => by
    simp only [V.anyIds, Bool.or_eq_false_iff] at h
    cases j with
    | zero => simp only [List.getElem?_cons_zero, Option.some.injEq] at hv; exact hv ▸ h.1
    | succ j => exact anyIds_get h.2 j v (by simpa using hv)

theorem Rel.pure {F : Froz} {c : Nat → Nat → Option Value} {β : Place} {v : V} {cv : Value} (h : Rel F c β v cv) : v.hasIds = false → ∀ β', Rel F c β' v cv := by
  induction h with
  | ms0 β i st cap h hc => intro hi; simp [V.hasIds] at hi
  | ms β i st off len cap b C cc o h hc hlen hcap hnone ho => intro hi; simp [V.hasIds] at hi
  | ptr β i row off b st C h => intro hi; simp [V.hasIds] at hi
  | map β i b h => intro hi; simp [V.hasIds] at hi
  | clo β g caps cvs hs h ih => intro hi β'; exact .clo _ _ _ _ hs fun j v hv => ih j v hv (anyIds_get (by simpa [V.hasIds] using hi) j v hv) β'
  | agg β cs cvs hs h ih => intro hi β'; exact .agg _ _ _ hs fun j v hv => ih j v hv (anyIds_get (by simpa [V.hasIds] using hi) j v hv) β'
  | tup β cs cvs hs h ih => intro hi β'; exact .tup _ _ _ hs fun j v hv => ih j v hv (anyIds_get (by simpa [V.hasIds] using hi) j v hv) β'
  | ifc β t v cv h ih => intro hi β'; exact .ifc _ _ _ _ (ih (by simpa [V.hasIds] using hi) β')
  | undef β v => intro _ _; exact .undef _ _
  | bool β b => intro _ _; exact .bool _ _
  | int β k n => intro _ _; exact .int _ _ _
  | str β s => intro _ _; exact .str _ _
  | nils β => intro _ _; exact .nils _
  | fz0 β a cap => intro _ _; exact .fz0 _ _ _
  | fz β rows b o st cap g hl hst hcell hF' h ih => intro _ _; exact .fz _ rows b o st cap g hl hst hcell hF' h
  | nilp β => intro _ _; exact .nilp _
  | el β row off b base g hcell hF' h ih => intro _ _; exact .el _ row off b base g hcell hF' h
  | nilm β => intro _ _; exact .nilm _
  | nilf β => intro _ _; exact .nilf _
  | nili β => intro _ _; exact .nili _

/-- A cell's value is one of a cell. -/
def oneCell : Value → Bool
  | .agg _ | .tuple _ => false
  | _ => true

theorem Rel.one {F : Froz} {c : Nat → Nat → Option Value} {β : Place} {v : V} {cv : Value} (h : Rel F c β v cv) (hv : v.isCell = true) : oneCell cv = true := by
  cases h <;> simp_all [V.isCell, oneCell]

theorem Rel.cells {F : Froz} {c : Nat → Nat → Option Value} {β : Place} {v : V} {cv : Value} (h : Rel F c β v cv) (hv : v.cells.all V.isCell = true) :
    RelAll F c β v.cells cv.cells := by
  cases h with
  | agg _ cs cvs hs h => exact ⟨hs, h⟩
  | undef => simp [V.cells, V.isCell] at hv
  | tup => simp [V.cells, V.isCell] at hv
  | _ =>
    refine ⟨rfl, fun j v hj => ?_⟩
    cases j with
    | zero =>
      simp only [V.cells, List.getElem?_cons_zero, Option.some.injEq] at hj
      subst hj
      constructor <;> assumption
    | succ j => simp [V.cells] at hj

/-! The heap of the machine. -/
theorem at?_put : ∀ (h : Heap) (i : Nat) (o : Option Ob) (j : Nat), (h.put i o).at? j = if j = i then o else h.at? j
  | [], 0, o, 0 => rfl
  | [], 0, o, j + 1 => by simp [Heap.put, Heap.at?]
  | [], i + 1, o, 0 => by simp [Heap.put, Heap.at?]
  | [], i + 1, o, j + 1 => by simp [Heap.put, Heap.at?, at?_put [] i o j]
  | x :: h, 0, o, 0 => rfl
  | x :: h, 0, o, j + 1 => by simp [Heap.put, Heap.at?]
  | x :: h, i + 1, o, 0 => by simp [Heap.put, Heap.at?]
  | x :: h, i + 1, o, j + 1 => by simp [Heap.put, Heap.at?, at?_put h i o j]

theorem at?_lt : ∀ {h : Heap} {i : Nat} {o : Ob}, h.at? i = some o → i < h.length
  | [], i, o, h => by simp [Heap.at?] at h
  | x :: h, 0, o, _ => by simp
  | x :: h, i + 1, o, hh => by simp [Heap.at?] at hh; have := at?_lt hh; simp; omega

theorem at?_eq : ∀ (h : Heap) (i : Nat), h.at? i = (h[i]?).join
  | [], i => by simp [Heap.at?]
  | x :: h, 0 => by simp [Heap.at?]
  | x :: h, i + 1 => by simp [Heap.at?, at?_eq h i]

/-- Cells that are there, and may be written; what is frozen of their block is a row of cells. -/
structure Thr (w : World) (b n C : Nat) : Prop where
  t : w.there b 0 n
  fr : ∀ c e lo hi, w.heap[b]? = some (.cells c e (lo, hi)) → lo ≤ hi
  sm : C ≤ 9223372036854775807

/-- What an object is in memory. -/
inductive ObRel (F : Froz) (w : World) (β : Place) : Loc → Ob → Prop where
  | nil (st : Nat) (frz pure : Bool) : ObRel F w β .nil (.buf st [] frz pure)
  | buf (b st C : Nat) (rows : List (List V)) (frz pure : Bool) (hst : 0 < st) (ht : Thr w b (C * st) C) (hC : rows.length ≤ C)
      (hlen : ∀ row ∈ rows, row.length = st) (hcell : ∀ row ∈ rows, ∀ v ∈ row, v.isCell = true)
      (hpure : pure = true → ∀ row ∈ rows, ∀ v ∈ row, v.hasIds = false)
      (h : ∀ r j row v, rows[r]? = some row → row[j]? = some v → ∃ cv, cl w b (r * st + j) = some cv ∧ Rel F (cl w) β v cv) : ObRel F w β (.at b st C) (.buf st rows frz pure)
  | mp (b : Nat) (es : List (V × V)) (pure : Bool) (ces : Array MapEntry) (clock : Nat) (hw : w.heap[b]? = some (.map ces clock)) (hs : ces.size = es.length)
      (hpure : pure = true → ∀ e ∈ es, e.1.hasIds = false ∧ e.2.hasIds = false)
      (h : ∀ j e, es[j]? = some e → Rel F (cl w) β e.1 (ces.getD j default).key ∧ Rel F (cl w) β e.2 (ces.getD j default).val) : ObRel F w β (.mp b) (.mp es pure)

/-- Where a call began: the world; the blocks that stay as they are; what was frozen. -/
structure Base where
  w0 : World
  K : Nat → Prop
  F0 : Froz

/-- The world 'w' in a call that began at 'B': the objects of 'H' stand where 'β' says; what 'F' holds is never written again. -/
structure Inv (B : Base) (β : Place) (F : Froz) (H : Heap) (w : World) : Prop where
  os : w.os = B.w0.os
  tape : w.tape = B.w0.tape
  output : w.output = B.w0.output
  size : B.w0.heap.size ≤ w.heap.size
  keep : ∀ b, B.K b → w.heap[b]? = B.w0.heap[b]?
  kin : ∀ b, B.K b → b < B.w0.heap.size
  inj : ∀ i j oi oj l l' b, H.at? i = some oi → H.at? j = some oj → β i = some l → β j = some l' → l.block = some b → l'.block = some b → i = j
  fresh : ∀ i l b, β i = some l → l.block = some b → b < w.heap.size ∧ ¬ B.K b
  obs : ∀ i o, H.at? i = some o → ∃ l, β i = some l ∧ ObRel F w β l o
  froz : ∀ b o, F b o → b < w.heap.size ∧ (B.K b → B.F0 b o)
  prot : ∀ i b st C st' rows frz pure, β i = some (.at b st C) → H.at? i = some (.buf st' rows frz pure) → ∀ o, F b o → frz = true ∧ o < rows.length * st'

/-- One world behind another one, as far as values are concerned: nothing frozen has turned. -/
structure Ext (β β' : Place) (F F' : Froz) (w w' : World) : Prop where
  place : ∀ i l, β i = some l → β' i = some l
  froz : ∀ b o, F b o → F' b o ∧ cl w' b o = cl w b o

theorem Ext.refl (β : Place) (F : Froz) (w : World) : Ext β β F F w w := ⟨fun _ _ h => h, fun _ _ h => ⟨h, rfl⟩⟩
theorem Ext.trans {β β' β'' : Place} {F F' F'' : Froz} {w w' w'' : World} (h : Ext β β' F F' w w') (k : Ext β' β'' F' F'' w' w'') : Ext β β'' F F'' w w'' :=
  ⟨fun i l hl => k.place i l (h.place i l hl), fun b o hf => ⟨(k.froz b o (h.froz b o hf).1).1, by rw [(k.froz b o (h.froz b o hf).1).2, (h.froz b o hf).2]⟩⟩
theorem Ext.rel {β β' : Place} {F F' : Froz} {w w' : World} (h : Ext β β' F F' w w') {v : V} {cv : Value} (hr : Rel F (cl w) β v cv) : Rel F' (cl w') β' v cv := hr.mono h.froz h.place
theorem Ext.all {β β' : Place} {F F' : Froz} {w w' : World} (h : Ext β β' F F' w w') {vs : List V} {cvs : Array Value} (hr : RelAll F (cl w) β vs cvs) : RelAll F' (cl w') β' vs cvs := hr.mono h.froz h.place

/-- The slots. -/
def EnvRel (F : Froz) (w : World) (β : Place) (e : Env) (tmps : Array Value) : Prop := ∀ t, Rel F (cl w) β (lk e t) (tmps.getD t undef)

theorem Ext.env {β β' : Place} {F F' : Froz} {w w' : World} (h : Ext β β' F F' w w') {e : Env} {tmps : Array Value} (hr : EnvRel F w β e tmps) : EnvRel F' w' β' e tmps := fun t => h.rel (hr t)

theorem lk_cons (t u : Nat) (v : V) (e : Env) : lk ((t, v) :: e) u = if t = u then v else lk e u := by
  show (bif Nat.beq t u then v else lk e u) = _
  by_cases h : t = u
  · subst h; simp
  · have hb : Nat.beq t u = false := by
      cases hb : Nat.beq t u
      · rfl
      · exact absurd (Nat.eq_of_beq_eq_true hb) h
    simp [h, hb]

end Go.Proofs.YtoggbcckkjfkhaaGreat.R
/- Operations that turn nothing in memory. -/
namespace Go.Proofs.YtoggbcckkjfkhaaGreat.R
open Go Go.RowKit

/-! What the table of types tells is so. -/
def zeroOK : V → Value → Bool
  | .bool b, .bool b' => b == b'
  | .int k n, .int k' n' => decide (k = k') && decide (n = n')
  | .str s, .string s' => decide (s = s')
  | .nils, .slice none 0 0 => true
  | .nilp, .pointer none => true
  | .nilm, .map none => true
  | .nilf, .nilFunc => true
  | .nili, .nilIface => true
  | _, _ => false
def zerosOK : List V → List Value → Bool
  | [], [] => true
  | v :: r, z :: s => zeroOK v z && zerosOK r s
  | _, _ => false
def zOK (v : V) (z : Value) : Bool := match v, z with
  | .agg cs, .agg cvs => zerosOK cs cvs.toList
  | v, z => zeroOK v z
def kdOK : TK → TypeDesc → Bool
  | .bool, .bool => true
  | .str, .string => true
  | .int k, .int k' => decide (k = k')
  | .ptr, .pointer _ => true
  | .slice e, .slice e' => decide (e = e')
  | .map k e, .map k' e' => decide (k = k') && decide (e = e')
  | .struct fs, .struct Fs => decide (fs = Fs.toList.map fun f => (f.offset, f.type)) && Fs.toList.all fun f => f.name != "_"
  | .arr n e, .array n' e' => decide (n = n') && decide (e = e')
  | .func, .func .. => true
  | .uptr, .unsafePointer => true
  | .iface, .interface .. => true
  | _, _ => false
def tiOK (P : Program) (t : TypeId) (ti : TI) : Bool := match P.info? t, P.underlying t with
  | some i, some d => decide (i.size = ti.size) && decide (i.bytes = ti.bytes) && (match i.zero with | some z => zOK ti.zero z | none => false) && kdOK ti.kd d && decide (ti.zero.cells.length = ti.size) &&
      (!ti.agg || (!P.stoodInHeld t && !P.eqGuardType P.depth t)) && (ti.agg == (match ti.zero with | .agg _ => true | _ => false))
  | _, _ => false
def TOK (P : Program) (T : TT) : Prop := ∀ t ti, T t = some ti → tiOK P t ti = true

theorem zeroOK_rel {v : V} {z : Value} (h : zeroOK v z = true) (F : Froz) (c : Nat → Nat → Option Value) (β : Place) : Rel F c β v z ∧ v.isCell = true ∧ v.hasIds = false := by
  unfold zeroOK at h
  split at h <;> simp_all [V.isCell, V.hasIds] <;> constructor

theorem zerosOK_rel : ∀ {l : List V} {m : List Value}, zerosOK l m = true → l.length = m.length ∧ ∀ (j : Nat) (v : V), l[j]? = some v → ∃ z, m[j]? = some z ∧ zeroOK v z = true
  | [], [], _ => ⟨rfl, by simp⟩
  | v :: r, z :: s, h => by
    simp only [zerosOK, Bool.and_eq_true] at h
    obtain ⟨hl, hg⟩ := zerosOK_rel h.2
    refine ⟨by simp [hl], fun j u hu => ?_⟩
    cases j with
    | zero =>
      simp only [List.getElem?_cons_zero, Option.some.injEq] at hu
      exact ⟨z, rfl, hu ▸ h.1⟩
    | succ j => exact hg j u (by simpa using hu)
  | [], z :: s, h => by simp [zerosOK] at h
  | v :: r, [], h => by simp [zerosOK] at h

theorem zOK_rel {v : V} {z : Value} (h : zOK v z = true) (F : Froz) (c : Nat → Nat → Option Value) (β : Place) : Rel F c β v z ∧ v.cells.all V.isCell = true ∧ V.anyIds v.cells = false := by
  have anyF : ∀ l : List V, (∀ v ∈ l, v.hasIds = false) → V.anyIds l = false := by
    intro l
    induction l with
    | nil => intro _; rfl
    | cons x r ih => intro hl; simp only [V.anyIds, Bool.or_eq_false_iff]; exact ⟨hl x (.head _), ih fun v hv => hl v (.tail _ hv)⟩
  unfold zOK at h
  split at h
  · rename_i cs cvs
    obtain ⟨hl, hg⟩ := zerosOK_rel h
    refine ⟨.agg _ _ _ (by simpa using hl.symm) fun j v hv => ?_, ?_, ?_⟩
    · obtain ⟨z, hz, hk⟩ := hg j v hv
      have hz' : cvs[j]? = some z := by simpa using hz
      rw [Array.getD_eq_getD_getElem?, hz']
      exact (zeroOK_rel hk F c β).1
    · simp only [V.cells, List.all_eq_true]
      intro v hv
      obtain ⟨j, hj⟩ := List.mem_iff_getElem?.1 hv
      obtain ⟨z, hz, hk⟩ := hg j v hj
      exact (zeroOK_rel hk F c β).2.1
    · refine anyF _ fun v hv => ?_
      obtain ⟨j, hj⟩ := List.mem_iff_getElem?.1 hv
      obtain ⟨z, hz, hk⟩ := hg j v hj
      exact (zeroOK_rel hk F c β).2.2
  · have := zeroOK_rel h F c β
    refine ⟨this.1, ?_⟩
    have hc : v.cells = [v] := by
      cases v <;> first | rfl | (simp [V.isCell] at this)
    rw [hc]
    simp [this.2.1, V.anyIds, this.2.2]

structure Told (P : Program) (t : TypeId) (ti : TI) : Prop where
  info : ∃ i z, P.info? t = some i ∧ i.size = ti.size ∧ i.bytes = ti.bytes ∧ i.zero = some z ∧ zOK ti.zero z = true
  und : ∃ d, P.underlying t = some d ∧ kdOK ti.kd d = true
  zlen : ti.zero.cells.length = ti.size
  held : ti.agg = true → P.stoodInHeld t = false ∧ P.eqGuardType P.depth t = false
  zagg : ti.agg = true ↔ ∃ cs, ti.zero = .agg cs

theorem TOK.told {P : Program} {T : TT} (hT : TOK P T) {t : TypeId} {ti : TI} (h : T t = some ti) : Told P t ti := by
  have hk := hT t ti h
  unfold tiOK at hk
  split at hk
  · rename_i i d hi hd
    simp only [Bool.and_eq_true, decide_eq_true_eq] at hk
    obtain ⟨⟨⟨⟨⟨⟨h1, h2⟩, h3⟩, h4⟩, h5⟩, h6⟩, h7⟩ := hk
    split at h3
    · rename_i z hz
      refine ⟨⟨i, z, hi, h1, h2, hz, h3⟩, ⟨d, hd, h4⟩, h5, fun ha => ?_, ?_⟩
      · simp [ha] at h6
        exact h6
      · simp only [beq_iff_eq] at h7
        constructor
        · intro ha
          rw [ha] at h7
          split at h7
          · rename_i cs hcs
            exact ⟨cs, hcs⟩
          · cases h7
        · rintro ⟨cs, hcs⟩
          rw [h7, hcs]
    · cases h3
  · cases hk

section
variable {P : Program} {t : TypeId} {ti : TI} (h : Told P t ti)
include h
theorem Told.sizeOf (w : World) : (sizeOf t).run P w = .ok ti.size w := by
  obtain ⟨i, z, hi, hs, _⟩ := h.info
  simp [Go.sizeOf, typeInfo, hi, hs]
theorem Told.zero (w : World) : ∃ z, (zeroValue t).run P w = .ok z w ∧ zOK ti.zero z = true := by
  obtain ⟨i, z, hi, hs, _, hz, hk⟩ := h.info
  exact ⟨z, by simp [Go.zeroValue, typeInfo, hi, hz], hk⟩
theorem Told.isAgg (w : World) : (isAgg t).run P w = .ok ti.agg w := by
  obtain ⟨d, hd, hk⟩ := h.und
  unfold Go.isAgg TI.agg
  rw [Sem.run_bind, run_underlying hd w]
  unfold kdOK at hk
  split at hk <;> simp_all
theorem Told.row (ha : ti.agg = true) : ∃ d, P.underlying t = some d ∧ d.isRow = true := by
  obtain ⟨d, hd, hk⟩ := h.und
  refine ⟨d, hd, ?_⟩
  unfold TI.agg at ha
  split at ha
  · rename_i fs hfs
    rw [hfs] at hk
    unfold kdOK at hk
    split at hk <;> simp_all
  · rename_i n e hfs
    rw [hfs] at hk
    unfold kdOK at hk
    split at hk <;> simp_all
  · cases ha
theorem Told.slice {e : TypeId} (hk : ti.kd = .slice e) : P.underlying t = some (.slice e) := by
  obtain ⟨d, hd, ho⟩ := h.und
  rw [hk] at ho
  unfold kdOK at ho
  split at ho <;> simp_all
theorem Told.map {k e : TypeId} (hk : ti.kd = .map k e) : P.underlying t = some (.map k e) := by
  obtain ⟨d, hd, ho⟩ := h.und
  rw [hk] at ho
  unfold kdOK at ho
  split at ho <;> simp_all
theorem Told.int {k : IntKind} (hk : ti.kd = .int k) : P.underlying t = some (.int k) := by
  obtain ⟨d, hd, ho⟩ := h.und
  rw [hk] at ho
  unfold kdOK at ho
  split at ho <;> simp_all
theorem Told.str (hk : ti.kd = .str) : P.underlying t = some .string := by
  obtain ⟨d, hd, ho⟩ := h.und
  rw [hk] at ho
  unfold kdOK at ho
  split at ho <;> simp_all
theorem Told.arr {n : Nat} {e : TypeId} (hk : ti.kd = .arr n e) : P.underlying t = some (.array n e) := by
  obtain ⟨d, hd, ho⟩ := h.und
  rw [hk] at ho
  unfold kdOK at ho
  split at ho <;> simp_all
theorem Told.bool (hk : ti.kd = .bool) : P.underlying t = some .bool := by
  obtain ⟨d, hd, ho⟩ := h.und
  rw [hk] at ho
  unfold kdOK at ho
  split at ho <;> simp_all
theorem Told.ptr (hk : ti.kd = .ptr) : ∃ e, P.underlying t = some (.pointer e) := by
  obtain ⟨d, hd, ho⟩ := h.und
  rw [hk] at ho
  unfold kdOK at ho
  split at ho <;> simp_all
theorem Told.func (hk : ti.kd = .func) : ∃ a b c, P.underlying t = some (.func a b c) := by
  obtain ⟨d, hd, ho⟩ := h.und
  rw [hk] at ho
  unfold kdOK at ho
  split at ho <;> simp_all
theorem Told.iface (hk : ti.kd = .iface) : ∃ a, P.underlying t = some (.interface a) := by
  obtain ⟨d, hd, ho⟩ := h.und
  rw [hk] at ho
  unfold kdOK at ho
  split at ho <;> simp_all
theorem Told.struct {fs : List (Nat × TypeId)} (hk : ti.kd = .struct fs) : ∃ Fs : Array Field, P.underlying t = some (.struct Fs) ∧ fs = Fs.toList.map (fun f => (f.offset, f.type)) ∧ ∀ f ∈ Fs.toList, f.name ≠ "_" := by
  obtain ⟨d, hd, ho⟩ := h.und
  rw [hk] at ho
  unfold kdOK at ho
  split at ho <;> simp_all
  intro f hf
  obtain ⟨i, hi, rfl⟩ := Array.mem_iff_getElem.1 hf
  exact ho.2 i hi
end

/-! Operands. -/
theorem ofCell_rel (F : Froz) (c : Nat → Nat → Option Value) (β : Place) (v : Value) : Rel F c β (ofCell v) v := by
  unfold ofCell
  split <;> constructor

theorem ofConst_rel (F : Froz) (c : Nat → Nat → Option Value) (β : Place) (v : Value) : Rel F c β (ofConst v) v := by
  unfold ofConst
  split
  · rename_i cs
    refine .agg _ _ _ (by simp) fun j v hv => ?_
    simp only [List.getElem?_map, Option.map_eq_some_iff] at hv
    obtain ⟨u, hu, rfl⟩ := hv
    have hu' : cs[j]? = some u := by simpa using hu
    rw [Array.getD_eq_getD_getElem?, hu']
    exact ofCell_rel F c β u
  · exact ofCell_rel F c β v

theorem ev_rel {F : Froz} {w : World} {β : Place} {e : Env} {a : Act} (he : EnvRel F w β e a.tmps) (x : Operand) : Rel F (cl w) β (ev e x) (a.eval x) := by
  cases x with
  | tmp t => exact he t
  | const v => exact ofConst_rel _ _ _ v
  | global g => exact .undef _ _
  | func f => exact .clo _ _ _ _ rfl (by simp)

theorem evs_rel {F : Froz} {w : World} {β : Place} {e : Env} {a : Act} (he : EnvRel F w β e a.tmps) (xs : Array Operand) : RelAll F (cl w) β (evs e xs.toList) (xs.map a.eval) := by
  have key : ∀ l : List Operand, (evs e l).length = l.length ∧ ∀ (j : Nat) (v : V), (evs e l)[j]? = some v → ∃ x, l[j]? = some x ∧ v = ev e x := by
    intro l
    induction l with
    | nil => exact ⟨rfl, by simp [evs]⟩
    | cons x r ih =>
      refine ⟨by simp [evs, ih.1], fun j v hv => ?_⟩
      cases j with
      | zero => simp [evs] at hv; exact ⟨x, rfl, hv.symm⟩
      | succ j => exact ih.2 j v (by simpa [evs] using hv)
  obtain ⟨hl, hg⟩ := key xs.toList
  refine ⟨by simp [hl], fun j v hv => ?_⟩
  obtain ⟨x, hx, rfl⟩ := hg j v hv
  have hx' : xs[j]? = some x := by simpa using hx
  rw [Array.getD_eq_getD_getElem?, Array.getElem?_map, hx']
  exact ev_rel he x

theorem parts_rel {e : Env} : ∀ (l : List (Nat × Operand)), (parts e l).length = l.length ∧ ∀ (j : Nat) (p : Nat × V), (parts e l)[j]? = some p → ∃ q, l[j]? = some q ∧ p = (q.1, ev e q.2)
  | [] => ⟨rfl, by simp [parts]⟩
  | (i, x) :: r => by
    obtain ⟨hl, hg⟩ := parts_rel (e := e) r
    refine ⟨by simp [parts, hl], fun j p hp => ?_⟩
    cases j with
    | zero => simp [parts] at hp; exact ⟨(i, x), rfl, hp.symm⟩
    | succ j => exact hg j p (by simpa [parts] using hp)

/-- An operation's answer. -/
theorem wp_value {P : Program} {o : Oper} {a : Act} {w w' : World} {next : Act → World → Prop} {Q : Exit → Act → World → Prop} {cv : Value} (h : (execOp a.eval o).run P w = .ok (.value cv) w') (hn : next (a.put o.dst cv) w') : o.wp P a w next Q := by
  unfold Oper.wp
  rw [h]
  exact hn
theorem wp_skips {P : Program} {o : Oper} {a : Act} {w w' : World} {next : Act → World → Prop} {Q : Exit → Act → World → Prop} (h : (execOp a.eval o).run P w = .ok .skip w') (hn : next (a.put o.dst undef) w') : o.wp P a w next Q := by
  unfold Oper.wp
  rw [h]
  exact hn

/-! One by one. -/
section
variable {P : Program} {T : TT} (hT : TOK P T) {F : Froz} {w : World} {β : Place} {H : Heap} {l l' : List Nat} {v : V} {u : Upd}

theorem ok_run {x : Option V} (h : (ok x).run H l = some ((v, u), l')) : x = some v ∧ u = [] ∧ l' = l := by
  unfold ok at h
  split at h <;> simp_all [Rd.run]

theorem getD_agg {cvs : Array Value} {j : Nat} (h : j < cvs.size) : cvs.getD j undef = cvs[j] := by
  simp [Array.getD, h]

/-- A part of cells, as a value of its type. -/
theorem partOf_rel {t : TypeId} {ti : TI} (ht : Told P t ti) {cs : List V} {cvs : Array Value} {o : Nat} (hs : cvs.size = cs.length) (hr : ∀ (j : Nat) (v : V), cs[j]? = some v → Rel F (cl w) β v (cvs.getD j undef))
    (hp : partOf ti cs o = some v) : ∃ cv, (part t cvs o).run P w = .ok cv w ∧ Rel F (cl w) β v cv := by
  unfold partOf at hp
  unfold part
  rw [Sem.run_bind, ht.isAgg w]
  simp only [Result.andThen_ok]
  split at hp
  · rename_i ha
    split at hp
    · rename_i hlen
      cases hp
      refine ⟨.agg (cvs.extract o (o + ti.size)), by simp [ha, ht.sizeOf w], .agg _ _ _ (by simp; omega) fun j v hv => ?_⟩
      rw [List.getElem?_take] at hv
      split at hv
      · rename_i hj
        rw [List.getElem?_drop] at hv
        have := hr _ _ hv
        rwa [show (cvs.extract o (o + ti.size)).getD j undef = cvs.getD (o + j) undef by
          rw [Array.getD_eq_getD_getElem?, Array.getD_eq_getD_getElem?, Array.getElem?_extract]
          rw [if_pos (by omega)]]
      · cases hv
    · cases hp
  · rename_i ha
    have hlt : o < cs.length := (List.getElem?_eq_some_iff.1 hp).1
    have hcv : cvs[o]? = some (cvs[o]'(by omega)) := by simp
    refine ⟨cvs[o]'(by omega), by simp [ha, hcv], ?_⟩
    have := hr _ _ hp
    rwa [getD_agg (by omega)] at this

include hT in
theorem field_ok {t : TypeId} {x : V} {f : Nat} {cv : Value} (h : (fieldR T t x f).run H l = some ((v, u), l')) (hx : Rel F (cl w) β x cv) :
    ∃ cw, (Instr.field t cv f).run P w = .ok cw w ∧ Rel F (cl w) β v cw ∧ u = [] := by
  unfold fieldR at h
  split at h
  · rename_i ti' ht
    split at h
    · rename_i fs hk
      split at h
      · rename_i o ft hf
        split at h
        · rename_i ti cs htf
          obtain ⟨hp, rfl, rfl⟩ := ok_run h
          obtain ⟨Fs, hu, rfl, _⟩ := (hT.told ht).struct hk
          cases hx with
          | agg _ _ cvs hs hr =>
            simp only [List.getElem?_map, Option.map_eq_some_iff] at hf
            obtain ⟨f', hf', he⟩ := hf
            cases he
            obtain ⟨cw, hrun, hrel⟩ := partOf_rel (hT.told htf) hs hr hp
            refine ⟨cw, ?_, hrel, rfl⟩
            have hf'' : Fs[f]? = some f' := by simpa using hf'
            simp [Instr.field, run_underlying hu, hf'', asAgg, hrun]
        · simp [Rd.run] at h
      · simp [Rd.run] at h
    · simp [Rd.run] at h
  · simp [Rd.run] at h

theorem pick_ok {c a b : V} {cc ca cb : Value} (h : (pickR c a b).run H l = some ((v, u), l')) (hc : Rel F (cl w) β c cc) (ha : Rel F (cl w) β a ca) (hb : Rel F (cl w) β b cb) :
    ∃ d : Bool, cc = .bool d ∧ Rel F (cl w) β v (if d then ca else cb) ∧ u = [] := by
  unfold pickR at h
  split at h
  · rename_i d
    simp only [Rd.run, Option.some.injEq, Prod.mk.injEq] at h
    obtain ⟨⟨rfl, rfl⟩, _⟩ := h
    cases hc
    exact ⟨d, rfl, by cases d <;> simp [ha, hb], rfl⟩
  · simp [Rd.run] at h

theorem nilCheck_ok {x : V} {cv : Value} (h : (nilCheckR x).run H l = some ((v, u), l')) (hx : Rel F (cl w) β x cv) :
    v = x ∧ u = [] ∧ ((∃ a, cv = .pointer (some a)) ∨ ∃ f cs, cv = .func (.func f) #[] cs) := by
  unfold nilCheckR at h
  split at h <;> simp only [Rd.run, Option.some.injEq, Prod.mk.injEq, reduceCtorEq] at h
  · obtain ⟨⟨rfl, rfl⟩, _⟩ := h
    cases hx; exact ⟨rfl, rfl, .inl ⟨_, rfl⟩⟩
  · obtain ⟨⟨rfl, rfl⟩, _⟩ := h
    cases hx; exact ⟨rfl, rfl, .inl ⟨_, rfl⟩⟩
  · obtain ⟨⟨rfl, rfl⟩, _⟩ := h
    cases hx; exact ⟨rfl, rfl, .inr ⟨_, _, rfl⟩⟩

theorem extract_ok {x : V} {i : Nat} {cv : Value} (h : (extractR x i).run H l = some ((v, u), l')) (hx : Rel F (cl w) β x cv) : ∃ cw, (Instr.extract cv i).run P w = .ok cw w ∧ Rel F (cl w) β v cw ∧ u = [] := by
  unfold extractR at h
  split at h
  · obtain ⟨hp, rfl, rfl⟩ := ok_run h
    cases hx with
    | tup _ _ cvs hs hr =>
      have hlt := (List.getElem?_eq_some_iff.1 hp).1
      have hcv : cvs[i]? = some (cvs[i]'(by omega)) := by simp
      refine ⟨cvs[i]'(by omega), by simp [Instr.extract, hcv], ?_, rfl⟩
      have := hr _ _ hp
      rwa [getD_agg (by omega)] at this
  · simp [Rd.run] at h

include hT in
theorem fieldAddr_ok {t : TypeId} {x : V} {f : Nat} {cv : Value} (h : (fieldAddrR T t x f).run H l = some ((v, u), l')) (hx : Rel F (cl w) β x cv) :
    ∃ cw, (Instr.fieldAt t cv f).run P w = .ok cw w ∧ Rel F (cl w) β v cw ∧ u = [] := by
  unfold fieldAddrR at h
  split at h
  · rename_i ti ht
    split at h
    · rename_i fs hk
      split at h
      · rename_i o ft hf
        obtain ⟨Fs, hu, rfl, _⟩ := (hT.told ht).struct hk
        simp only [List.getElem?_map, Option.map_eq_some_iff] at hf
        obtain ⟨f', hf', he⟩ := hf
        cases he
        have hf'' : Fs[f]? = some f' := by simpa using hf'
        split at h
        · rename_i fti hft
          split at h
          · simp [Rd.run] at h
          · rename_i h0
            have hplace : ∀ b o, (fieldPlace ⟨b, o, none⟩ f').run P w = .ok ⟨b, o + f'.offset, none⟩ w := fun b o => by
              simp [fieldPlace, (hT.told hft).sizeOf w, h0, Addr.add_mid]
            split at h <;> simp only [Rd.run, Option.some.injEq, Prod.mk.injEq, reduceCtorEq] at h
            · rename_i i r off
              obtain ⟨⟨rfl, rfl⟩, _⟩ := h
              cases hx with
              | ptr _ _ _ _ b st C hb =>
                refine ⟨.pointer (some ⟨b, r * st + (off + f'.offset), none⟩), ?_, .ptr _ _ _ _ _ _ C hb, rfl⟩
                simp [Instr.fieldAt, run_underlying hu, hf'', Instr.sureAddr, hplace, Nat.add_assoc]
            · rename_i r off
              obtain ⟨⟨rfl, rfl⟩, _⟩ := h
              cases hx with
              | el _ _ _ b base g hcell hF hr =>
                refine ⟨.pointer (some ⟨b, base + (off + f'.offset), none⟩), ?_, .el _ _ _ _ base g hcell hF hr, rfl⟩
                simp [Instr.fieldAt, run_underlying hu, hf'', Instr.sureAddr, hplace, Nat.add_assoc]
        · simp [Rd.run] at h
      · simp [Rd.run] at h
    · simp [Rd.run] at h
  · simp [Rd.run] at h

/-- The cells of a row in memory, as a value of a type. -/
theorem load_at {t : TypeId} {ti : TI} (ht : Told P t ti) {row : List V} {off b base : Nat} (hr : ∀ (j : Nat) (v : V), row[j]? = some v → ∃ cv, cl w b (base + j) = some cv ∧ Rel F (cl w) β v cv) (hp : partOf ti row off = some v) :
    ∃ cw, (Instr.loadAt t (.pointer (some ⟨b, base + off, none⟩))).run P w = .ok cw w ∧ Rel F (cl w) β v cw := by
  unfold partOf at hp
  split at hp
  · rename_i ha
    split at hp
    · rename_i hlen
      cases hp
      obtain ⟨d, hd, hrow⟩ := ht.row ha
      obtain ⟨i, z, hi, hs, _⟩ := ht.info
      let g : Nat → Value := fun j => (cl w b (base + off + j)).getD undef
      have hg : ∀ j, j < ti.size → ∃ v, row[off + j]? = some v ∧ cl w b (base + off + j) = some (g j) ∧ Rel F (cl w) β v (g j) := by
        intro j hj
        have hlt : off + j < row.length := by omega
        obtain ⟨cv, h1, h2⟩ := hr (off + j) row[off + j] (by simp [hlt])
        rw [← Nat.add_assoc] at h1
        have : g j = cv := by simp [g, h1]
        exact ⟨row[off + j], by simp [hlt], by rw [h1, this], by rw [this]; exact h2⟩
      refine ⟨_, run_loadAt_mid w b (base + off) t ((List.range ti.size).map g) d (fun j v hv => ?_) hd hrow (by simp [hi, hs]), .agg _ _ _ (by simp; omega) fun j v hv => ?_⟩
      · simp only [List.getElem?_map, Option.map_eq_some_iff] at hv
        obtain ⟨k, hk, rfl⟩ := hv
        have hj : j < ti.size := by simpa using (List.getElem?_eq_some_iff.1 hk).1
        have : k = j := by
          rw [List.getElem?_range hj] at hk
          exact (Option.some.inj hk).symm
        subst this
        obtain ⟨_, _, h2, _⟩ := hg k hj
        exact h2
      · rw [List.getElem?_take] at hv
        split at hv
        · rename_i hj
          rw [List.getElem?_drop] at hv
          obtain ⟨u, h1, h2, h3⟩ := hg j hj
          rw [hv] at h1
          cases h1
          rwa [show ((List.range ti.size).map g).toArray.getD j undef = g j by simp [Array.getD, hj]]
        · cases hv
    · cases hp
  · rename_i ha
    obtain ⟨cv, h1, h2⟩ := hr _ _ hp
    have h1' : w.cell? ⟨b, base + off, none⟩ = some cv := h1
    refine ⟨cv, ?_, h2⟩
    simp [Instr.loadAt, Instr.sureAddr, loadVar, ht.isAgg w, ha, h1']

include hT in
theorem load_ok {B : Base} {t : TypeId} {x : V} {cv : Value} (hI : Inv B β F H w) (h : (loadR T t x).run H l = some ((v, u), l')) (hx : Rel F (cl w) β x cv) :
    ∃ cw, (Instr.loadAt t cv).run P w = .ok cw w ∧ Rel F (cl w) β v cw ∧ u = [] := by
  unfold loadR at h
  split at h
  · simp [Rd.run] at h
  · rename_i ti ht
    split at h
    · rename_i i r off
      simp only [Rd.run] at h
      split at h
      · rename_i ob hob
        split at h
        · rename_i st rows frz pure
          split at h
          · rename_i row hrow
            obtain ⟨hp, rfl, rfl⟩ := ok_run h
            cases hx with
            | ptr _ _ _ _ b st' C hb =>
              obtain ⟨lc, hl, ho⟩ := hI.obs _ _ hob
              rw [hb] at hl
              cases hl
              cases ho with
              | buf _ _ _ _ _ _ hst hthere hC hlen hcell hpure hr =>
                obtain ⟨cw, h1, h2⟩ := load_at (hT.told ht) (base := r * st) (fun j v hv => hr r j row v hrow hv) hp
                exact ⟨cw, h1, h2, rfl⟩
          · simp [Rd.run] at h
        · simp [Rd.run] at h
      · simp at h
    · rename_i row off
      obtain ⟨hp, rfl, rfl⟩ := ok_run h
      cases hx with
      | el _ _ _ b base g hcell hF hr =>
        obtain ⟨cw, h1, h2⟩ := load_at (β := β) (F := F) (w := w) (hT.told ht) (b := b) (base := base) (fun j v hv => by
          have hj := (List.getElem?_eq_some_iff.1 hv).1
          exact ⟨g j, (hF j hj).2, (hr j v hv).mono (fun b o h => ⟨h, rfl⟩) (by simp [none0])⟩) hp
        exact ⟨cw, h1, h2, rfl⟩
    · simp [Rd.run] at h

theorem natOf_rel {x : V} {n : Nat} {cv : Value} (h : natOf x = some n) (hx : Rel F (cl w) β x cv) : ∃ k, cv = .int k (n : Int) := by
  unfold natOf at h
  split at h
  · rename_i k m
    split at h
    · rename_i hm
      cases h
      cases hx
      exact ⟨k, by rw [Int.toNat_of_nonneg hm]⟩
    · cases h
  · cases h

include hT in
theorem indexAddr_ok {t : TypeId} {x i : V} {cv ci : Value} (h : (indexAddrR T t x i).run H l = some ((v, u), l')) (hx : Rel F (cl w) β x cv) (hi : Rel F (cl w) β i ci) :
    ∃ cw, (Instr.indexAt t cv ci).run P w = .ok cw w ∧ Rel F (cl w) β v cw ∧ u = [] := by
  unfold indexAddrR at h
  split at h
  · rename_i ti' ht
    split at h
    · rename_i el hk
      have hu := (hT.told ht).slice hk
      split at h
      · rename_i ti n htel hn
        obtain ⟨k, rfl⟩ := natOf_rel hn hi
        obtain ⟨z, zz, hinfo, hsz, _⟩ := (hT.told htel).info
        have hsize := (hT.told htel).sizeOf w
        split at h
        · rename_i rows
          split at h
          · rename_i row hrow
            split at h
            · rename_i hall
              simp only [Rd.run, Option.some.injEq, Prod.mk.injEq] at h
              obtain ⟨⟨rfl, rfl⟩, _⟩ := h
              have hlt := (List.getElem?_eq_some_iff.1 hrow).1
              have hrl : ∀ r ∈ rows, r.length = ti.size := by simpa using hall
              cases hx with
              | fz0 => simp at hlt
              | fz _ _ b o st cap g hl hst hcell hF hr =>
                have hmem : row ∈ rows := List.mem_of_getElem? hrow
                have hst' : st = ti.size := by rw [← hst row hmem, hrl row hmem]
                subst hst'
                refine ⟨.pointer (some ⟨b, o + n * ti.size + 0, none⟩), ?_, .el _ row 0 b (o + n * ti.size) (g n) (hcell row hmem) (fun j hj => ?_) (fun j v hv => hr n j row v hrow hv), rfl⟩
                · simp [Instr.indexAt, asIntOf, run_underlying hu, hlt, hsize, Addr.add_mid]
                · exact hF n j hlt (by rw [← hst row hmem]; exact hj)
            · simp [Rd.run] at h
          · simp [Rd.run] at h
        · rename_i id st o len cap
          split at h
          · rename_i hc
            obtain ⟨hlt, rfl⟩ := hc
            simp only [Rd.run, Option.some.injEq, Prod.mk.injEq] at h
            obtain ⟨⟨rfl, rfl⟩, _⟩ := h
            cases hx with
            | ms0 => simp at hlt
            | ms _ _ _ _ _ _ b C cc o' hb hc hlen hcap hnone ho =>
              have ho' : o' = o * ti.size := by rcases ho with h | h <;> omega
              subst ho'
              refine ⟨.pointer (some ⟨b, (o + n) * ti.size + 0, none⟩), ?_, .ptr _ _ _ _ _ _ C hb, rfl⟩
              simp [Instr.indexAt, asIntOf, run_underlying hu, hlt, hsize, Addr.add_mid, Nat.add_mul]
          · simp [Rd.run] at h
        · simp [Rd.run] at h
      · simp [Rd.run] at h
    · simp [Rd.run] at h
  · simp [Rd.run] at h

include hT in
theorem index_ok {t : TypeId} {x i : V} {cv ci : Value} (h : (indexR T t x i).run H l = some ((v, u), l')) (hx : Rel F (cl w) β x cv) (hi : Rel F (cl w) β i ci) :
    ∃ cw, (Instr.index t cv ci).run P w = .ok cw w ∧ Rel F (cl w) β v cw ∧ u = [] := by
  unfold indexR at h
  split at h
  · rename_i ti' ht
    split at h
    · rename_i hk
      have hu := (hT.told ht).str hk
      split at h
      · rename_i s n hn
        obtain ⟨k, rfl⟩ := natOf_rel hn hi
        split at h
        · rename_i b hb
          simp only [Rd.run, Option.some.injEq, Prod.mk.injEq] at h
          obtain ⟨⟨rfl, rfl⟩, _⟩ := h
          cases hx
          exact ⟨_, by simp [Instr.index, asIntOf, run_underlying hu, hb], .int _ _ _, rfl⟩
        · simp [Rd.run] at h
      · simp [Rd.run] at h
    · simp [Rd.run] at h
  · simp [Rd.run] at h

include hT in
theorem conv_ok {src dst : TypeId} {x : V} {cv : Value} (h : conv T src dst x = some v) (hx : Rel F (cl w) β x cv) : ∃ cw, (convert src dst cv).run P w = .ok cw w ∧ Rel F (cl w) β v cw := by
  unfold conv at h
  split at h
  · rename_i a b ha hb
    split at h
    · rename_i k hk k' hk'
      cases h
      cases hx
      exact ⟨_, by simp [convert, run_underlying ((hT.told ha).int ‹_›), run_underlying ((hT.told hb).int ‹_›), Conv.intToInt], .int _ _ _⟩
    · cases h
      cases hx
      exact ⟨_, by simp [convert, run_underlying ((hT.told ha).str ‹_›), run_underlying ((hT.told hb).str ‹_›)], .str _ _⟩
    · cases h
  · cases h

theorem un_ok {op : UnOp} {x : V} {cv : Value} (h : un op x = some v) (hx : Rel F (cl w) β x cv) : ∃ cw, (Op.unary op cv).run P w = .ok cw w ∧ Rel F (cl w) β v cw := by
  unfold un at h
  split at h
  · split at h
    · cases h; cases hx; exact ⟨_, rfl, .bool _ _⟩
    · cases h
  · split at h
    · cases h; cases hx; exact ⟨_, rfl, .int _ _ _⟩
    · cases h; cases hx; exact ⟨_, rfl, .int _ _ _⟩
    · cases h
  · cases h

theorem max2_ok {x y : V} {cx cy : Value} (h : max2 x y = some v) (hx : Rel F (cl w) β x cx) (hy : Rel F (cl w) β y cy) : ∃ cw, (Builtin.max_ #[] 0 #[cx, cy]).run P w = .ok cw w ∧ Rel F (cl w) β v cw := by
  unfold max2 at h
  split at h
  · split at h
    · cases h; cases hx; cases hy
      exact ⟨_, by simp [Builtin.max_, Builtin.max2], .int _ _ _⟩
    · cases h
  · cases h; cases hx; cases hy
    exact ⟨_, by simp only [Builtin.max_, List.foldlM]; simp [Builtin.max2, Op.stringOp, asBool], .str _ _⟩
  · cases h

theorem min2_ok {x y : V} {cx cy : Value} (h : min2 x y = some v) (hx : Rel F (cl w) β x cx) (hy : Rel F (cl w) β y cy) : ∃ cw, (Builtin.min_ #[] 0 #[cx, cy]).run P w = .ok cw w ∧ Rel F (cl w) β v cw := by
  unfold min2 at h
  split at h
  · split at h
    · cases h; cases hx; cases hy
      exact ⟨_, by simp [Builtin.min_, Builtin.min2], .int _ _ _⟩
    · cases h
  · cases h; cases hx; cases hy
    exact ⟨_, by simp only [Builtin.min_, List.foldlM]; simp [Builtin.min2, Op.stringOp, asBool], .str _ _⟩
  · cases h
end

end Go.Proofs.YtoggbcckkjfkhaaGreat.R
/- More operations that turn nothing: comparisons, cuts of slices, look-ups. -/
namespace Go.Proofs.YtoggbcckkjfkhaaGreat.R
open Go Go.RowKit

section
variable {P : Program} {T : TT} (hT : TOK P T) {F : Froz} {w : World} {β : Place} {H : Heap} {l l' : List Nat} {v : V} {u : Upd}

theorem eqKind_ok {t : TypeId} {ti : TI} (ht : Told P t ti) {x y : V} {cx cy : Value} {b : Bool} (h : eqKind ti.kd x y = some b) (hx : Rel F (cl w) β x cx) (hy : Rel F (cl w) β y cy) (d : Nat) :
    (Op.equalIn (d + 1) t cx cy).run P w = .ok b w := by
  unfold eqKind at h
  split at h
  · have hk := ‹ti.kd = .bool›
    cases h; cases hx; cases hy
    simp [Op.equalIn, run_underlying (ht.bool hk)]
  · have hk := ‹ti.kd = .int _›
    split at h
    · rename_i hkk
      subst hkk
      cases h; cases hx; cases hy
      simp [Op.equalIn, run_underlying (ht.int hk)]
    · cases h
  · have hk := ‹ti.kd = .str›
    cases h; cases hx; cases hy
    simp [Op.equalIn, run_underlying (ht.str hk)]
  · cases h

theorem agg_false {ti : TI} {x y : V} {b : Bool} (h : eqKind ti.kd x y = some b) : ti.agg = false := by
  unfold TI.agg
  split
  · rename_i fs hfs
    rw [hfs] at h
    simp [eqKind] at h
  · rename_i n e hfs
    rw [hfs] at h
    simp [eqKind] at h
  · rfl

include hT in
theorem eqAgg_ok : ∀ (d : Nat) (Fs : List Field) (xs ys : List V) (cxs cys : Array Value) (b : Bool), (∀ f ∈ Fs, f.name ≠ "_") → eqAgg T d (Fs.map fun f => (f.offset, f.type)) xs ys = some b →
    cxs.size = xs.length → (∀ (j : Nat) (v : V), xs[j]? = some v → Rel F (cl w) β v (cxs.getD j undef)) → cys.size = ys.length → (∀ (j : Nat) (v : V), ys[j]? = some v → Rel F (cl w) β v (cys.getD j undef)) →
    ∀ D, d ≤ D → (Op.eqFields D cxs cys Fs).run P w = .ok b w
  | 0, Fs, xs, ys, cxs, cys, b, _, h, _, _, _, _, D, _ => by simp [eqAgg] at h
  | d + 1, [], xs, ys, cxs, cys, b, _, h, _, _, _, _, D, _ => by
    simp only [eqAgg, List.map_nil, Option.some.injEq] at h
    subst h
    simp [Op.eqFields]
  | d + 1, f :: Fs, xs, ys, cxs, cys, b, hn, h, hxs, hx, hys, hy, D, hD => by
    obtain ⟨D, rfl⟩ : ∃ m, D = m + 1 := ⟨D - 1, by omega⟩
    simp only [List.map_cons, eqAgg] at h
    split at h
    · cases h
    · rename_i ti hti
      have ht := hT.told hti
      -- here
      have here : ∀ b', (match ti.kd with
        | .struct gs => if f.offset + ti.size ≤ xs.length ∧ f.offset + ti.size ≤ ys.length then eqAgg T d gs ((xs.drop f.offset).take ti.size) ((ys.drop f.offset).take ti.size) else none
        | kd => match xs[f.offset]?, ys[f.offset]? with
          | some x, some y => eqKind kd x y
          | _, _ => none) = some b' → ∃ ca cb, (part f.type cxs f.offset).run P w = .ok ca w ∧ (part f.type cys f.offset).run P w = .ok cb w ∧ (Op.equalIn (D + 1) f.type ca cb).run P w = .ok b' w := by
        intro b' hb
        split at hb
        · rename_i gs hgs
          split at hb
          · rename_i hlen
            have ha : ti.agg = true := by unfold TI.agg; rw [hgs]
            obtain ⟨Gs, hu, rfl, hnames⟩ := ht.struct hgs
            obtain ⟨ca, h1, r1⟩ := partOf_rel (P := P) (o := f.offset) (v := .agg ((xs.drop f.offset).take ti.size)) ht hxs hx (by simp [partOf, ha, hlen.1])
            obtain ⟨cb, h2, r2⟩ := partOf_rel (P := P) (o := f.offset) (v := .agg ((ys.drop f.offset).take ti.size)) ht hys hy (by simp [partOf, ha, hlen.2])
            refine ⟨ca, cb, h1, h2, ?_⟩
            cases r1 with
            | agg _ _ c1 s1 g1 =>
              cases r2 with
              | agg _ _ c2 s2 g2 =>
                have hf : P.fieldsOf f.type = Gs := by simp [Program.fieldsOf, hu]
                rw [run_equalIn_struct w D f.type c1 c2 (by rw [hf]; exact hu) (ht.held ha).1, hf]
                exact eqAgg_ok d Gs.toList _ _ c1 c2 b' hnames hb s1 g1 s2 g2 D (by omega)
          · cases hb
        · rename_i hns
          split at hb
          · rename_i x y hx1 hy1
            have ha : ti.agg = false := agg_false hb
            obtain ⟨ca, h1, r1⟩ := partOf_rel (P := P) (o := f.offset) (v := x) ht hxs hx (by simp [partOf, ha, hx1])
            obtain ⟨cb, h2, r2⟩ := partOf_rel (P := P) (o := f.offset) (v := y) ht hys hy (by simp [partOf, ha, hy1])
            exact ⟨ca, cb, h1, h2, eqKind_ok ht hb r1 r2 D⟩
          · cases hb
      have rest : ∀ b', eqAgg T d (Fs.map fun f => (f.offset, f.type)) xs ys = some b' → (Op.eqFields (D + 1) cxs cys Fs).run P w = .ok b' w := fun b' hb =>
        eqAgg_ok d Fs xs ys cxs cys b' (fun g hg => hn g (.tail _ hg)) hb hxs hx hys hy (D + 1) (by omega)
      split at h
      · rename_i hh
        obtain ⟨ca, cb, h1, h2, h3⟩ := here true hh
        have := rest b h
        simp [Op.eqFields, hn f (.head _), h1, h2, h3, this]
      · rename_i hne
        cases b with
        | true => exact absurd h hne
        | false =>
          obtain ⟨ca, cb, h1, h2, h3⟩ := here false h
          simp [Op.eqFields, hn f (.head _), h1, h2, h3]

/-- Two arrays of elements of one cell. -/
theorem eqItems_ok {e : TypeId} {te : TI} (ht : Told P e te) (ha : te.agg = false) (h1 : P.cellsOf e = 1) {xs ys : List V} {cxs cys : Array Value} (hxs : cxs.size = xs.length) (hx : ∀ (j : Nat) (v : V), xs[j]? = some v → Rel F (cl w) β v (cxs.getD j undef))
    (hys : cys.size = ys.length) (hy : ∀ (j : Nat) (v : V), ys[j]? = some v → Rel F (cl w) β v (cys.getD j undef)) (D : Nat) :
    ∀ (is : List Nat) (b : Bool), eqArr te.kd xs ys is = some b → (Op.eqItems (D + 1) e (P.cellsOf e) cxs cys is).run P w = .ok b w
  | [], b, h => by
    cases h
    simp [Op.eqItems]
  | i :: is, b, h => by
    simp only [eqArr] at h
    split at h
    · rename_i x y hx1 hy1
      obtain ⟨ca, p1, r1⟩ := partOf_rel (P := P) (o := i) (v := x) ht hxs hx (by simp [partOf, ha, hx1])
      obtain ⟨cb, p2, r2⟩ := partOf_rel (P := P) (o := i) (v := y) ht hys hy (by simp [partOf, ha, hy1])
      have here : ∀ b', eqKind te.kd x y = some b' → (Op.equalIn (D + 1) e ca cb).run P w = .ok b' w := fun b' hb => eqKind_ok ht hb r1 r2 D
      rw [h1]
      simp only [Op.eqItems, Sem.run_bind, Nat.mul_one, p1, p2, Result.andThen_ok]
      split at h
      · rename_i hh
        have hr := eqItems_ok ht ha h1 hxs hx hys hy D is b h
        rw [h1] at hr
        simp [here true hh, hr]
      · rename_i hne
        cases b with
        | true => exact absurd h hne
        | false => simp [here false h]
    · cases h

theorem eqGuard_free {t : TypeId} {cx cy : Value} (h1 : ∀ xs ys, ¬ (cx = .agg xs ∧ cy = .agg ys)) (h2 : ¬ (cx = .nilIface ∧ cy = .nilIface)) (op : BinOp) (ox oy : Operand) : (eqGuard op t ox oy cx cy).run P w = .ok () w := by
  cases op
  case eql | neq =>
    cases cx <;> cases cy <;> first | rfl | exact absurd ⟨rfl, rfl⟩ h2 | exact absurd ⟨rfl, rfl⟩ (h1 _ _)
  all_goals rfl

include hT in
/-- Two values, equal or not; and the model's look at two nil interface values. -/
theorem eqV_ok {t : TypeId} {x y : V} {cx cy : Value} {b : Bool} (h : eqV T t x y = some b) (hx : Rel F (cl w) β x cx) (hy : Rel F (cl w) β y cy) :
    (Op.equal t cx cy).run P w = .ok b w ∧ (∀ op ox oy, (eqGuard op t ox oy cx cy).run P w = .ok () w) ∧ (∀ k n, cx ≠ .int k n) ∧ (∀ s, cx ≠ .string s) ∧ (∀ k n, cx ≠ .float k n) ∧ (∀ k n m, cx ≠ .complex k n m) := by
  unfold eqV at h
  split at h
  · cases h
  · rename_i ti hti
    have ht := hT.told hti
    obtain ⟨d, hd, hk⟩ := ht.und
    have eg : ∀ op ox oy, (∀ xs ys, ¬ (cx = .agg xs ∧ cy = .agg ys)) → ¬ (cx = .nilIface ∧ cy = .nilIface) → (eqGuard op t ox oy cx cy).run P w = .ok () w := fun op ox oy h1 h2 => eqGuard_free h1 h2 op ox oy
    split at h
    case h_14 =>
      rename_i fs xs ys hkd
      have ha : ti.agg = true := by unfold TI.agg; rw [hkd]
      obtain ⟨Gs, hu, rfl, hnames⟩ := ht.struct hkd
      cases hx with
      | agg _ _ c1 s1 g1 =>
        cases hy with
        | agg _ _ c2 s2 g2 =>
          have hf : P.fieldsOf t = Gs := by simp [Program.fieldsOf, hu]
          refine ⟨?_, ?_, by simp, by simp, by simp, by simp⟩
          · show (Op.equalIn (9999 + 1) t _ _).run P w = _
            rw [run_equalIn_struct w 9999 t c1 c2 (by rw [hf]; exact hu) (ht.held ha).1, hf]
            exact eqAgg_ok hT 12 Gs.toList _ _ c1 c2 b hnames h s1 g1 s2 g2 9999 (by omega)
          · intro op ox oy
            simp [eqGuard, (ht.held ha).2]
    case h_17 => cases h
    case h_15 =>
      rename_i n e xs ys hkd
      have ha : ti.agg = true := by unfold TI.agg; rw [hkd]
      have hu := ht.arr hkd
      split at h
      · rename_i te hte
        split at h
        · rename_i hc
          obtain ⟨i, z, hi, hs, _⟩ := (hT.told hte).info
          have h1 : P.cellsOf e = 1 := by simp [Program.cellsOf, hi, hs, hc.2]
          cases hx with
          | agg _ _ c1 s1 g1 =>
            cases hy with
            | agg _ _ c2 s2 g2 =>
              refine ⟨?_, ?_, by simp, by simp, by simp, by simp⟩
              · show (Op.equalIn (9999 + 1) t _ _).run P w = _
                rw [run_equalIn_array w 9999 c1 c2 hu hi]
                exact eqItems_ok (hT.told hte) hc.1 h1 s1 g1 s2 g2 9998 _ _ h
              · intro op ox oy
                simp [eqGuard, (ht.held ha).2]
        · cases h
      · cases h
    case h_16 =>
      have hu := ht.bool ‹_›
      cases h; cases hx; cases hy
      exact ⟨(show ∀ d, (Op.equalIn (d + 1) t _ _).run P w = _ from fun d => by simp [Op.equalIn, run_underlying hu]) 9999, fun _ _ _ => eg _ _ _ (by simp) (by simp), by simp, by simp, by simp, by simp⟩
    case h_1 | h_2 | h_3 | h_4 | h_5 =>
      obtain ⟨e, hu⟩ := ht.ptr ‹_›
      cases h; cases hx; cases hy
      exact ⟨(show ∀ d, (Op.equalIn (d + 1) t _ _).run P w = _ from fun d => by simp [Op.equalIn, run_underlying hu]) 9999, fun _ _ _ => eg _ _ _ (by simp) (by simp), by simp, by simp, by simp, by simp⟩
    case h_6 =>
      have hu := ht.slice ‹_›
      cases h; cases hx; cases hy
      exact ⟨(show ∀ d, (Op.equalIn (d + 1) t _ _).run P w = _ from fun d => by simp [Op.equalIn, run_underlying hu]) 9999, fun _ _ _ => eg _ _ _ (by simp) (by simp), by simp, by simp, by simp, by simp⟩
    case h_7 =>
      have hu := ht.slice ‹_›
      cases h; cases hy
      cases hx with
      | fz => exact ⟨(show ∀ d, (Op.equalIn (d + 1) t _ _).run P w = _ from fun d => by simp [Op.equalIn, run_underlying hu]) 9999, fun _ _ _ => eg _ _ _ (by simp) (by simp), by simp, by simp, by simp, by simp⟩
    case h_8 =>
      have hu := ht.slice ‹_›
      cases h; cases hy
      cases hx with
      | ms => exact ⟨(show ∀ d, (Op.equalIn (d + 1) t _ _).run P w = _ from fun d => by simp [Op.equalIn, run_underlying hu]) 9999, fun _ _ _ => eg _ _ _ (by simp) (by simp), by simp, by simp, by simp, by simp⟩
    case h_9 | h_10 =>
      have hu := ht.map ‹_›
      cases h; cases hx; cases hy
      exact ⟨(show ∀ d, (Op.equalIn (d + 1) t _ _).run P w = _ from fun d => by simp [Op.equalIn, run_underlying hu]) 9999, fun _ _ _ => eg _ _ _ (by simp) (by simp), by simp, by simp, by simp, by simp⟩
    case h_11 | h_12 =>
      obtain ⟨_, _, _, hu⟩ := ht.func ‹_›
      cases h; cases hx; cases hy
      exact ⟨(show ∀ d, (Op.equalIn (d + 1) t _ _).run P w = _ from fun d => by simp [Op.equalIn, run_underlying hu]) 9999, fun _ _ _ => eg _ _ _ (by simp) (by simp), by simp, by simp, by simp, by simp⟩
    case h_13 =>
      obtain ⟨_, hu⟩ := ht.iface ‹_›
      cases h; cases hx; cases hy
      exact ⟨(show ∀ d, (Op.equalIn (d + 1) t _ _).run P w = _ from fun d => by simp [Op.equalIn, run_underlying hu]) 9999, fun _ _ _ => eg _ _ _ (by simp) (by simp), by simp, by simp, by simp, by simp⟩

include hT in
theorem bin_ok {op : BinOp} {t : TypeId} {x y : V} {cx cy : Value} (h : bin T op t x y = some v) (hx : Rel F (cl w) β x cx) (hy : Rel F (cl w) β y cy) (ox oy : Operand) :
    ∃ cw, (do eqGuard op t ox oy cx cy; binOp op t cx cy : Sem Value).run P w = .ok cw w ∧ Rel F (cl w) β v cw := by
  unfold bin at h
  split at h
  · rename_i k a k' b
    cases hx; cases hy
    have eg : (eqGuard op t ox oy (.int k a) (.int k' b)).run P w = .ok () w := by
      unfold eqGuard
      split <;> simp
    split at h
    · split at h
      · rename_i hb
        cases h
        refine ⟨_, ?_, .int _ _ _⟩
        simp [eg, binOp, Op.shift, Int.not_lt.2 hb]
      · cases h
    · split at h
      · rename_i hb
        cases h
        refine ⟨_, ?_, .int _ _ _⟩
        simp [eg, binOp, Op.shift, Int.not_lt.2 hb]
      · cases h
    · rename_i h1 h2
      split at h
      · rename_i hk
        subst hk
        unfold binInt at h
        split at h <;> first
          | (cases h; refine ⟨_, ?_, by constructor⟩; simp [eg, binOp, Op.intArith, Op.intBits, Op.intCmp])
          | (split at h
             · cases h
             · rename_i h0
               cases h
               refine ⟨_, ?_, by constructor⟩
               simp [eg, binOp, Op.intDiv, h0])
          | cases h
      · cases h
  · rename_i a b
    cases hx; cases hy
    have eg : (eqGuard op t ox oy (.string a) (.string b)).run P w = .ok () w := by
      unfold eqGuard
      split <;> simp
    unfold binStr at h
    split at h <;> first
      | (cases h; refine ⟨_, ?_, by constructor⟩; simp [eg, binOp, Op.stringOp])
      | (split at h
         · rename_i hl
           cases h
           have hl' : ¬ (((a.size + b.size : Nat) : Int) > IntKind.i64.max) := by
             have : IntKind.i64.max = 9223372036854775807 := rfl
             omega
           refine ⟨_, ?_, by constructor⟩
           simp only [Sem.run_bind, eg, Result.andThen_ok, binOp, Op.stringOp, if_neg hl', Sem.run_pure]
         · cases h)
      | cases h
  · split at h
    · simp only [Option.map_eq_some_iff] at h
      obtain ⟨b, hb, rfl⟩ := h
      obtain ⟨h1, h2, h3, h4, h5, h6⟩ := eqV_ok hT hb hx hy
      refine ⟨.bool b, ?_, .bool _ _⟩
      rw [Sem.run_bind, h2]
      simp only [Result.andThen_ok]
      have : binOp .eql t cx cy = (do pure (.bool (← Op.equal t cx cy)) : Sem Value) := by
        cases cx <;> first | rfl | (exact absurd rfl (h3 _ _)) | (exact absurd rfl (h4 _)) | (exact absurd rfl (h5 _ _)) | (exact absurd rfl (h6 _ _ _))
      rw [this]
      simp [h1]
    · simp only [Option.map_eq_some_iff] at h
      obtain ⟨b, hb, rfl⟩ := h
      obtain ⟨h1, h2, h3, h4, h5, h6⟩ := eqV_ok hT hb hx hy
      refine ⟨.bool !b, ?_, .bool _ _⟩
      rw [Sem.run_bind, h2]
      simp only [Result.andThen_ok]
      have : binOp .neq t cx cy = (do pure (.bool (!(← Op.equal t cx cy))) : Sem Value) := by
        cases cx <;> first | rfl | (exact absurd rfl (h3 _ _)) | (exact absurd rfl (h4 _)) | (exact absurd rfl (h5 _ _)) | (exact absurd rfl (h6 _ _ _))
      rw [this]
      simp [h1]
    · cases h
end

end Go.Proofs.YtoggbcckkjfkhaaGreat.R
/- More operations that turn nothing: cuts of slices, struct literals, look-ups, len. -/
namespace Go.Proofs.YtoggbcckkjfkhaaGreat.R
open Go Go.RowKit

section
variable {P : Program} {T : TT} (hT : TOK P T) {F : Froz} {w : World} {β : Place} {H : Heap} {l l' : List Nat} {v : V} {u : Upd}

/-- An operand of a cut. -/
def OptRel (F : Froz) (c : Nat → Nat → Option Value) (β : Place) : Option V → Option Value → Prop
  | none, none => True
  | some v, some cv => Rel F c β v cv
  | _, _ => False

theorem bound_ok {x : V} {n y : Nat} {cv : Value} (h : natOf x = some n) (hx : Rel F (cl w) β x cv) (hy : n ≤ y) (code : BoundsCode) : (Instr.sliceBound cv y code).run P w = .ok n w := by
  obtain ⟨k, rfl⟩ := natOf_rel h hx
  simp [Instr.sliceBound, asIntOf, hy]

theorem bounds_ok {lo hi mx : Option V} {clo chi cmx : Option Value} {ll hh mm len cap : Nat} (isS : Bool) (h1 : OptRel F (cl w) β lo clo) (h2 : OptRel F (cl w) β hi chi) (h3 : OptRel F (cl w) β mx cmx)
    (hl : optNat lo 0 = some ll) (hh' : optNat hi len = some hh) (hm : optNat mx cap = some mm) (hn : mx ≠ none → hi ≠ none) (a : ll ≤ hh) (b : hh ≤ mm) (c : mm ≤ cap) :
    (Instr.sliceBounds isS len cap clo chi cmx).run P w = .ok (ll, hh, mm) w := by
  have B : ∀ {x : V} {n y : Nat} {cv : Value}, natOf x = some n → Rel F (cl w) β x cv → n ≤ y → ∀ code, (Instr.sliceBound cv y code).run P w = .ok n w := fun h hx hy code => bound_ok h hx hy code
  cases lo <;> cases clo <;> (try exact h1.elim) <;> cases hi <;> cases chi <;> (try exact h2.elim) <;> cases mx <;> cases cmx <;> (try exact h3.elim) <;> simp only [optNat, Option.some.injEq] at hl hh' hm
  case none.none.none.none.none.none => subst hl hh' hm; simp [Instr.sliceBounds]
  case none.none.none.none.some.some => exact absurd rfl (hn (by simp))
  case some.some.none.none.some.some => exact absurd rfl (hn (by simp))
  case none.none.some.some.none.none => subst hl hm; simp [Instr.sliceBounds, B hh' h2 b]
  case none.none.some.some.some.some => subst hl; simp [Instr.sliceBounds, B hh' h2 b, B hm h3 c]
  case some.some.none.none.none.none => subst hh' hm; simp [Instr.sliceBounds, B hl h1 a]
  case some.some.some.some.none.none => subst hm; simp [Instr.sliceBounds, B hh' h2 b, B hl h1 a]
  case some.some.some.some.some.some => simp [Instr.sliceBounds, B hh' h2 b, B hl h1 a, B hm h3 c]

theorem sliceAt_slice {t e : TypeId} (hu : P.underlying t = some (.slice e)) (x : Value) (lo hi mx : Option Value) : (Instr.sliceAt t x lo hi mx).run P w = (Instr.slice t x lo hi mx).run P w := by
  simp [Instr.sliceAt, run_underlying hu]
theorem sliceAt_str {t : TypeId} (hu : P.underlying t = some .string) (x : Value) (lo hi mx : Option Value) : (Instr.sliceAt t x lo hi mx).run P w = (Instr.slice t x lo hi mx).run P w := by
  simp [Instr.sliceAt, run_underlying hu]

include hT in
theorem slice_ok {B : Base} (hI : Inv B β F H w) {t : TypeId} {x : V} {lo hi mx : Option V} {cv : Value} {clo chi cmx : Option Value} (h : (sliceR T t x lo hi mx).run H l = some ((v, u), l')) (hx : Rel F (cl w) β x cv)
    (h1 : OptRel F (cl w) β lo clo) (h2 : OptRel F (cl w) β hi chi) (h3 : OptRel F (cl w) β mx cmx) (hn : mx ≠ none → hi ≠ none) :
    ∃ cw, (Instr.sliceAt t cv clo chi cmx).run P w = .ok cw w ∧ Rel F (cl w) β v cw ∧ u = [] := by
  unfold sliceR at h
  split at h
  · rename_i ti' ht'
    split at h
    · rename_i el hk
      have hu := (hT.told ht').slice hk
      rw [sliceAt_slice hu]
      split at h
      · rename_i ti ht
        split at h
        · simp [Rd.run] at h
        unfold okOr at h
        have hsize := (hT.told ht).sizeOf w
        split at h
        · rename_i hc
          simp only [Rd.run, Option.some.injEq, Prod.mk.injEq] at h
          obtain ⟨⟨rfl, rfl⟩, rfl⟩ := h
          unfold cutS at hc
          split at hc
          · rename_i s hno
            exact absurd rfl (hno s)
          · -- a frozen one
            rename_i rows _
            split at hc
            · rename_i ll hh hll hhh
              split at hc
              · rename_i hcond
                obtain ⟨c1, c2, c3⟩ := hcond
                cases hc
                have hrl : ∀ r ∈ rows, r.length = ti.size := by simpa using c3
                cases cmx with
                | some _ => exact h3.elim
                | none =>
                  cases hx with
                  | fz0 _ a cap =>
                    simp only [List.length_nil] at hhh c2
                    obtain rfl : hh = 0 := by omega
                    obtain rfl : ll = 0 := by omega
                    have hb := bounds_ok (P := P) (w := w) (cap := cap) (mm := cap) true h1 h2 (mx := none) (cmx := none) trivial hll hhh rfl (by simp) (by omega) (by omega) (by omega)
                    refine ⟨.slice (if cap = 0 then a else a.map (·.add (0 * ti.size))) 0 (cap - 0), by simp [Instr.slice, run_underlying hu, hb, hsize], ?_, rfl⟩
                    exact .fz0 _ _ _
                  | fz _ _ b o st cap g hl hst hcell hF hr =>
                    have hb := bounds_ok (P := P) (w := w) (cap := cap) (mm := cap) true h1 h2 (mx := none) (cmx := none) trivial hll hhh rfl (by simp) c1 (by omega) (by omega)
                    refine ⟨.slice (if cap = ll then some ⟨b, o, none⟩ else some ⟨b, o + ll * ti.size, none⟩) (hh - ll) (cap - ll), ?_, ?_, rfl⟩
                    · simp only [Instr.slice, Sem.run_bind, run_underlying hu, Result.andThen_ok, hb, hsize, Sem.run_pure, Option.map_some, Addr.add_mid]
                    · by_cases he : hh = ll
                      · subst he
                        simp only [Nat.sub_self, List.take_zero]
                        exact .fz0 _ _ _
                      · have hlt : ll < hh := by omega
                        have hcl : cap ≠ ll := by omega
                        have hst' : st = ti.size := by
                          have hm : rows[ll]'(by omega) ∈ rows := List.getElem_mem _
                          rw [← hst _ hm, hrl _ hm]
                        subst hst'
                        rw [if_neg hcl]
                        have hlen : ((rows.drop ll).take (hh - ll)).length = hh - ll := by simp; omega
                        have hget : ∀ r, r < hh - ll → ((rows.drop ll).take (hh - ll))[r]? = rows[ll + r]? := fun r hr => by
                          rw [List.getElem?_take, if_pos hr, List.getElem?_drop]
                        have := Rel.fz (F := F) (c := cl w) β ((rows.drop ll).take (hh - ll)) b (o + ll * ti.size) ti.size (cap - ll) (fun r j => g (ll + r) j) (by omega)
                          (fun row hm => hst row (List.mem_of_mem_drop (List.mem_of_mem_take hm))) (fun row hm => hcell row (List.mem_of_mem_drop (List.mem_of_mem_take hm)))
                          (fun r j hr hj => by
                            have := hF (ll + r) j (by omega) hj
                            rwa [show o + ll * ti.size + r * ti.size + j = o + (ll + r) * ti.size + j by rw [Nat.add_mul]; omega])
                          (fun r j row v hrow hv => by
                            have hr' : r < hh - ll := by have := (List.getElem?_eq_some_iff.1 hrow).1; omega
                            rw [hget r hr'] at hrow
                            exact hr (ll + r) j row v hrow hv)
                        rwa [hlen] at this
              · cases hc
            · cases hc
          · -- one of an object
            rename_i i st o n c _
            split at hc
            · rename_i hst
              subst hst
              split at hc
              · rename_i ll hh hll hhh
                split at hc
                · rename_i hcond
                  obtain ⟨c1, c2⟩ := hcond
                  cases hx with
                  | ms0 _ _ _ _ hb hc0 =>
                    obtain rfl : hh = 0 := by omega
                    obtain rfl : ll = 0 := by omega
                    split at hc
                    · cases hc
                      cases cmx with
                      | some _ => exact h3.elim
                      | none =>
                        have hb' := bounds_ok (P := P) (w := w) (cap := 0) (mm := 0) true h1 h2 (mx := none) (cmx := none) trivial hll hhh rfl (by simp) (by omega) (by omega) (by omega)
                        refine ⟨.slice none 0 0, by simp [Instr.slice, run_underlying hu, hb', hsize], ?_, rfl⟩
                        refine .ms0 _ _ _ _ hb fun k hk => ?_
                        simp only [Option.map_eq_some_iff] at hk
                        obtain ⟨k', hk', rfl⟩ := hk
                        have := hc0 k' hk'
                        omega
                    · rename_i m
                      split at hc
                      · rename_i mm hmm
                        split at hc
                        · rename_i hm
                          cases hc
                          obtain rfl : mm = 0 := by omega
                          cases cmx with
                          | none => exact h3.elim
                          | some cm =>
                            have hb' := bounds_ok (P := P) (w := w) (cap := 0) (mm := 0) true h1 h2 (mx := some m) (cmx := some cm) h3 hll hhh hmm hn (by omega) (by omega) (by omega)
                            refine ⟨.slice none 0 0, by simp [Instr.slice, run_underlying hu, hb', hsize], ?_, rfl⟩
                            exact .ms0 _ _ _ _ hb fun k hk => by cases hk; rfl
                        · cases hc
                      · cases hc
                  | ms _ _ _ _ _ _ b C cc o' hb hcC hlen hcap hnone ho =>
                    have addr : ∀ mm, ll ≤ mm → mm ≤ cc → (mm - ll = 0 ∨ (if mm = ll then o' else o' + ll * ti.size) = (o + ll) * ti.size) := by
                      intro mm hmm hmc
                      by_cases he : mm = ll
                      · left; omega
                      · right
                        rw [if_neg he, Nat.add_mul]
                        rcases ho with h | h <;> omega
                    have mk : ∀ (cm : Option Value) mm, (Instr.sliceBounds true n cc clo chi cm).run P w = .ok (ll, hh, mm) w → ll ≤ mm → mm ≤ cc →
                        (Instr.slice t (.slice (some ⟨b, o', none⟩) n cc) clo chi cm).run P w = .ok (.slice (some ⟨b, if mm = ll then o' else o' + ll * ti.size, none⟩) (hh - ll) (mm - ll)) w := by
                      intro cm mm hb' _ _
                      simp only [Instr.slice, Sem.run_bind, run_underlying hu, Result.andThen_ok, hb', hsize, Sem.run_pure, Option.map_some, Addr.add_mid]
                      split <;> rfl
                    split at hc
                    · cases hc
                      cases cmx with
                      | some _ => exact h3.elim
                      | none =>
                        have hb' := bounds_ok (P := P) (w := w) (cap := cc) (mm := cc) true h1 h2 (mx := none) (cmx := none) trivial hll hhh rfl (by simp) c1 (by omega) (by omega)
                        refine ⟨_, mk none cc hb' (by omega) (by omega), ?_, rfl⟩
                        refine .ms _ _ _ _ _ _ b C (cc - ll) _ hb (by omega) (by omega) (fun k hk => ?_) (fun hk => ?_) (addr cc (by omega) (by omega))
                        · simp only [Option.map_eq_some_iff] at hk
                          obtain ⟨k', hk', rfl⟩ := hk
                          rw [hcap k' hk']
                        · simp only [Option.map_eq_none_iff] at hk
                          have := hnone hk
                          omega
                    · rename_i m
                      split at hc
                      · rename_i mm hmm
                        split at hc
                        · rename_i hm
                          cases hc
                          cases cmx with
                          | none => exact h3.elim
                          | some cm =>
                            have hb' := bounds_ok (P := P) (w := w) (cap := cc) (mm := mm) true h1 h2 (mx := some m) (cmx := some cm) h3 hll hhh hmm hn c1 (by omega) (by omega)
                            refine ⟨_, mk (some cm) mm hb' (by omega) (by omega), ?_, rfl⟩
                            exact .ms _ _ _ _ _ _ b C (mm - ll) _ hb (by omega) (by omega) (fun k hk => by cases hk; rfl) (fun hk => by cases hk) (addr mm (by omega) (by omega))
                        · cases hc
                      · cases hc
                · cases hc
              · cases hc
            · cases hc
          · -- nil
            split at hc
            · rename_i hll hhh
              cases hc
              cases cmx with
              | some _ => exact h3.elim
              | none =>
                cases hx
                have hb' := bounds_ok (P := P) (w := w) (cap := 0) (mm := 0) true h1 h2 (mx := none) (cmx := none) trivial hll hhh rfl (by simp) (by omega) (by omega) (by omega)
                exact ⟨.slice none 0 0, by simp [Instr.slice, run_underlying hu, hb', hsize], .nils _, rfl⟩
            · cases hc
          · cases hc
        · -- beyond its length
          unfold farR at h
          split at h
          · rename_i i st' o n hv _ _
            cases cmx with
            | some _ => exact h3.elim
            | none =>
              split at h
              · rename_i hh ll hhh hll
                simp only [Rd.run] at h
                split at h
                · rename_i ob hob
                  split at h
                  · rename_i st2 rows fz pu
                    split at h
                    · rename_i hcond
                      obtain ⟨rfl, rfl, c1, c2⟩ := hcond
                      simp only [Rd.run, Option.some.injEq, Prod.mk.injEq] at h
                      obtain ⟨⟨rfl, rfl⟩, _⟩ := h
                      obtain ⟨lc, hlc, ho'⟩ := hI.obs _ _ hob
                      cases hx with
                      | ms0 _ _ _ _ hb hc0 =>
                        rw [hb] at hlc
                        cases hlc
                        cases ho' with
                        | nil =>
                          simp only [List.length_nil] at c1
                          obtain rfl : hh = 0 := by omega
                          obtain rfl : ll = 0 := by omega
                          have hb' := bounds_ok (P := P) (w := w) (len := 0) (cap := 0) (mm := 0) true h1 h2 (mx := none) (cmx := none) trivial hll hhh rfl (by simp) (by omega) (by omega) (by omega)
                          exact ⟨.slice none 0 0, by simp [Instr.slice, run_underlying hu, hb', hsize], .ms0 _ _ _ _ hb (by simp), rfl⟩
                      | ms _ _ _ _ _ _ b C cc o' hb hcC hlen hcap hnone ho =>
                        rw [hb] at hlc
                        cases hlc
                        cases ho' with
                        | buf _ _ _ _ _ _ hst hthere hC hrl hcell hpure hr =>
                          have hcc := hnone rfl
                          have hb' := bounds_ok (P := P) (w := w) (len := n) (cap := cc) (mm := cc) true h1 h2 (mx := none) (cmx := none) trivial hll hhh rfl (by simp) c2 (by omega) (by omega)
                          refine ⟨.slice (some ⟨b, if cc = ll then o' else o' + ll * ti.size, none⟩) (hh - ll) (cc - ll), ?_, ?_, rfl⟩
                          · simp only [Instr.slice, Sem.run_bind, run_underlying hu, Result.andThen_ok, hb', hsize, Sem.run_pure, Option.map_some, Addr.add_mid]
                            split <;> rfl
                          · refine .ms _ _ _ _ _ _ b C (cc - ll) _ hb (by omega) (by omega) (fun k hk => by cases hk) (fun _ => by omega) ?_
                            by_cases he : cc = ll
                            · left; omega
                            · right
                              rw [if_neg he, Nat.add_mul]
                              rcases ho with h | h <;> omega
                    · simp [Rd.run] at h
                  · simp [Rd.run] at h
                · simp at h
              · simp [Rd.run] at h
          · simp [Rd.run] at h
      · simp [Rd.run] at h
    · rename_i hk
      have hu := (hT.told ht').str hk
      rw [sliceAt_str hu]
      split at h
      · rename_i s
        obtain ⟨hc, rfl, rfl⟩ := ok_run h
        cases hx
        unfold cutS at hc
        simp only at hc
        split at hc
        · rename_i ll hh hll hhh
          split at hc
          · rename_i hcond
            cases hc
            cases cmx with
            | some _ => exact h3.elim
            | none =>
              have hb' := bounds_ok (P := P) (w := w) (cap := s.size) (mm := s.size) false h1 h2 (mx := none) (cmx := none) trivial hll hhh rfl (by simp) hcond.1 (by omega) (by omega)
              exact ⟨.string (s.extract ll hh), by simp [Instr.slice, run_underlying hu, hb'], .str _ _, rfl⟩
          · cases hc
        · cases hc
      · simp [Rd.run] at h
    · simp [Rd.run] at h
  · simp [Rd.run] at h

theorem over_len {row cs : List V} {o : Nat} (h : o + cs.length ≤ row.length) : (overwrite row o cs).length = row.length := by
  simp [overwrite]; omega

theorem over_get {row cs : List V} {o : Nat} (h : o + cs.length ≤ row.length) (k : Nat) : (overwrite row o cs)[k]? = if o ≤ k ∧ k < o + cs.length then cs[k - o]? else row[k]? := by
  unfold overwrite
  by_cases h1 : k < o
  · rw [if_neg (by omega), List.append_assoc, List.getElem?_append_left (by simp; omega), List.getElem?_take, if_pos h1]
  · by_cases h2 : k < o + cs.length
    · rw [if_pos (by omega), List.getElem?_append_left (by simp; omega), List.getElem?_append_right (by simp; omega)]
      simp [Nat.min_eq_left (show o ≤ row.length by omega)]
    · rw [if_neg (by omega), List.getElem?_append_right (by simp; omega), List.getElem?_drop]
      congr 1
      simp
      omega

theorem over_mem {row cs : List V} {o : Nat} {v : V} (h : v ∈ overwrite row o cs) : v ∈ row ∨ v ∈ cs := by
  unfold overwrite at h
  simp only [List.mem_append] at h
  rcases h with (h | h) | h
  · exact .inl (List.mem_of_mem_take h)
  · exact .inr h
  · exact .inl (List.mem_of_mem_drop h)

/-- One part's cells, laid over others. -/
theorem set_rel {cs : List V} {cvs : Array Value} (h : RelAll F (cl w) β cs cvs) {x : V} {cx : Value} (hx : RelAll F (cl w) β x.cells cx.cells) {o : Nat} (hl : o + x.cells.length ≤ cs.length) :
    RelAll F (cl w) β (overwrite cs o x.cells) (cx.cells.zipIdx.foldl (fun cs (c, j) => cs.setIfInBounds (o + j) c) cvs) := by
  have e : (cx.cells.zipIdx.foldl (fun cs (c, j) => cs.setIfInBounds (o + j) c) cvs) = (cx.cells.toList.zipIdx 0).foldl (fun cs (x : Value × Nat) => cs.setIfInBounds (o + x.2) x.1) cvs := by
    rw [← Array.foldl_toList, Array.toList_zipIdx]
  rw [e]
  obtain ⟨g1, g2⟩ := Great.foldl_set o cx.cells.toList 0 cvs
  refine ⟨by rw [g1, over_len hl, h.size], fun j v hv => ?_⟩
  rw [Array.getD_eq_getD_getElem?, g2 j]
  rw [over_get hl] at hv
  simp only [Nat.add_zero, Array.length_toList, hx.size, h.size]
  by_cases hj : o ≤ j ∧ j < o + x.cells.length
  · rw [if_pos hj] at hv
    rw [if_pos ⟨hj.1, hj.2, by omega⟩]
    have := hx.at_ _ _ hv
    rwa [Array.getD_eq_getD_getElem?, ← Array.getElem?_toList] at this
  · rw [if_neg hj] at hv
    rw [if_neg (by omega)]
    have := h.at_ _ _ hv
    rwa [Array.getD_eq_getD_getElem?] at this

/-- Parts of a literal, beside Go's. -/
def PartsRel (F : Froz) (c : Nat → Nat → Option Value) (β : Place) : List (Nat × V) → List (Nat × Value) → Prop
  | [], [] => True
  | (i, v) :: r, (j, cv) :: s => i = j ∧ Rel F c β v cv ∧ PartsRel F c β r s
  | _, _ => False

theorem fillS_ok {fs : List (Nat × TypeId)} {place : Nat → Option (Nat × Nat)} (hp : ∀ i o t ti, fs[i]? = some (o, t) → T t = some ti → place i = some (o, ti.size)) :
    ∀ (ps : List (Nat × V)) (cps : List (Nat × Value)) (cs cs' : List V) (cvs : Array Value), PartsRel F (cl w) β ps cps → RelAll F (cl w) β cs cvs → cs.all V.isCell = true → fillS T fs cs ps = some cs' →
      ∃ cvs', Instr.fill place cvs cps = some cvs' ∧ RelAll F (cl w) β cs' cvs' ∧ cs'.length = cs.length ∧ cs'.all V.isCell = true
  | [], [], cs, cs', cvs, _, hr, hc, h => by
    simp only [fillS, Option.some.injEq] at h
    subst h
    exact ⟨cvs, rfl, hr, rfl, hc⟩
  | [], _ :: _, _, _, _, hp, _, _, _ => hp.elim
  | _ :: _, [], _, _, _, hp, _, _, _ => by cases hp
  | (i, v) :: ps, (j, cv) :: cps, cs, cs', cvs, hpr, hr, hc, h => by
    obtain ⟨rfl, hv, hrest⟩ := hpr
    simp only [fillS] at h
    split at h
    · rename_i o t hf
      split at h
      · rename_i ti hti
        split at h
        · rename_i hcond
          obtain ⟨c1, c2, c3⟩ := hcond
          have hx := hv.cells c3
          have hset := set_rel hr hx (o := o) (by omega)
          obtain ⟨cvs', h1, h2, h3, h4⟩ := fillS_ok hp ps cps _ cs' _ hrest hset (by
            simp only [List.all_eq_true] at hc c3 ⊢
            intro u hu
            rcases over_mem hu with h | h
            · exact hc u h
            · exact c3 u h) h
          refine ⟨cvs', ?_, h2, by rw [h3, over_len (by omega)], h4⟩
          unfold Instr.fill
          rw [hp i o t ti hf hti]
          simp only
          rw [if_neg]
          · exact h1
          · have := hx.size
            have := hr.size
            simp
            omega
        · cases h
      · cases h
    · cases h

include hT in
theorem places_ok : ∀ (Fs : List Field), ((Fs.map fun f => (f.offset, f.type)).all fun p => (T p.2).isSome) = true →
    ∃ places : List (Nat × Nat), Fs.mapM (fun f => (P.info? f.type).map fun i => (f.offset, i.size)) = some places ∧ ∀ (i o : Nat) (t : TypeId) (ti : TI), (Fs.map fun f => (f.offset, f.type))[i]? = some (o, t) → T t = some ti → places[i]? = some (o, ti.size)
  | [], _ => ⟨[], rfl, by simp⟩
  | f :: Fs, h => by
    simp only [List.map_cons, List.all_cons, Bool.and_eq_true] at h
    obtain ⟨places, h1, h2⟩ := places_ok Fs h.2
    obtain ⟨ti, hti⟩ := Option.isSome_iff_exists.1 h.1
    obtain ⟨i, z, hi, hs, _⟩ := (hT.told hti).info
    refine ⟨(f.offset, ti.size) :: places, by simp [List.mapM_cons, hi, h1, hs], fun j o t ti' hj htj => ?_⟩
    cases j with
    | zero =>
      simp only [List.map_cons, List.getElem?_cons_zero, Option.some.injEq, Prod.mk.injEq] at hj
      obtain ⟨rfl, rfl⟩ := hj
      rw [hti] at htj
      cases htj
      rfl
    | succ j => exact h2 j o t ti' (by simpa using hj) htj

include hT in
theorem build_ok {t : TypeId} {ps : List (Nat × V)} {cps : Array (Nat × Value)} (h : (buildR T t ps).run H l = some ((v, u), l')) (hp : PartsRel F (cl w) β ps cps.toList) :
    ∃ cw, (Instr.build t cps).run P w = .ok cw w ∧ Rel F (cl w) β v cw ∧ u = [] := by
  unfold buildR at h
  split at h
  · rename_i ti ht
    split at h
    · rename_i fs hk
      split at h
      · rename_i hall
        split at h
        · rename_i cs hcs
          simp only [Rd.run, Option.some.injEq, Prod.mk.injEq] at h
          obtain ⟨⟨rfl, rfl⟩, _⟩ := h
          obtain ⟨Fs, hu, rfl, _⟩ := (hT.told ht).struct hk
          obtain ⟨i, z, hi, hs, _, hz, hzok⟩ := (hT.told ht).info
          obtain ⟨places, hpl, hpl2⟩ := places_ok hT Fs.toList hall
          obtain ⟨hzr, hzc, _⟩ := zOK_rel hzok F (cl w) β
          obtain ⟨cvs', h1, h2, h3, h4⟩ := fillS_ok (T := T) (place := (places.toArray[·]?)) (fun i o t ti hf hti => by simpa using hpl2 i o t ti hf hti) ps cps.toList _ cs _ hp (hzr.cells hzc) hzc hcs
          refine ⟨.agg cvs', run_build w t cps cvs' ?_, .agg _ _ _ h2.size h2.at_, rfl⟩
          unfold Program.built
          rw [hi, hu]
          simp only [hz, hpl]
          exact h1
        · simp [Rd.run] at h
      · simp [Rd.run] at h
    · simp [Rd.run] at h
  · simp [Rd.run] at h

/-! Maps. -/
theorem isKey_ok {t : TypeId} {x : V} {cx : Value} (hT : TOK P T) (h : isKey T t x = true) (hx : Rel F (cl w) β x cx) : ∃ d, P.underlying t = some d ∧ MapKept.IsKey d cx := by
  unfold isKey at h
  split at h
  · rename_i ti hti
    split at h
    · rename_i k k' n hk
      cases hx
      have hkk : k = k' := by simpa using h
      subst hkk
      exact ⟨_, (hT.told hti).int hk, by simp [MapKept.IsKey]⟩
    · rename_i s hk
      cases hx
      exact ⟨_, (hT.told hti).str hk, by simp [MapKept.IsKey]⟩
    · cases h
  · cases h

theorem find_ok {d : TypeDesc} {k : V} {ck : Value} (hk : Rel F (cl w) β k ck) (hd : MapKept.IsKey d ck) : ∀ (es : List (V × V)) (ces : List MapEntry) (i : Nat) (r : Option V), es.length = ces.length →
    (∀ (j : Nat) (e : V × V), es[j]? = some e → ∃ ce, ces[j]? = some ce ∧ Rel F (cl w) β e.1 ce.key ∧ Rel F (cl w) β e.2 ce.val) → findKey k es = some r →
      match r with
      | none => Instr.findNow d ck ces i = some none
      | some v => ∃ j cv, Instr.findNow d ck ces i = some (some (i + j, cv)) ∧ Rel F (cl w) β v cv
  | [], [], i, r, _, _, h => by
    simp only [findKey, Option.some.injEq] at h
    subst h
    rfl
  | [], _ :: _, _, _, hl, _, _ => by simp at hl
  | _ :: _, [], _, _, hl, _, _ => by simp at hl
  | (k', v') :: es, ce :: ces, i, r, hl, hr, h => by
    obtain ⟨ce', hce, r1, r2⟩ := hr 0 (k', v') rfl
    simp only [List.getElem?_cons_zero, Option.some.injEq] at hce
    subst hce
    have same : ∀ b, eqCell k k' = some b → Instr.sameNow d ck ce.key = some b := by
      intro b hb
      unfold eqCell at hb
      split at hb
      · cases hk; cases d <;> simp [MapKept.IsKey] at hd; simp at r1; cases hb; generalize ce.key = q at *; cases r1; rfl
      · split at hb
        · rename_i hkk
          subst hkk
          cases hk; cases d <;> simp [MapKept.IsKey] at hd
          cases hb; generalize ce.key = q at *; cases r1; simp [Instr.sameNow]
        · cases hb
      · cases hk; cases d <;> simp [MapKept.IsKey] at hd; cases hb; generalize ce.key = q at *; cases r1; rfl
      · cases hb
    simp only [findKey] at h
    split at h
    · rename_i hb
      cases h
      exact ⟨0, ce.val, by simp [Instr.findNow, same _ hb], r2⟩
    · rename_i hb
      have ih := find_ok hk hd es ces (i + 1) r (by simpa using hl) (fun j e he => hr (j + 1) e he) h
      cases r with
      | none => simp only at ih ⊢; simp [Instr.findNow, same _ hb, ih]
      | some v =>
        obtain ⟨j, cv, h1, h2⟩ := ih
        exact ⟨j + 1, cv, by simp [Instr.findNow, same _ hb, h1]; omega, h2⟩
    · cases h

include hT in
theorem lookup_ok {B : Base} (hI : Inv B β F H w) {t : TypeId} {m k : V} {cok : Bool} {cm ck : Value} (h : (lookupR T t m k cok).run H l = some ((v, u), l')) (hm : Rel F (cl w) β m cm) (hk : Rel F (cl w) β k ck) :
    ∃ cw, (Instr.lookup t cm ck cok).run P w = .ok cw w ∧ Rel F (cl w) β v cw ∧ u = [] := by
  unfold lookupR at h
  split at h
  · rename_i ti' ht
    split at h
    · rename_i kt et hkd
      have hu := (hT.told ht).map hkd
      split at h
      · rename_i ti hti
        obtain ⟨z, hz, hzok⟩ := (hT.told hti).zero (P := P) w
        have hzr := (zOK_rel hzok F (cl w) β).1
        split at h
        · rename_i hkey
          obtain ⟨d, hd, hisk⟩ := isKey_ok hT hkey hk
          have give : ∀ (r : Option V) (cr : Value), (match r with | none => cr = z | some v => Rel F (cl w) β v cr) →
              Rel F (cl w) β (giveR ti cok r) (if cok then .tuple #[cr, .bool r.isSome] else cr) := by
            intro r cr hr
            have two : ∀ (x : V) (b : Bool), Rel F (cl w) β x cr → Rel F (cl w) β (if cok then .tup [x, .bool b] else x) (if cok then .tuple #[cr, .bool b] else cr) := by
              intro x b hx
              cases cok
              · simpa using hx
              · simp only [if_true]
                refine .tup _ _ _ rfl fun j v hj => ?_
                match j, hj with
                | 0, hj => simp at hj; subst hj; exact hx
                | 1, hj => simp at hj; subst hj; exact .bool _ _
                | j + 2, hj => simp at hj
            cases r with
            | none => exact two _ _ (by simp only at hr; rw [hr]; exact hzr)
            | some v => exact two _ _ hr
          split at h
          · simp only [Rd.run, Option.some.injEq, Prod.mk.injEq] at h
            obtain ⟨⟨rfl, rfl⟩, _⟩ := h
            cases hm
            refine ⟨_, ?_, give none z rfl, rfl⟩
            simp [Instr.lookup, run_underlying hu, MapKept.run_checkKey hd hisk, MapKept.run_findKey hd (l := []) (a := none) rfl, hz]
          · rename_i i
            simp only [Rd.run] at h
            split at h
            · rename_i ob hob
              split at h
              · rename_i es p
                split at h
                · rename_i r hr
                  simp only [Rd.run, Option.some.injEq, Prod.mk.injEq] at h
                  obtain ⟨⟨rfl, rfl⟩, _⟩ := h
                  cases hm with
                  | map _ _ b hb =>
                    obtain ⟨lc, hl, ho⟩ := hI.obs _ _ hob
                    rw [hb] at hl
                    cases hl
                    cases ho with
                    | mp _ _ _ ces clock hw hs hpure hre =>
                      have hf := find_ok (d := d) hk hisk es ces.toList 0 r (by simp [hs]) (fun j e he => by
                        have hj := (List.getElem?_eq_some_iff.1 he).1
                        obtain ⟨q1, q2⟩ := hre j e he
                        have hc : ces[j]? = some (ces[j]'(by omega)) := by simp
                        rw [Array.getD_eq_getD_getElem?, hc] at q1 q2
                        exact ⟨_, by simp, q1, q2⟩) hr
                      cases r with
                      | none =>
                        refine ⟨_, ?_, give none z rfl, rfl⟩
                        simp [Instr.lookup, run_underlying hu, MapKept.run_getObj_map hw, MapKept.run_checkKey hd hisk, MapKept.run_findKey hd hf, hz]
                      | some v =>
                        obtain ⟨j, cv, h1, h2⟩ := hf
                        refine ⟨_, ?_, give (some v) cv h2, rfl⟩
                        simp [Instr.lookup, run_underlying hu, MapKept.run_getObj_map hw, MapKept.run_checkKey hd hisk, MapKept.run_findKey hd h1]
                · simp [Rd.run] at h
              · simp [Rd.run] at h
            · simp at h
          · simp [Rd.run] at h
        · simp [Rd.run] at h
      · simp [Rd.run] at h
    · simp [Rd.run] at h
  · simp [Rd.run] at h
end

end Go.Proofs.YtoggbcckkjfkhaaGreat.R
/- Operations that make objects, or turn them. -/
namespace Go.Proofs.YtoggbcckkjfkhaaGreat.R
set_option linter.unusedVariables false
set_option linter.unusedSimpArgs false
open Go Go.RowKit

def Place.set (β : Place) (n : Nat) (l : Loc) : Place := fun i => if i = n then some l else β i

theorem set_ext {β : Place} {n : Nat} {l : Loc} (hn : β n = none) : ∀ i l', β i = some l' → (β.set n l) i = some l' := by
  intro i l' h
  unfold Place.set
  rw [if_neg]
  · exact h
  · rintro rfl
    rw [hn] at h
    cases h

theorem cl_of_block {w w' : World} {b : Nat} (h : w'.heap[b]? = w.heap[b]?) (o : Nat) : cl w' b o = cl w b o := World.cell?_of_block (w := w) (a := ⟨b, o, none⟩) h
theorem frozen_of_block {w w' : World} {b : Nat} (h : w'.heap[b]? = w.heap[b]?) (o : Nat) : w'.frozen? ⟨b, o, none⟩ = w.frozen? ⟨b, o, none⟩ := World.frozen?_of_block (w := w) (a := ⟨b, o, none⟩) h

theorem ObRel.keep {F F' : Froz} {w w' : World} {β β' : Place} {lc : Loc} {ob : Ob} (h : ObRel F w β lc ob) (hx : Ext β β' F F' w w') (hb : ∀ b, lc.block = some b → w'.heap[b]? = w.heap[b]?) : ObRel F' w' β' lc ob := by
  cases h with
  | nil st frz pure => exact .nil _ _ _
  | buf b st C rows frz pure hst ht hC hlen hcell hpure h =>
    have hb' := hb b rfl
    refine .buf b st C rows frz pure hst ⟨fun j hj => ?_, fun c e lo hi h => ht.fr c e lo hi (by rw [← hb']; exact h), ht.sm⟩ hC hlen hcell hpure fun r j row v hr hv => ?_
    · have := ht.t j hj
      have e1 : w'.cell? ⟨b, 0 + j, none⟩ = w.cell? ⟨b, 0 + j, none⟩ := cl_of_block hb' _
      rw [e1, frozen_of_block hb']
      exact this
    · obtain ⟨cv, h1, h2⟩ := h r j row v hr hv
      exact ⟨cv, by rw [cl_of_block hb']; exact h1, hx.rel h2⟩
  | mp b es pure ces clock hw hs hpure h =>
    exact .mp b es pure ces clock (by rw [hb b rfl]; exact hw) hs hpure fun j e he => ⟨hx.rel (h j e he).1, hx.rel (h j e he).2⟩

theorem Inv.drew {B : Base} {β : Place} {F : Froz} {H : Heap} {w : World} (h : Inv B β F H w) : Inv B β F H w.drew :=
  ⟨h.os, h.tape, h.output, h.size, h.keep, h.kin, h.inj, h.fresh, fun i o ho => by
    obtain ⟨l, h1, h2⟩ := h.obs i o ho
    exact ⟨l, h1, h2.keep ⟨fun _ _ h => h, fun _ _ h => ⟨h, rfl⟩⟩ fun _ _ => rfl⟩, h.froz, h.prot⟩

theorem Ext.drew {β β' : Place} {F F' : Froz} {w w' : World} (h : Ext β β' F F' w w') : Ext β β' F F' w w'.drew := ⟨h.place, h.froz⟩

theorem heap_push_lt {w : World} {o : Obj} {k : Nat} (h : k < w.heap.size) : (w.alloc o).heap[k]? = w.heap[k]? := Below.heap_alloc w o k h
theorem heap_push_at {w : World} {o : Obj} : (w.alloc o).heap[w.heap.size]? = some o := by
  show (w.heap.push o)[w.heap.size]? = _
  simp

theorem alloc_ext {β : Place} {F : Froz} {w : World} {o : Obj} {n : Nat} {lc : Loc} (hn : β n = none) (hF : ∀ b o, F b o → b < w.heap.size) : Ext β (β.set n lc) F F w (w.alloc o) :=
  ⟨set_ext hn, fun b o hf => ⟨hf, cl_of_block (heap_push_lt (hF b o hf)) o⟩⟩

/-- A new object. -/
theorem Inv.alloc {B : Base} {β : Place} {F : Froz} {H : Heap} {w : World} (h : Inv B β F H w) {n : Nat} (hn : β n = none) {o : Obj} {lc : Loc} (hlc : lc.block = some w.heap.size) {ob : Ob}
    (hob : ObRel F (w.alloc o) (β.set n lc) lc ob) : Inv B (β.set n lc) F (H.put n (some ob)) (w.alloc o) := by
  have hF : ∀ b o, F b o → b < w.heap.size := fun b o hf => (h.froz b o hf).1
  have hext : Ext β (β.set n lc) F F w (w.alloc o) := alloc_ext hn hF
  have hsz : (w.alloc o).heap.size = w.heap.size + 1 := by show (w.heap.push o).size = _; simp
  refine ⟨h.os, h.tape, h.output, by have := h.size; omega, fun b hb => ?_, h.kin, ?_, ?_, ?_, fun b o hf => ⟨by have := hF b o hf; omega, (h.froz b o hf).2⟩, ?_⟩
  · rw [heap_push_lt (by have := h.kin b hb; have := h.size; omega)]
    exact h.keep b hb
  · intro i j oi oj l l' b hi hj hl hl' hb hb'
    unfold Place.set at hl hl'
    rw [at?_put] at hi hj
    by_cases e1 : i = n <;> by_cases e2 : j = n
    · rw [e1, e2]
    · rw [if_pos e1] at hl; rw [if_neg e2] at hl'
      cases hl
      rw [hlc] at hb; cases hb
      have := (h.fresh j l' _ hl' hb').1
      omega
    · rw [if_neg e1] at hl; rw [if_pos e2] at hl'
      cases hl'
      rw [hlc] at hb'; cases hb'
      have := (h.fresh i l _ hl hb).1
      omega
    · rw [if_neg e1] at hl hi; rw [if_neg e2] at hl' hj
      exact h.inj i j oi oj l l' b hi hj hl hl' hb hb'
  · intro i l b hl hb
    unfold Place.set at hl
    by_cases e : i = n
    · rw [if_pos e] at hl
      cases hl
      rw [hlc] at hb; cases hb
      exact ⟨by omega, fun hk => by have := h.kin _ hk; have := h.size; omega⟩
    · rw [if_neg e] at hl
      have := h.fresh i l b hl hb
      exact ⟨by omega, this.2⟩
  · intro i o' ho
    rw [at?_put] at ho
    by_cases e : i = n
    · rw [if_pos e] at ho
      cases ho
      exact ⟨lc, by unfold Place.set; rw [if_pos e], hob⟩
    · rw [if_neg e] at ho
      obtain ⟨l, h1, h2⟩ := h.obs i o' ho
      exact ⟨l, hext.place _ _ h1, h2.keep hext fun b hb => heap_push_lt (h.fresh i l b h1 hb).1⟩
  · intro i b st C st' rows frz pure hl ho o' hf
    unfold Place.set at hl
    rw [at?_put] at ho
    by_cases e : i = n
    · rw [if_pos e] at hl
      cases hl
      simp only [Loc.block, Option.some.injEq] at hlc
      have := hF _ _ hf
      omega
    · rw [if_neg e] at hl ho
      exact h.prot i b st C st' rows frz pure hl ho o' hf

/-- An object is gone. -/
theorem Inv.gone {B : Base} {β : Place} {F : Froz} {H : Heap} {w : World} (h : Inv B β F H w) (i : Nat) : Inv B β F (H.put i none) w := by
  have sub : ∀ j o, (H.put i none).at? j = some o → H.at? j = some o := by
    intro j o ho
    rw [at?_put] at ho
    split at ho
    · cases ho
    · exact ho
  exact ⟨h.os, h.tape, h.output, h.size, h.keep, h.kin, fun i j oi oj l l' b hi hj => h.inj i j oi oj l l' b (sub _ _ hi) (sub _ _ hj), h.fresh, fun i o ho => h.obs i o (sub _ _ ho), h.froz,
    fun i b st C st' rows frz pure hl ho => h.prot i b st C st' rows frz pure hl (sub _ _ ho)⟩

/-- An object's block turns. -/
theorem Inv.turn {B : Base} {β : Place} {F : Froz} {H : Heap} {w w' : World} (h : Inv B β F H w) {i b : Nat} {oi : Ob} {lc : Loc} (hi : β i = some lc) (hal : H.at? i = some oi) (hb : lc.block = some b)
    (hw : ∀ k, k ≠ b → w'.heap[k]? = w.heap[k]?) (hsz : w'.heap.size = w.heap.size) (hos : w'.os = w.os) (htape : w'.tape = w.tape) (hout : w'.output = w.output)
    (hF : ∀ o, F b o → cl w' b o = cl w b o) {ob : Ob} (hob : Ext β β F F w w' → ObRel F w' β lc ob) (hprot : ∀ st rows frz pure, ob = .buf st rows frz pure → ∀ o, F b o → frz = true ∧ o < rows.length * st) :
    Inv B β F (H.put i (some ob)) w' ∧ Ext β β F F w w' := by
  have hext : Ext β β F F w w' := ⟨fun _ _ h => h, fun b' o hf => by
    by_cases e : b' = b
    · subst e; exact ⟨hf, hF o hf⟩
    · exact ⟨hf, cl_of_block (hw b' e) o⟩⟩
  refine ⟨⟨by rw [hos, h.os], by rw [htape, h.tape], by rw [hout, h.output], by rw [hsz]; exact h.size, fun k hk => ?_, h.kin, ?_, fun j l k hl hk => by rw [hsz]; exact h.fresh j l k hl hk, ?_, fun k o hf => by rw [hsz]; exact h.froz k o hf, ?_⟩, hext⟩
  · rw [hw k (fun e => (h.fresh i lc b hi hb).2 (e ▸ hk))]
    exact h.keep k hk
  · intro j k oj ok l l' c hj hk hl hl' hc hc'
    rw [at?_put] at hj hk
    have alive : ∀ j o, (if j = i then some ob else H.at? j) = some o → ∃ o', H.at? j = some o' := by
      intro j o ho
      split at ho
      · rename_i e; exact ⟨oi, e ▸ hal⟩
      · exact ⟨o, ho⟩
    obtain ⟨oj', hj'⟩ := alive j oj hj
    obtain ⟨ok', hk'⟩ := alive k ok hk
    exact h.inj j k oj' ok' l l' c hj' hk' hl hl' hc hc'
  · intro j o ho
    rw [at?_put] at ho
    by_cases e : j = i
    · rw [if_pos e] at ho
      cases ho
      exact ⟨lc, e ▸ hi, hob hext⟩
    · rw [if_neg e] at ho
      obtain ⟨l, h1, h2⟩ := h.obs j o ho
      refine ⟨l, h1, h2.keep hext fun c hc => hw c ?_⟩
      rintro rfl
      exact e (h.inj j i o oi l lc c ho hal h1 hi hc hb)
  · intro j c st C st' rows frz pure hl ho o hf
    rw [at?_put] at ho
    by_cases e : j = i
    · rw [if_pos e] at ho
      cases ho
      rw [e, hi] at hl
      cases hl
      simp only [Loc.block, Option.some.injEq] at hb
      subst hb
      exact hprot _ _ _ _ rfl o hf
    · rw [if_neg e] at ho
      exact h.prot j c st C st' rows frz pure hl ho o hf

/-! New rows. -/
theorem anyIds_mem : ∀ {l : List V}, V.anyIds l = false ↔ ∀ v ∈ l, v.hasIds = false
  | [] => by simp [V.anyIds]
  | x :: r => by simp [V.anyIds, anyIds_mem (l := r)]

theorem rowIds_mem : ∀ {l : List (List V)}, rowIds l = false ↔ ∀ r ∈ l, ∀ v ∈ r, v.hasIds = false
  | [] => by simp [rowIds]
  | x :: r => by simp [rowIds, rowIds_mem (l := r), anyIds_mem]

theorem cl_new {w : World} {cells : Array Value} {e : TypeId} {j : Nat} (h : j < cells.size) : cl (w.alloc (.cells cells e)) w.heap.size j = some (cells.getD j undef) := by
  have := heap_push_at (w := w) (o := .cells cells e)
  simp only [cl, World.cell?, this]
  simp [h]

theorem there_new {w : World} {cells : Array Value} {e : TypeId} {n : Nat} (h : n ≤ cells.size) : (w.alloc (.cells cells e)).there w.heap.size 0 n := by
  intro j hj
  have := cl_new (w := w) (e := e) (show 0 + j < cells.size by omega)
  refine ⟨by unfold cl at this; rw [this]; rfl, ?_⟩
  have := heap_push_at (w := w) (o := .cells cells e)
  simp only [World.frozen?, this]
  simp

/-- A new row of rows. -/
theorem new_rel {F : Froz} {w : World} {β : Place} {rows : List (List V)} {cells : Array Value} {e : TypeId} {st C : Nat} {pure : Bool} (hst : 0 < st) (hsz : C * st ≤ cells.size) (hC : rows.length ≤ C) (hlen : ∀ row ∈ rows, row.length = st)
    (hcell : ∀ row ∈ rows, ∀ v ∈ row, v.isCell = true) (hpure : pure = true → ∀ row ∈ rows, ∀ v ∈ row, v.hasIds = false)
    (h : ∀ r j row v, rows[r]? = some row → row[j]? = some v → Rel F (cl (w.alloc (.cells cells e))) β v (cells.getD (r * st + j) undef)) (frz : Bool) (hCm : C ≤ 9223372036854775807) :
    ObRel F (w.alloc (.cells cells e)) β (.at w.heap.size st C) (.buf st rows frz pure) := by
  refine .buf _ _ _ _ _ _ hst ⟨there_new hsz, fun c e lo hi h => by rw [heap_push_at] at h; cases h; exact Nat.le_refl _, hCm⟩ hC hlen hcell hpure fun r j row v hr hv => ⟨_, cl_new ?_, h r j row v hr hv⟩
  have h1 := (List.getElem?_eq_some_iff.1 hr).1
  have h2 := (List.getElem?_eq_some_iff.1 hv).1
  have h3 := hlen row (List.mem_of_getElem? hr)
  have : (r + 1) * st ≤ C * st := Nat.mul_le_mul_right _ (by omega)
  rw [Nat.add_mul] at this
  omega

section
variable {P : Program} {T : TT} (hT : TOK P T) {B : Base} {F : Froz} {w : World} {β : Place} {H : Heap} {l l' : List Nat} {v : V} {u : Upd}

/-- What an operation leaves. -/
structure Left (n : Nat) (B : Base) (β : Place) (F : Froz) (H : Heap) (w : World) (v : V) (u : Upd) (cv : Value) (w' : World) (β' : Place) (F' : Froz) : Prop where
  rel : Rel F' (cl w') β' v cv
  inv : Inv B β' F' (H.puts u) w'
  ext : Ext β β' F F' w w'
  only : ∀ i, β' i ≠ β i → n ≤ i ∧ β i = none ∧ ∃ o, (i, o) ∈ u

theorem Left.quiet {n : Nat} {cv : Value} (hI : Inv B β F H w) (h : Rel F (cl w) β v cv) : Left n B β F H w v [] cv w β F := ⟨h, hI, Ext.refl _ _ _, fun i h => absurd rfl h⟩

theorem set_only {n : Nat} {lc : Loc} (hn : β n = none) {ob : Ob} (hu : (n, some ob) ∈ u) : ∀ i, (β.set n lc) i ≠ β i → n ≤ i ∧ β i = none ∧ ∃ o, (i, o) ∈ u := by
  intro i hi
  unfold Place.set at hi
  split at hi
  · rename_i e
    subst e
    exact ⟨Nat.le_refl _, hn, some ob, hu⟩
  · exact absurd rfl hi

include hT in
theorem alloc_ok {n : Nat} {t : TypeId} (hI : Inv B β F H w) (h : (allocR T n t).run H l = some ((v, u), l')) (hn : β n = none) :
    ∃ cv w' β' F', (Instr.alloc t true (.tuple #[])).run P w = .ok cv w' ∧ Left n B β F H w v u cv w' β' F' := by
  unfold allocR at h
  split at h
  · rename_i ti ht
    split at h
    · simp [Rd.run] at h
    · rename_i h0
      simp only [Rd.run, Option.some.injEq, Prod.mk.injEq] at h
      obtain ⟨⟨rfl, rfl⟩, _⟩ := h
      obtain ⟨z, hz, hzok⟩ := (hT.told ht).zero (P := P) w
      have hF : ∀ b o, F b o → b < w.heap.size := fun b o hf => (hI.froz b o hf).1
      have hext : Ext β (β.set n (.at w.heap.size ti.size 1)) F F w (w.alloc (.cells z.cells t)) := alloc_ext hn hF
      obtain ⟨hzr, hzc, hzi⟩ := zOK_rel hzok F (cl (w.alloc (.cells z.cells t))) (β.set n (.at w.heap.size ti.size 1))
      have hcells := hzr.cells hzc
      have hzl := (hT.told ht).zlen
      refine ⟨.pointer (some ⟨w.heap.size, 0 * ti.size + 0, none⟩), w.alloc (.cells z.cells t), β.set n (.at w.heap.size ti.size 1), F, ?_, ⟨?_, ?_, hext, set_only hn (.head _)⟩⟩
      · simp [Instr.alloc, hz, newVar, newRow]
      · exact .ptr _ _ _ _ _ _ 1 (by simp [Place.set])
      · refine hI.alloc hn rfl (new_rel (by omega) (by have := hcells.size; omega) (by simp) (by simpa using hzl) (by simpa using hzc) (fun _ => by simpa using anyIds_mem.1 hzi) (fun r j row v hr hv => ?_) false (by omega))
        have hr0 : r = 0 := by have := (List.getElem?_eq_some_iff.1 hr).1; simp at this; omega
        subst hr0
        simp only [List.getElem?_cons_zero, Option.some.injEq] at hr
        subst hr
        simpa using hcells.at_ j v hv
  · simp [Rd.run] at h

theorem box_ok {n : Nat} {t : TypeId} {x : V} {cx : Value} (hI : Inv B β F H w) (h : (boxR n x).run H l = some ((v, u), l')) (hx : Rel F (cl w) β x cx) (hn : β n = none) :
    ∃ cv w' β' F', (Instr.box t cx).run P w = .ok cv w' ∧ Left n B β F H w v u cv w' β' F' := by
  unfold boxR at h
  split at h
  · rename_i hc
    obtain ⟨hall, h0⟩ := hc
    simp only [Rd.run, Option.some.injEq, Prod.mk.injEq] at h
    obtain ⟨⟨rfl, rfl⟩, _⟩ := h
    have hF : ∀ b o, F b o → b < w.heap.size := fun b o hf => (hI.froz b o hf).1
    have hext : Ext β (β.set n (.at w.heap.size x.cells.length 1)) F F w (w.alloc (.cells cx.cells t)) := alloc_ext hn hF
    have hcells := hext.all (hx.cells hall)
    refine ⟨.pointer (some ⟨w.heap.size, 0 * x.cells.length + 0, none⟩), w.alloc (.cells cx.cells t), β.set n (.at w.heap.size x.cells.length 1), F, ?_, ⟨?_, ?_, hext, set_only hn (.head _)⟩⟩
    · simp [Instr.box, newVar, newRow]
    · exact .ptr _ _ _ _ _ _ 1 (by simp [Place.set])
    · refine hI.alloc hn rfl (new_rel (by omega) (by have := hcells.size; omega) (by simp) (by simp) (by simpa using hall) (fun hp => by simpa using anyIds_mem.1 (by simpa using hp)) (fun r j row v hr hv => ?_) false (by omega))
      have hr0 : r = 0 := by have := (List.getElem?_eq_some_iff.1 hr).1; simp at this; omega
      subst hr0
      simp only [List.getElem?_cons_zero, Option.some.injEq] at hr
      subst hr
      simpa using hcells.at_ j v hv
  · simp [Rd.run] at h

theorem makeMap_ok {n : Nat} {t : TypeId} (hI : Inv B β F H w) (hn : β n = none) :
    ∃ cv w' β' F', (Instr.makeMap t none).run P w = .ok cv w' ∧ Left n B β F H w (.map n) [(n, some (.mp [] true))] cv w' β' F' := by
  have hF : ∀ b o, F b o → b < w.heap.size := fun b o hf => (hI.froz b o hf).1
  refine ⟨.map (some w.heap.size), w.alloc (.map #[] 0), β.set n (.mp w.heap.size), F, rfl, ⟨?_, ?_, alloc_ext hn hF, set_only hn (.head _)⟩⟩
  · exact .map _ _ _ (by simp [Place.set])
  · exact hI.alloc hn rfl (.mp _ _ _ #[] 0 heap_push_at rfl (by simp) (by simp))
end

/-! Cells written. -/
theorem setCells_heap (b : Nat) : ∀ (vs : List Value) (o : Nat) (w : World), (w.setCells b o vs).heap.size = w.heap.size ∧ (∀ k, k ≠ b → (w.setCells b o vs).heap[k]? = w.heap[k]?) ∧ (w.setCells b o vs).os = w.os ∧ (w.setCells b o vs).tape = w.tape ∧ (w.setCells b o vs).output = w.output
  | [], _, _ => ⟨rfl, fun _ _ => rfl, rfl, rfl, rfl⟩
  | v :: r, o, w => by
    obtain ⟨h1, h2, h3, h4, h5⟩ := setCells_heap b r (o + 1) (w.setCell ⟨b, o, none⟩ v)
    refine ⟨by rw [World.setCells, h1]; simp [World.setCell], fun k hk => ?_, by rw [World.setCells, h3]; rfl, by rw [World.setCells, h4]; rfl, by rw [World.setCells, h5]; rfl⟩
    rw [World.setCells, h2 k hk]
    exact Below.heap_setCell w ⟨b, o, none⟩ v k hk

theorem cl_setCells_in {w : World} {b o : Nat} {vs : List Value} (h : w.there b o vs.length) {j : Nat} (hj : j < vs.length) : cl (w.setCells b o vs) b (o + j) = some (vs.getD j undef) := by
  have := World.cell?_setCells_in b vs o w (fun i hi => (h i hi).1) j hj
  unfold cl
  rw [this]
  simp [hj]

theorem cl_setCells_out {w : World} {b o : Nat} {vs : List Value} {k : Nat} (h : k < o ∨ o + vs.length ≤ k) : cl (w.setCells b o vs) b k = cl w b k :=
  World.cell?_setCells_out b vs o w ⟨b, k, none⟩ fun _ _ => h

theorem fr_setCells {w : World} {b : Nat} (h : ∀ c e lo hi, w.heap[b]? = some (.cells c e (lo, hi)) → lo ≤ hi) : ∀ (vs : List Value) (q : Nat) (c : Array Value) (e : TypeId) (lo hi : Nat), (w.setCells b q vs).heap[b]? = some (.cells c e (lo, hi)) → lo ≤ hi := by
  intro vs
  induction vs generalizing w with
  | nil => intro q c e lo hi hh; exact h c e lo hi hh
  | cons v r ih =>
    intro q c e lo hi hh
    rw [World.setCells] at hh
    refine ih (w := w.setCell ⟨b, q, none⟩ v) (fun c' e' lo' hi' h' => ?_) (q + 1) c e lo hi hh
    have h2 : (w.heap.modify b fun
      | .cells c elem frozen => .cells (if (none : Option Nat).isSome then c else c.setIfInBounds q v) elem frozen
      | o => o)[b]? = some (.cells c' e' (lo', hi')) := h'
    rw [Array.getElem?_modify, if_pos rfl, Option.map_eq_some_iff] at h2
    obtain ⟨o, ho, h3⟩ := h2
    cases o <;> simp at h3
    obtain ⟨_, rfl, rfl⟩ := h3
    exact h _ _ _ _ ho

theorem there_sub {w : World} {b n q m : Nat} (h : w.there b 0 n) (hq : q + m ≤ n) : w.there b q m := fun j hj => by
  have := h (q + j) (by omega)
  rwa [Nat.zero_add] at this

theorem ObRel.write {F : Froz} {w : World} {β : Place} {b st C : Nat} {rows rows' : List (List V)} {frz frz' p p' : Bool} (h : ObRel F w β (.at b st C) (.buf st rows frz p)) {vs : List Value} {q : Nat} (hq : q + vs.length ≤ C * st)
    (hx : Ext β β F F w (w.setCells b q vs)) (hC' : rows'.length ≤ C) (hlen' : ∀ row ∈ rows', row.length = st) (hcell' : ∀ row ∈ rows', ∀ v ∈ row, v.isCell = true) (hpure' : p' = true → ∀ row ∈ rows', ∀ v ∈ row, v.hasIds = false)
    (hr : ∀ r j row v, rows'[r]? = some row → row[j]? = some v → if q ≤ r * st + j ∧ r * st + j < q + vs.length then Rel F (cl w) β v (vs.getD (r * st + j - q) undef) else ∃ row0, rows[r]? = some row0 ∧ row0[j]? = some v) :
    ObRel F (w.setCells b q vs) β (.at b st C) (.buf st rows' frz' p') := by
  cases h with
  | buf _ _ _ _ _ _ hst ht hC hlen hcell hpure h =>
    refine .buf _ _ _ _ _ _ hst ⟨World.there_setCells ht.t b q vs, fr_setCells ht.fr vs q, ht.sm⟩ hC' hlen' hcell' hpure' fun r j row v hrow hv => ?_
    have := hr r j row v hrow hv
    split at this
    · rename_i hin
      refine ⟨_, ?_, hx.rel this⟩
      have := cl_setCells_in (there_sub ht.t hq) (j := r * st + j - q) (by omega)
      rwa [show q + (r * st + j - q) = r * st + j by omega] at this
    · rename_i hout
      obtain ⟨row0, h1, h2⟩ := this
      obtain ⟨cv, h3, h4⟩ := h r j row0 v h1 h2
      exact ⟨cv, by rw [cl_setCells_out (by omega)]; exact h3, hx.rel h4⟩

section
variable {P : Program} {T : TT} (hT : TOK P T) {B : Base} {F : Froz} {w : World} {β : Place} {H : Heap} {l l' : List Nat} {v : V} {u : Upd}

include hT in
theorem store_ok {n : Nat} {t : TypeId} {a x : V} {ca cx : Value} (hI : Inv B β F H w) (h : (storeR T t a x).run H l = some ((v, u), l')) (ha : Rel F (cl w) β a ca) (hx : Rel F (cl w) β x cx) :
    ∃ w' β' F', (Instr.storeAt t ca cx).run P w = .ok () w' ∧ Left n B β F H w v u undef w' β' F' := by
  unfold storeR at h
  split at h
  · simp [Rd.run] at h
  · rename_i ti ht
    split at h
    · rename_i i r off
      simp only [Rd.run] at h
      split at h
      · rename_i ob hob
        split at h
        · rename_i st rows p
          split at h
          · rename_i row hrow
            split at h
            · rename_i hc
              obtain ⟨c1, c2, c3⟩ := hc
              simp only [Rd.run, Option.some.injEq, Prod.mk.injEq] at h
              obtain ⟨⟨rfl, rfl⟩, _⟩ := h
              cases ha with
              | ptr _ _ _ _ b st' C hb =>
                obtain ⟨lc, hl, ho⟩ := hI.obs _ _ hob
                rw [hb] at hl
                cases hl
                have ho' := ho
                cases ho with
                | buf _ _ _ _ _ _ hst hthere hC hlen hcell hpure hr =>
                  have hcx := hx.cells c3
                  have hrl := hlen row (List.mem_of_getElem? hrow)
                  have hrlt := (List.getElem?_eq_some_iff.1 hrow).1
                  have hvl : cx.cells.toList.length = ti.size := by simp [hcx.size, c1]
                  have hin : (r * st + off) + cx.cells.toList.length ≤ C * st := by
                    have : (r + 1) * st ≤ C * st := Nat.mul_le_mul_right _ (by omega)
                    rw [Nat.add_mul] at this
                    omega
                  have hrun : (Instr.storeAt t (.pointer (some ⟨b, r * st + off, none⟩)) cx).run P w = .ok () (w.setCells b (r * st + off) cx.cells.toList) := by
                    have hs := run_storeCells_cells (P := P) b (r * st + off) cx.cells.toList 0 w (fun j hj => by simpa using (there_sub hthere.t hin j hj).1) (fun j hj => by simpa using (there_sub hthere.t hin j hj).2) (fun u hu => by
                      obtain ⟨j, hj⟩ := List.mem_iff_getElem?.1 hu
                      have hjl := (List.getElem?_eq_some_iff.1 hj).1
                      have hvj : x.cells[j]? = some (x.cells[j]'(by omega)) := by simp
                      have h1 := hcx.at_ j _ hvj
                      have h2 : cx.cells.getD j undef = u := by
                        rw [Array.getD_eq_getD_getElem?, ← Array.getElem?_toList, hj]; rfl
                      rw [h2] at h1
                      have := h1.one (by simp only [List.all_eq_true] at c3; exact c3 _ (List.getElem_mem _))
                      cases u <;> first | rfl | (simp [oneCell] at this))
                    simp only [Nat.add_zero] at hs
                    have hsz : cx.cells.size = ti.size := by rw [hcx.size, c1]
                    simp [Instr.storeAt, Instr.sureAddr, storeVar, (hT.told ht).sizeOf w, hsz, hs]
                  have hnoF : ∀ o, ¬ F b o := fun o hf => by
                    have := (hI.prot _ _ _ _ _ _ _ _ hb hob o hf).1
                    cases this
                  obtain ⟨s1, s2, s3, s4, s5⟩ := setCells_heap b cx.cells.toList (r * st + off) w
                  obtain ⟨g1, g2⟩ := hI.turn hb hob rfl s2 s1 s3 s4 s5 (fun o hf => absurd hf (hnoF o)) (ob := .buf st (rows.set r (overwrite row off x.cells)) false (p && !V.anyIds x.cells)) (fun hx' => by
                    have hoc : off + x.cells.length ≤ row.length := by omega
                    refine ObRel.write ho' hin hx' (by simpa using hC) (fun row' hm => ?_) (fun row' hm => ?_) (fun hp row' hm => ?_) (fun r' j row' v hr' hv => ?_)
                    · rcases List.mem_or_eq_of_mem_set hm with h | rfl
                      · exact hlen _ h
                      · rw [over_len hoc, hrl]
                    · rcases List.mem_or_eq_of_mem_set hm with h | rfl
                      · exact hcell _ h
                      · intro v hv
                        rcases over_mem hv with h | h
                        · exact hcell row (List.mem_of_getElem? hrow) v h
                        · simp only [List.all_eq_true] at c3; exact c3 v h
                    · simp only [Bool.and_eq_true, Bool.not_eq_true'] at hp
                      rcases List.mem_or_eq_of_mem_set hm with h | rfl
                      · exact hpure hp.1 _ h
                      · intro v hv
                        rcases over_mem hv with h | h
                        · exact hpure hp.1 row (List.mem_of_getElem? hrow) v h
                        · exact anyIds_mem.1 hp.2 v h
                    · rw [List.getElem?_set] at hr'
                      by_cases e : r = r'
                      · subst e
                        rw [if_pos rfl, if_pos hrlt] at hr'
                        cases hr'
                        rw [over_get hoc] at hv
                        by_cases hj : off ≤ j ∧ j < off + x.cells.length
                        · rw [if_pos hj] at hv
                          rw [if_pos (by omega)]
                          have := hcx.at_ _ _ hv
                          rw [show r * st + j - (r * st + off) = j - off by omega]
                          rwa [Array.getD_eq_getD_getElem?, ← Array.getElem?_toList, ← List.getD_eq_getElem?_getD] at this
                        · rw [if_neg hj] at hv
                          rw [if_neg (by omega)]
                          exact ⟨row, hrow, hv⟩
                      · rw [if_neg e] at hr'
                        have hjl := (List.getElem?_eq_some_iff.1 hv).1
                        have hrl' := hlen row' (List.mem_of_getElem? hr')
                        have hne : ¬ (r * st + off ≤ r' * st + j ∧ r' * st + j < r * st + off + cx.cells.toList.length) := by
                          rcases Nat.lt_or_gt_of_ne e with hlt | hgt
                          · have : (r + 1) * st ≤ r' * st := Nat.mul_le_mul_right _ hlt
                            rw [Nat.add_mul] at this
                            omega
                          · have : (r' + 1) * st ≤ r * st := Nat.mul_le_mul_right _ hgt
                            rw [Nat.add_mul] at this
                            omega
                        rw [if_neg hne]
                        exact ⟨row', hr', hv⟩) (fun _ _ _ _ _ o hf => absurd hf (hnoF o))
                  exact ⟨_, β, F, hrun, ⟨.undef _ _, g1, g2, fun i h => absurd rfl h⟩⟩
            · simp [Rd.run] at h
          · simp [Rd.run] at h
        · simp [Rd.run] at h
      · simp at h
    · simp [Rd.run] at h
end

end Go.Proofs.YtoggbcckkjfkhaaGreat.R
/- Slices made and appended to; maps written. -/
namespace Go.Proofs.YtoggbcckkjfkhaaGreat.R
set_option linter.unusedVariables false
set_option linter.unusedSimpArgs false
open Go Go.RowKit

section
variable {P : Program} {T : TT} (hT : TOK P T) {B : Base} {F : Froz} {w : World} {β : Place} {H : Heap} {l l' : List Nat} {v : V} {u : Upd}

/-- Rows, cell by cell. -/
def RowsAt (F : Froz) (c : Nat → Nat → Option Value) (β : Place) (st : Nat) (rows : List (List V)) (f : Nat → Value) : Prop := ∀ r j row v, rows[r]? = some row → row[j]? = some v → Rel F c β v (f (r * st + j))

theorem cell_of {F : Froz} {c : Nat → Nat → Option Value} {β : Place} {x : V} {cx : Value} (h : Rel F c β x cx) (hx : x.isCell = true) : cx.oneCell' = true := by
  have := h.one hx
  cases cx <;> first | rfl | (simp [oneCell] at this)

theorem fillR_ok {st : Nat} (hst : 0 < st) : ∀ (ps : List (Nat × V)) (cps : List (Nat × Value)) (rows rows' : List (List V)) (cells : Array Value), PartsRel F (cl w) β ps cps → RowsAt F (cl w) β st rows (fun k => cells.getD k undef) → cells.size = rows.length * st →
    (∀ row ∈ rows, row.length = st) → (∀ row ∈ rows, ∀ v ∈ row, v.isCell = true) → fillR st rows ps = some rows' →
      ∃ cells', Instr.fill (fun i => some (i * st, st)) cells cps = some cells' ∧ RowsAt F (cl w) β st rows' (fun k => cells'.getD k undef) ∧ cells'.size = cells.size ∧ rows'.length = rows.length ∧ (∀ row ∈ rows', row.length = st) ∧ (∀ row ∈ rows', ∀ v ∈ row, v.isCell = true)
  | [], [], rows, rows', cells, _, hr, hs, hl, hc, h => by
    simp only [fillR, Option.some.injEq] at h
    subst h
    exact ⟨cells, rfl, hr, rfl, rfl, hl, hc⟩
  | [], _ :: _, _, _, _, hp, _, _, _, _, _ => hp.elim
  | _ :: _, [], _, _, _, hp, _, _, _, _, _ => by cases hp
  | (i, x) :: ps, (j, cx) :: cps, rows, rows', cells, hpr, hr, hs, hl, hc, h => by
    obtain ⟨rfl, hx, hrest⟩ := hpr
    simp only [fillR] at h
    split at h
    · rename_i hcond
      obtain ⟨c1, c2, c3⟩ := hcond
      have hcx := hx.cells c3
      have e : (cx.cells.zipIdx.foldl (fun cs (c, j) => cs.setIfInBounds (i * st + j) c) cells) = (cx.cells.toList.zipIdx 0).foldl (fun cs (x : Value × Nat) => cs.setIfInBounds (i * st + x.2) x.1) cells := by
        rw [← Array.foldl_toList, Array.toList_zipIdx]
      obtain ⟨g1, g2⟩ := Great.foldl_set (i * st) cx.cells.toList 0 cells
      have hvl : cx.cells.toList.length = st := by simp [hcx.size, c1]
      have hin : (i + 1) * st ≤ rows.length * st := Nat.mul_le_mul_right _ (by omega)
      rw [Nat.add_mul] at hin
      obtain ⟨cells', h1, h2, h3, h4, h5, h6⟩ := fillR_ok hst ps cps (rows.set i x.cells) rows' ((cx.cells.toList.zipIdx 0).foldl (fun cs (x : Value × Nat) => cs.setIfInBounds (i * st + x.2) x.1) cells) hrest (by
        intro r j row v hrow hv
        show Rel F (cl w) β v (Array.getD _ _ _)
        rw [Array.getD_eq_getD_getElem?, g2, hvl]
        rw [List.getElem?_set] at hrow
        by_cases e : i = r
        · subst e
          rw [if_pos rfl, if_pos c2] at hrow
          cases hrow
          have hj := (List.getElem?_eq_some_iff.1 hv).1
          rw [if_pos (by omega)]
          have := hcx.at_ j v hv
          rw [show i * st + j - (i * st + 0) = j by omega]
          rwa [Array.getD_eq_getD_getElem?, ← Array.getElem?_toList] at this
        · rw [if_neg e] at hrow
          have hj := (List.getElem?_eq_some_iff.1 hv).1
          have hrl := hl row (List.mem_of_getElem? hrow)
          have hne : ¬ (i * st + 0 ≤ r * st + j ∧ r * st + j < i * st + 0 + st ∧ r * st + j < cells.size) := by
            rcases Nat.lt_or_gt_of_ne e with hlt | hgt
            · have : (i + 1) * st ≤ r * st := Nat.mul_le_mul_right _ hlt
              rw [Nat.add_mul] at this
              omega
            · have : (r + 1) * st ≤ i * st := Nat.mul_le_mul_right _ hgt
              rw [Nat.add_mul] at this
              omega
          rw [if_neg hne]
          have : Rel F (cl w) β v (cells.getD (r * st + j) undef) := hr r j row v hrow hv
          rwa [Array.getD_eq_getD_getElem?] at this) (by rw [g1, hs]; simp)
        (fun row hm => by
          rcases List.mem_or_eq_of_mem_set hm with h | rfl
          · exact hl _ h
          · exact c1)
        (fun row hm => by
          rcases List.mem_or_eq_of_mem_set hm with h | rfl
          · exact hc _ h
          · simpa using c3) h
      refine ⟨cells', ?_, h2, by rw [h3, g1], by rw [h4]; simp, h5, h6⟩
      unfold Instr.fill
      simp only
      rw [if_neg]
      · rw [e]; exact h1
      · have := hcx.size
        simp
        omega
    · cases h

include hT in
theorem buildSlice_ok {n : Nat} {t : TypeId} {len : Nat} {ps : List (Nat × V)} {cps : Array (Nat × Value)} (hI : Inv B β F H w) (h : (buildSliceR T n t len ps).run H l = some ((v, u), l')) (hp : PartsRel F (cl w) β ps cps.toList) (hn : β n = none) :
    ∃ cv w' β' F', (Instr.buildSlice t len cps).run P w = .ok cv w' ∧ Left n B β F H w v u cv w' β' F' := by
  unfold buildSliceR at h
  split at h
  · rename_i ti' ht'
    split at h
    · rename_i el hk
      have hu := (hT.told ht').slice hk
      split at h
      · rename_i ti ht
        split at h
        · simp [Rd.run] at h
        · rename_i hcond
          split at h
          · rename_i rows hrows
            simp only [Rd.run, Option.some.injEq, Prod.mk.injEq] at h
            obtain ⟨⟨rfl, rfl⟩, _⟩ := h
            have h0 : 0 < ti.size := by omega
            have hsmall : ¬ len * ti.size > 2 ^ 24 := by omega
            obtain ⟨i, z, hi, hs, _, hz, hzok⟩ := (hT.told ht).info
            obtain ⟨hzr, hzc, hzi⟩ := zOK_rel hzok F (cl w) β
            have hzcells := hzr.cells hzc
            have hzl := (hT.told ht).zlen
            have hzsz : z.cells.size = ti.size := by rw [hzcells.size, hzl]
            obtain ⟨cells', f1, f2, f3, f4, f5, f6⟩ := fillR_ok (F := F) (w := w) (β := β) h0 ps cps.toList (List.replicate len ti.zero.cells) rows ((Array.range (len * ti.size)).map (z.cells[· % z.cells.size]!)) hp (fun r j row v hrow hv => by
                have hm := List.mem_of_getElem? hrow
                have hlt := (List.getElem?_eq_some_iff.1 hrow).1
                simp only [List.length_replicate] at hlt
                have := List.eq_of_mem_replicate hm
                subst this
                have hj := (List.getElem?_eq_some_iff.1 hv).1
                have hb : (r + 1) * ti.size ≤ len * ti.size := Nat.mul_le_mul_right _ (by omega)
                rw [Nat.add_mul] at hb
                have hmod : (r * ti.size + j) % ti.size = j := by rw [Nat.add_comm, Nat.add_mul_mod_self_right]; exact Nat.mod_eq_of_lt (by omega)
                have := hzcells.at_ j v hv
                show Rel F (cl w) β v (Array.getD _ _ _)
                rw [Array.getD_eq_getD_getElem?, Array.getElem?_map]
                rw [Array.getElem?_eq_getElem (by simp; omega)]
                simp only [Array.getElem_range, Option.map_some, Option.getD_some, hzsz, hmod]
                rw [Array.getElem!_eq_getD, Array.getD_eq_getD_getElem?, Array.getElem?_eq_getElem (by omega)]
                rw [Array.getD_eq_getD_getElem?, Array.getElem?_eq_getElem (by omega)] at this
                exact this) (by simp) (fun row hm => by rw [List.eq_of_mem_replicate hm, hzl]) (fun row hm => by rw [List.eq_of_mem_replicate hm]; simpa using hzc) hrows
            have hF : ∀ b o, F b o → b < w.heap.size := fun b o hf => (hI.froz b o hf).1
            have hext : Ext β (β.set n (.at w.heap.size ti.size len)) F F w (w.alloc (.cells cells' el)) := alloc_ext hn hF
            have hlen : rows.length = len := by rw [f4]; simp
            have hcsz : cells'.size = len * ti.size := by rw [f3]; simp
            refine ⟨.slice (some ⟨w.heap.size, 0, none⟩) len len, w.alloc (.cells cells' el), β.set n (.at w.heap.size ti.size len), F, ?_, ⟨?_, ?_, hext, set_only hn (.head _)⟩⟩
            · by_cases hz0 : len = 0
              · subst hz0
                have hc0 : cells' = #[] := by
                  apply Array.eq_empty_of_size_eq_zero
                  rw [hcsz]; simp
                subst hc0
                have hr0 : Array.range 0 = #[] := rfl
                have f1' : Instr.fill (fun i => some (i * ti.size, ti.size)) #[] cps.toList = some #[] := by simpa [hr0] using f1
                simp [hr0, Instr.buildSlice, run_underlying hu, (hT.told ht).sizeOf w, f1', newRow]
              · exact run_buildSlice w t el len cps cells' i z hu hi hz (by rw [hs]; exact hsmall) (by rw [hs]; have := Nat.mul_pos (Nat.pos_of_ne_zero hz0) h0; omega) (by rw [hs]; exact f1)
            · exact .ms _ _ _ _ _ _ _ len len 0 (by simp [Place.set]) (by omega) (Nat.le_refl _) (by simp) (by simp) (by simp)
            · exact hI.alloc hn rfl (new_rel h0 (by omega) (by omega) f5 f6 (fun hp => rowIds_mem.1 (by simpa using hp)) (fun r j row v hr hv => hext.rel (f2 r j row v hr hv)) false (by have h7 := Nat.le_mul_of_pos_right len h0; omega))
          · simp [Rd.run] at h
      · simp [Rd.run] at h
    · simp [Rd.run] at h
  · simp [Rd.run] at h

/-! Maps. -/
theorem setKey_ok {d : TypeDesc} {k x : V} {ck : Value} (hk : Rel F (cl w) β k ck) (hd : MapKept.IsKey d ck) : ∀ (es es' : List (V × V)) (ces : List MapEntry) (i : Nat), es.length = ces.length →
    (∀ (j : Nat) (e : V × V), es[j]? = some e → ∃ ce, ces[j]? = some ce ∧ Rel F (cl w) β e.1 ce.key ∧ Rel F (cl w) β e.2 ce.val) → setKey k x es = some es' →
      (∃ j ce, Instr.findNow d ck ces i = some (some (i + j, ce.val)) ∧ ces[j]? = some ce ∧ ce.key = ck ∧ es' = es.set j (k, x) ∧ j < es.length) ∨ (Instr.findNow d ck ces i = some none ∧ es' = es ++ [(k, x)])
  | [], es', [], i, _, _, h => by
    simp only [setKey, Option.some.injEq] at h
    exact .inr ⟨rfl, h.symm⟩
  | [], _, _ :: _, _, hl, _, _ => by simp at hl
  | _ :: _, _, [], _, hl, _, _ => by simp at hl
  | (k', v') :: es, es', ce :: ces, i, hl, hr, h => by
    obtain ⟨ce', hce, r1, r2⟩ := hr 0 (k', v') rfl
    simp only [List.getElem?_cons_zero, Option.some.injEq] at hce
    subst hce
    have same : ∀ b, eqCell k k' = some b → Instr.sameNow d ck ce.key = some b ∧ (b = true → ce.key = ck) := by
      intro b hb
      unfold eqCell at hb
      split at hb
      · cases hk; cases d <;> simp [MapKept.IsKey] at hd; simp at r1; cases hb; generalize ce.key = q at *; cases r1; exact ⟨rfl, fun e => by simp at e; rw [e]⟩
      · split at hb
        · rename_i hkk
          subst hkk
          cases hk; cases d <;> simp [MapKept.IsKey] at hd
          cases hb; generalize ce.key = q at *; cases r1; exact ⟨by simp [Instr.sameNow], fun e => by simp at e; rw [e]⟩
        · cases hb
      · cases hk; cases d <;> simp [MapKept.IsKey] at hd; cases hb; generalize ce.key = q at *; cases r1; exact ⟨rfl, fun e => by rw [(MapKept.bytes_beq _ _).1 e]⟩
      · cases hb
    simp only [setKey] at h
    split at h
    · rename_i hb
      cases h
      exact .inl ⟨0, ce, by simp [Instr.findNow, (same _ hb).1], rfl, (same _ hb).2 rfl, rfl, by simp⟩
    · rename_i hb
      simp only [Option.map_eq_some_iff] at h
      obtain ⟨es'', h1, rfl⟩ := h
      rcases setKey_ok hk hd es es'' ces (i + 1) (by simpa using hl) (fun j e he => hr (j + 1) e he) h1 with ⟨j, c, g1, g2, g3, g4, g5⟩ | ⟨g1, g2⟩
      · exact .inl ⟨j + 1, c, by simp [Instr.findNow, (same _ hb).1, g1]; omega, by simpa using g2, g3, by rw [g4]; rfl, by simp; omega⟩
      · exact .inr ⟨by simp [Instr.findNow, (same _ hb).1, g1], by rw [g2]; rfl⟩
    · cases h

theorem fits_rel {ti : TI} {x : V} (h : fits ti x = true) : (x.isCell = true ∨ ∃ cs, x = .agg cs ∧ cs.all V.isCell = true) := by
  unfold fits at h
  split at h
  · simp only [Bool.and_eq_true] at h
    exact .inr ⟨_, rfl, h.2⟩
  · simp only [Bool.and_eq_true] at h
    exact .inl h.2

include hT in
theorem mapUpdate_ok {n : Nat} {t : TypeId} {m k x : V} {cm ck cx : Value} (hI : Inv B β F H w) (h : (mapUpdateR T t m k x).run H l = some ((v, u), l')) (hm : Rel F (cl w) β m cm) (hk : Rel F (cl w) β k ck) (hx : Rel F (cl w) β x cx) :
    ∃ w' β' F', (Instr.mapUpdate t cm ck cx).run P w = .ok () w' ∧ Left n B β F H w v u undef w' β' F' := by
  unfold mapUpdateR at h
  split at h
  · rename_i ti' ht'
    split at h
    · rename_i kt et hkd
      have hu := (hT.told ht').map hkd
      split at h
      · rename_i ti hti
        split at h
        · rename_i hcond
          obtain ⟨hkey, hfit⟩ := hcond
          obtain ⟨d, hd, hisk⟩ := isKey_ok hT hkey hk
          split at h
          · rename_i i
            simp only [Rd.run] at h
            split at h
            · rename_i ob hob
              split at h
              · rename_i es p
                split at h
                · rename_i es' hes
                  simp only [Rd.run, Option.some.injEq, Prod.mk.injEq] at h
                  obtain ⟨⟨rfl, rfl⟩, _⟩ := h
                  cases hm with
                  | map _ _ b hb =>
                    obtain ⟨lc, hl, ho⟩ := hI.obs _ _ hob
                    rw [hb] at hl
                    cases hl
                    cases ho with
                    | mp _ _ _ ces clock hw hs hpure hre =>
                      have hre' : ∀ (j : Nat) (e : V × V), es[j]? = some e → ∃ ce, ces.toList[j]? = some ce ∧ Rel F (cl w) β e.1 ce.key ∧ Rel F (cl w) β e.2 ce.val := fun j e he => by
                        have hj := (List.getElem?_eq_some_iff.1 he).1
                        obtain ⟨q1, q2⟩ := hre j e he
                        have hc : ces[j]? = some (ces[j]'(by omega)) := by simp
                        rw [Array.getD_eq_getD_getElem?, hc] at q1 q2
                        exact ⟨_, by simp, q1, q2⟩
                      have hblt : b < w.heap.size := (Array.getElem?_eq_some_iff.1 hw).1
                      have turn : ∀ ces' clock', ces'.size = es'.length → (∀ j e, es'[j]? = some e → Rel F (cl w) β e.1 (ces'.getD j default).key ∧ Rel F (cl w) β e.2 (ces'.getD j default).val) → (∀ e ∈ es', e ∈ es ∨ e = (k, x)) →
                          Inv B β F (H.put i (some (.mp es' (p && !x.hasIds)))) { w with heap := w.heap.setIfInBounds b (.map ces' clock') } ∧ Ext β β F F w { w with heap := w.heap.setIfInBounds b (.map ces' clock') } := by
                        intro ces' clock' q1 q2 q3
                        have hset := MapKept.heap_set (w := w) (r := b) (o' := .map ces' clock') hw
                        have hnoF : ∀ o, F b o → cl { w with heap := w.heap.setIfInBounds b (.map ces' clock') } b o = cl w b o := fun o _ => by
                          unfold cl World.cell?
                          simp only [hset.1, hw]
                        refine hI.turn (w' := { w with heap := w.heap.setIfInBounds b (.map ces' clock') }) hb hob rfl hset.2 (by simp) rfl rfl rfl hnoF (fun hx' => ?_) (fun _ _ _ _ e => by cases e)
                        refine .mp b es' _ ces' clock' hset.1 q1 (fun hp e he => ?_) fun j e he => ⟨hx'.rel (q2 j e he).1, hx'.rel (q2 j e he).2⟩
                        simp only [Bool.and_eq_true, Bool.not_eq_true'] at hp
                        rcases q3 e he with h | rfl
                        · exact hpure hp.1 e h
                        · refine ⟨?_, hp.2⟩
                          unfold isKey at hkey
                          split at hkey
                          · split at hkey <;> first | rfl | cases hkey
                          · cases hkey
                      rcases setKey_ok (d := d) (x := x) hk hisk es es' ces.toList 0 (by simp [hs]) hre' hes with ⟨j, ce, g1, g2, g3, g4, g5⟩ | ⟨g1, g2⟩
                      · have hcj : ces[j]? = some ce := by simpa using g2
                        have hjlt : j < ces.size := by omega
                        obtain ⟨t1, t2⟩ := turn (ces.modify j fun e => { e with key := ck, val := cx }) clock (by rw [g4]; simp [hs]) (fun r e he => by
                            rw [g4, List.getElem?_set] at he
                            rw [Array.getD_eq_getD_getElem?, Array.getElem?_modify]
                            by_cases e1 : j = r
                            · subst e1
                              rw [if_pos rfl, if_pos g5] at he
                              cases he
                              rw [if_pos rfl, hcj]
                              exact ⟨hk, hx⟩
                            · rw [if_neg e1] at he
                              rw [if_neg e1]
                              have := hre r e he
                              rwa [Array.getD_eq_getD_getElem?] at this) (fun e he => by
                            rw [g4] at he
                            exact List.mem_or_eq_of_mem_set he)
                        refine ⟨_, β, F, ?_, ⟨.undef _ _, t1, t2, fun i h => absurd rfl h⟩⟩
                        have hks : ((ces[j]?).map (·.key)).getD ck = ck := by simp [hcj, g3]
                        simp [Instr.mapUpdate, run_underlying hu, MapKept.run_getObj_map hw, MapKept.run_checkKey hd hisk, MapKept.run_findKey hd g1, hks, MapKept.run_keyThatStays hisk, MapKept.run_setObj_map _ hw]
                      · obtain ⟨t1, t2⟩ := turn (ces.push { key := ck, val := cx, born := clock }) (clock + 1) (by rw [g2]; simp [hs]) (fun r e he => by
                            rw [g2] at he
                            rw [Array.getD_eq_getD_getElem?, Array.getElem?_push]
                            by_cases e1 : r = ces.size
                            · subst e1
                              rw [if_pos rfl]
                              rw [List.getElem?_append_right (by omega)] at he
                              simp [hs] at he
                              subst he
                              exact ⟨hk, hx⟩
                            · rw [if_neg e1]
                              have hr : r < es.length := by
                                have := (List.getElem?_eq_some_iff.1 he).1
                                simp at this
                                omega
                              rw [List.getElem?_append_left hr] at he
                              have := hre r e he
                              rwa [Array.getD_eq_getD_getElem?] at this) (fun e he => by
                            rw [g2] at he
                            simp only [List.mem_append, List.mem_singleton] at he
                            exact he)
                        refine ⟨_, β, F, ?_, ⟨.undef _ _, t1, t2, fun i h => absurd rfl h⟩⟩
                        simp [Instr.mapUpdate, run_underlying hu, MapKept.run_getObj_map hw, MapKept.run_checkKey hd hisk, MapKept.run_findKey hd g1, MapKept.run_setObj_map _ hw]
                · simp [Rd.run] at h
              · simp [Rd.run] at h
            · simp at h
          · simp [Rd.run] at h
        · simp [Rd.run] at h
      · simp [Rd.run] at h
    · simp [Rd.run] at h
  · simp [Rd.run] at h
end

end Go.Proofs.YtoggbcckkjfkhaaGreat.R
