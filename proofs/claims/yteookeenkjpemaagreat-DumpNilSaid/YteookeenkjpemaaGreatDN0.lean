/- Parts of the proof of YteookeenkjpemaaGreatRDumpNilAll, one behind the other: RA, RB, RC, RD, RE, RF, RG, RH, RHa. -/
import Derived.Calls
import Derived.Orders
import Derived.Below
import Derived.Deep.MidRow
import Derived.Deep.AppendSrc
import Derived.MapKept
import Derived.ChangeKeysEq
import Derived.Laws.StructEq
import Derived.Great.FillDense
import Derived.Laws.Tables
import Derived.Great.BuildSlice
/- A machine over values: what a Go function's code comes to, as a Lean function on data and a small heap of the call's own. -/
namespace Go.Proofs.YteookeenkjpemaaGreat.R
open Go

/-- A value: numbers, texts; a slice that no longer turns ('fz': its rows of cells), or a slice of an object of the heap ('ms'); a pointer into an object, or at a row that no longer turns ('el'); maps and closures over objects. -/
inductive V where
  | undef
  | bool (b : Bool)
  | int (k : IntKind) (n : Int)
  | str (s : ByteArray)
  | nils
  | fz (rows : List (List V))
  | ms (id st off len : Nat) (cap : Option Nat)
  | nilp
  | ptr (id row off : Nat)
  | el (row : List V) (off : Nat)
  | nilm
  | map (id : Nat)
  | nilf
  | clo (f : FuncId) (caps : List V)
  | nili
  | ifc (t : TypeId) (v : V)
  | agg (cs : List V)
  | tup (vs : List V)
  deriving Inhabited

/-- An object: rows of cells ('frz': its rows are seen by frozen slices, and are never written again; 'pure': no cell leads to an object); a map. -/
inductive Ob where
  | buf (st : Nat) (rows : List (List V)) (frz pure : Bool)
  | mp (es : List (V × V)) (pure : Bool)

abbrev Heap := List (Option Ob)
abbrev Env := List (Nat × V)

def lk : Env → Nat → V
  | [], _ => .undef
  | (t, v) :: e, u => bif Nat.beq t u then v else lk e u

def Heap.at? : Heap → Nat → Option Ob
  | [], _ => none
  | o :: _, 0 => o
  | _ :: h, n + 1 => Heap.at? h n

/-- Object 'id' becomes 'o'. -/
def Heap.put : Heap → Nat → Option Ob → Heap
  | [], 0, o => [o]
  | [], n + 1, o => none :: Heap.put [] n o
  | _ :: h, 0, o => o :: h
  | x :: h, n + 1, o => x :: Heap.put h n o

def Heap.puts (h : Heap) : List (Nat × Option Ob) → Heap
  | [] => h
  | (i, o) :: r => Heap.puts (h.put i o) r

/-- Reading objects. -/
inductive Rd (α : Type) where
  | pure (a : α)
  | fail
  | get (id : Nat) (k : Ob → Rd α)

def Rd.run {α : Type} : Rd α → Heap → List Nat → Option (α × List Nat)
  | .pure a, _, l => some (a, l)
  | .fail, _, _ => none
  | .get i k, h, l => match h.at? i with
    | some o => (k o).run h (i :: l)
    | none => none

/-! What types are told. -/
inductive TK where
  | bool | int (k : IntKind) | str | ptr | slice (e : TypeId) | map (k e : TypeId) | struct (fs : List (Nat × TypeId)) | arr (n : Nat) (e : TypeId) | func | iface | uptr | other
  deriving Inhabited

structure TI where
  kd : TK
  size : Nat
  bytes : Nat
  zero : V

def TI.agg (t : TI) : Bool := match t.kd with | .struct _ => true | .arr .. => true | _ => false

abbrev TT := TypeId → Option TI

def V.cells : V → List V
  | .agg cs => cs
  | v => [v]

/-- May it stand in a cell? -/
def V.isCell : V → Bool
  | .undef | .agg _ | .tup _ => false
  | _ => true

mutual
def V.hasIds : V → Bool
  | .ms .. | .ptr .. | .map _ => true
  | .clo _ cs => V.anyIds cs
  | .agg cs => V.anyIds cs
  | .tup vs => V.anyIds vs
  | .ifc _ v => V.hasIds v
  | _ => false
def V.anyIds : List V → Bool
  | [] => false
  | v :: r => V.hasIds v || V.anyIds r
end

mutual
def V.ids : V → List Nat
  | .ms i .. | .ptr i .. | .map i => [i]
  | .clo _ cs => V.allIds cs
  | .agg cs => V.allIds cs
  | .tup vs => V.allIds vs
  | .ifc _ v => V.ids v
  | _ => []
def V.allIds : List V → List Nat
  | [] => []
  | v :: r => V.ids v ++ V.allIds r
end

mutual
/-- With objects' numbers turned. -/
def V.re (f : Nat → Option Nat) : V → Option V
  | .ms i st o l c => (f i).map fun j => .ms j st o l c
  | .ptr i r o => (f i).map fun j => .ptr j r o
  | .map i => (f i).map .map
  | .clo g cs => (V.reAll f cs).map (.clo g)
  | .agg cs => (V.reAll f cs).map .agg
  | .tup vs => (V.reAll f vs).map .tup
  | .ifc t v => (V.re f v).map (.ifc t)
  | v => some v
def V.reAll (f : Nat → Option Nat) : List V → Option (List V)
  | [] => some []
  | v :: r => (V.re f v).bind fun v => (V.reAll f r).map (v :: ·)
end

def reRows (f : Nat → Option Nat) : List (List V) → Option (List (List V))
  | [] => some []
  | r :: rs => (V.reAll f r).bind fun r => (reRows f rs).map (r :: ·)

def rePairs (f : Nat → Option Nat) : List (V × V) → Option (List (V × V))
  | [] => some []
  | (k, v) :: r => (V.re f k).bind fun k => (V.re f v).bind fun v => (rePairs f r).map ((k, v) :: ·)

def Ob.re (f : Nat → Option Nat) : Ob → Option Ob
  | .buf st rows frz true => some (.buf st rows frz true)
  | .buf st rows frz false => (reRows f rows).map fun rows => .buf st rows frz false
  | .mp es true => some (.mp es true)
  | .mp es false => (rePairs f es).map fun es => .mp es false

def rowsIds : List (List V) → List Nat
  | [] => []
  | r :: rs => V.allIds r ++ rowsIds rs

def pairsIds : List (V × V) → List Nat
  | [] => []
  | (k, v) :: r => V.ids k ++ V.ids v ++ pairsIds r

def Ob.ids : Ob → List Nat
  | .buf _ _ _ true => []
  | .buf _ rows _ false => rowsIds rows
  | .mp _ true => []
  | .mp es false => pairsIds es

def idx (l : List Nat) (i : Nat) : Option Nat := match l with
  | [] => none
  | x :: r => bif Nat.beq x i then some 0 else (idx r i).map (· + 1)

def nth : List Nat → Nat → Option Nat
  | [], _ => none
  | x :: _, 0 => some x
  | _ :: r, n + 1 => nth r n

/-- What objects are reached; those below 'keep' stay, even where there is nothing any more. -/
def reach (keep : Nat) (h : Heap) : Nat → List Nat → List Nat → List Nat
  | 0, _, acc => acc
  | _ + 1, [], acc => acc
  | n + 1, i :: todo, acc =>
    if acc.contains i then reach keep h n todo acc
    else match h.at? i with
      | some o => reach keep h n (todo ++ o.ids) (acc ++ [i])
      | none => if i < keep then reach keep h n todo (acc ++ [i]) else reach keep h n todo acc

/-- The objects of 'l', numbered anew. -/
def pull (h : Heap) (f : Nat → Option Nat) : List Nat → Option Heap
  | [] => some []
  | i :: r => match h.at? i with
    | some o => (o.re f).bind fun o => (pull h f r).map (some o :: ·)
    | none => (pull h f r).map (none :: ·)

/-! Operands. -/
def ofCell : Value → V
  | .bool b => .bool b
  | .int k n => .int k n
  | .string s => .str s
  | .pointer none => .nilp
  | .slice none 0 0 => .nils
  | .map none => .nilm
  | .nilFunc => .nilf
  | .nilIface => .nili
  | _ => .undef

def ofConst : Value → V
  | .agg cs => .agg (cs.toList.map ofCell)
  | v => ofCell v

def ev (e : Env) : Operand → V
  | .tmp t => lk e t
  | .const v => ofConst v
  | .global _ => .undef
  | .func f => .clo f []

def evs (e : Env) : List Operand → List V
  | [] => []
  | x :: r => ev e x :: evs e r

/-! Cells. -/
def partOf (ti : TI) (cs : List V) (o : Nat) : Option V :=
  if ti.agg then (if o + ti.size ≤ cs.length then some (.agg ((cs.drop o).take ti.size)) else none) else cs[o]?

def overwrite (row : List V) (o : Nat) (cs : List V) : List V := row.take o ++ cs ++ row.drop (o + cs.length)

/-- Parts of a struct's literal. -/
def fillS (T : TT) (fs : List (Nat × TypeId)) (cells : List V) : List (Nat × V) → Option (List V)
  | [] => some cells
  | (i, v) :: r => match fs[i]? with
    | some (o, t) => match T t with
      | some ti => if v.cells.length = ti.size ∧ o + ti.size ≤ cells.length ∧ v.cells.all V.isCell then fillS T fs (overwrite cells o v.cells) r else none
      | none => none
    | none => none

def fillR (size : Nat) (rows : List (List V)) : List (Nat × V) → Option (List (List V))
  | [] => some rows
  | (i, v) :: r => if v.cells.length = size ∧ i < rows.length ∧ v.cells.all V.isCell then fillR size (rows.set i v.cells) r else none

def rowIds (rows : List (List V)) : Bool := match rows with
  | [] => false
  | r :: rs => V.anyIds r || rowIds rs

/-! Reckoning. -/
def eqCell : V → V → Option Bool
  | .bool a, .bool b => some (a == b)
  | .int k a, .int k' b => if k = k' then some (a == b) else none
  | .str a, .str b => some (a == b)
  | _, _ => none

def eqKind : TK → V → V → Option Bool
  | .bool, .bool a, .bool b => some (a == b)
  | .int _, .int k a, .int k' b => if k = k' then some (a == b) else none
  | .str, .str a, .str b => some (a == b)
  | _, _, _ => none

/-- Two structs' fields. -/
def eqAgg (T : TT) : Nat → List (Nat × TypeId) → List V → List V → Option Bool
  | 0, _, _, _ => none
  | _ + 1, [], _, _ => some true
  | d + 1, (o, t) :: fs, xs, ys => match T t with
    | none => none
    | some ti => match (match ti.kd with
        | .struct gs => if o + ti.size ≤ xs.length ∧ o + ti.size ≤ ys.length then eqAgg T d gs ((xs.drop o).take ti.size) ((ys.drop o).take ti.size) else none
        | kd => match xs[o]?, ys[o]? with
          | some x, some y => eqKind kd x y
          | _, _ => none) with
      | some true => eqAgg T d fs xs ys
      | r => r

/-- Two arrays' elements. -/
def eqArr (kd : TK) (xs ys : List V) : List Nat → Option Bool
  | [] => some true
  | i :: is => match xs[i]?, ys[i]? with
    | some x, some y => match eqKind kd x y with
      | some true => eqArr kd xs ys is
      | r => r
    | _, _ => none

def eqV (T : TT) (t : TypeId) (x y : V) : Option Bool := match T t with
  | none => none
  | some ti => match ti.kd, x, y with
    | .ptr, .nilp, .nilp => some true
    | .ptr, .nilp, .ptr .. => some false
    | .ptr, .ptr .., .nilp => some false
    | .ptr, .nilp, .el .. => some false
    | .ptr, .el .., .nilp => some false
    | .slice _, .nils, .nils => some true
    | .slice _, .fz (_ :: _), .nils => some false
    | .slice _, .ms _ _ _ (_ + 1) _, .nils => some false
    | .map _ _, .nilm, .nilm => some true
    | .map _ _, .map _, .nilm => some false
    | .func, .nilf, .nilf => some true
    | .func, .clo .., .nilf => some false
    | .iface, .ifc .., .nili => some false
    | .struct fs, .agg xs, .agg ys => eqAgg T 12 fs xs ys
    | .arr n e, .agg xs, .agg ys => match T e with
      | some te => if te.agg = false ∧ te.size = 1 then eqArr te.kd xs ys (List.range n) else none
      | none => none
    | .bool, .bool a, .bool b => some (a == b)
    | _, _, _ => none

def binInt (op : BinOp) (k : IntKind) (a b : Int) : Option V :=
  match op with
  | .add => some (.int k (k.wrap (a + b)))
  | .sub => some (.int k (k.wrap (a - b)))
  | .mul => some (.int k (k.wrap (a * b)))
  | .quo => if b = 0 then none else some (.int k (k.wrap (a.tdiv b)))
  | .rem => if b = 0 then none else some (.int k (a.tmod b))
  | .and => some (.int k (k.wrap (BitVec.ofInt k.bits a &&& BitVec.ofInt k.bits b).toNat))
  | .or => some (.int k (k.wrap (BitVec.ofInt k.bits a ||| BitVec.ofInt k.bits b).toNat))
  | .xor => some (.int k (k.wrap (BitVec.ofInt k.bits a ^^^ BitVec.ofInt k.bits b).toNat))
  | .andNot => some (.int k (k.wrap (BitVec.ofInt k.bits a &&& ~~~ BitVec.ofInt k.bits b).toNat))
  | .eql => some (.bool (a == b))
  | .neq => some (.bool (a != b))
  | .lss => some (.bool (decide (a < b)))
  | .leq => some (.bool (decide (a ≤ b)))
  | .gtr => some (.bool (decide (a > b)))
  | .geq => some (.bool (decide (a ≥ b)))
  | _ => none

def binStr (op : BinOp) (a b : ByteArray) : Option V :=
  match op with
  | .add => if a.size + b.size ≤ 9223372036854775807 then some (.str (a ++ b)) else none
  | .eql => some (.bool (a.toList == b.toList))
  | .neq => some (.bool !(a.toList == b.toList))
  | .lss => some (.bool (Op.bytesLess a.toList b.toList))
  | .leq => some (.bool (Op.bytesLess a.toList b.toList || a.toList == b.toList))
  | .gtr => some (.bool !(Op.bytesLess a.toList b.toList || a.toList == b.toList))
  | .geq => some (.bool !(Op.bytesLess a.toList b.toList))
  | _ => none

def bin (T : TT) (op : BinOp) (t : TypeId) : V → V → Option V
  | .int k a, .int k' b => match op with
    | .shl => if 0 ≤ b then some (.int k (k.wrap (a * 2 ^ min b.toNat k.bits))) else none
    | .shr => if 0 ≤ b then some (.int k (a.fdiv (2 ^ min b.toNat k.bits))) else none
    | _ => if k = k' then binInt op k a b else none
  | .str a, .str b => binStr op a b
  | x, y => match op with
    | .eql => (eqV T t x y).map .bool
    | .neq => (eqV T t x y).map fun b => .bool !b
    | _ => none

def un (op : UnOp) : V → Option V
  | .bool b => match op with | .not => some (.bool !b) | _ => none
  | .int k n => match op with | .neg => some (.int k (k.wrap (0 - n))) | .xor => some (.int k (k.wrap (BitVec.ofInt k.bits (if k.signed then -1 else k.max) ^^^ BitVec.ofInt k.bits n).toNat)) | _ => none
  | _ => none

def conv (T : TT) (src dst : TypeId) (x : V) : Option V := match T src, T dst with
  | some a, some b => match a.kd, b.kd, x with
    | .int _, .int k, .int _ n => some (.int k (k.wrap n))
    | .str, .str, .str s => some (.str s)
    | _, _, _ => none
  | _, _ => none

def max2 : V → V → Option V
  | .int k x, .int k' y => if k = k' then some (.int k (if y > x then y else x)) else none
  | .str x, .str y => some (.str (if !(Op.bytesLess x.toList y.toList) then x else y))
  | _, _ => none
def min2 : V → V → Option V
  | .int k x, .int k' y => if k = k' then some (.int k (if y < x then y else x)) else none
  | .str x, .str y => some (.str (if Op.bytesLess x.toList y.toList || x.toList == y.toList then x else y))
  | _, _ => none

def natOf : V → Option Nat
  | .int _ n => if 0 ≤ n then some n.toNat else none
  | _ => none

def optNat : Option V → Nat → Option Nat
  | none, d => some d
  | some v, _ => natOf v

/-- What a cut of a slice is. -/
def cutS (size : Nat) (x : V) (lo hi mx : Option V) : Option V :=
  match x with
  | .str s => match mx, optNat lo 0, optNat hi s.size with
    | none, some l, some h => if l ≤ h ∧ h ≤ s.size then some (.str (s.extract l h)) else none
    | _, _, _ => none
  | .fz rows => match mx, optNat lo 0, optNat hi rows.length with
    | none, some l, some h => if l ≤ h ∧ h ≤ rows.length ∧ rows.all (fun r => r.length == size) then some (.fz ((rows.drop l).take (h - l))) else none
    | _, _, _ => none
  | .ms i st o n c => if st = size then (match optNat lo 0, optNat hi n with
    | some l, some h => if l ≤ h ∧ h ≤ n then (match mx with
        | none => some (.ms i st (o + l) (h - l) (c.map (· - l)))
        | some m => match natOf m with
          | some m => if h ≤ m ∧ m ≤ n then some (.ms i st (o + l) (h - l) (some (m - l))) else none
          | none => none) else none
    | _, _ => none) else none
  | .nils => match mx, optNat lo 0, optNat hi 0 with
    | none, some 0, some 0 => some .nils
    | _, _, _ => none
  | _ => none

/-! Operations: the answer, and the objects that are new or other ones. -/
abbrev Upd := List (Nat × Option Ob)

variable {α : Type}

def rows? (size : Nat) (x : V) (k : List (List V) → Bool → Rd α) : Rd α :=
  match x with
  | .nils => k [] true
  | .fz rows => if rows.all (fun r => r.length == size) then k rows true else .fail
  | .ms i st o n _ => if st = size then .get i fun ob => match ob with
      | .buf st' rows _ pure => if st' = size ∧ o + n ≤ rows.length then k ((rows.drop o).take n) pure else .fail
      | _ => .fail
    else .fail
  | _ => .fail

/-- Behind 'l' rows of an object, from row 'o' on, others: in place, or in a new object. -/
def appendM (ti : TI) (n i o l : Nat) (c : Option Nat) (rows : List (List V)) (frz pure : Bool) (new : List (List V)) (npure : Bool) : Rd (V × Upd) :=
  match c with
  | some c =>
    if c < l + new.length then .pure (.ms n ti.size 0 (l + new.length) none, [(n, some (.buf ti.size ((rows.drop o).take l ++ new) false (pure && npure)))])
    else if o + l + new.length ≤ rows.length ∧ frz = false then .pure (.ms i ti.size o (l + new.length) (some c), [(i, some (.buf ti.size (rows.take (o + l) ++ new ++ rows.drop (o + l + new.length)) false (pure && npure)))])
    else .fail
  | none =>
    if o + l + new.length ≤ rows.length then
      (if frz = false then .pure (.ms i ti.size o (l + new.length) none, [(i, some (.buf ti.size (rows.take (o + l) ++ new ++ rows.drop (o + l + new.length)) false (pure && npure)))]) else .fail)
    else if o = 0 ∧ (l = rows.length ∨ frz = false) then .pure (.ms n ti.size 0 (l + new.length) none, [(i, none), (n, some (.buf ti.size (rows.take l ++ new) frz (pure && npure)))])
    else .fail

def appendR (ti : TI) (n : Nat) (s : V) (new : List (List V)) (npure : Bool) : Rd (V × Upd) :=
  match s with
  | .nils => if new.length = 0 then .pure (s, []) else
      if new.length * ti.bytes ≤ 140737488355328 ∧ new.length ≤ 140737488355328 then .pure (.ms n ti.size 0 new.length none, [(n, some (.buf ti.size new false npure))]) else .fail
  | .fz _ => if new.length = 0 then .pure (s, []) else .fail
  | .ms i st o l c => if new.length = 0 then .pure (s, []) else if st = ti.size then .get i fun ob => match ob with
      | .buf st' rows frz pure => if st' = ti.size ∧ o + l ≤ rows.length ∧ (l + new.length) * ti.bytes ≤ 140737488355328 ∧ l + new.length ≤ 140737488355328 then appendM ti n i o l c rows frz pure new npure else .fail
      | _ => .fail
    else .fail
  | _ => .fail

def findKey (k : V) : List (V × V) → Option (Option V)
  | [] => some none
  | (k', v) :: r => match eqCell k k' with
    | some true => some (some v)
    | some false => findKey k r
    | none => none

def setKey (k v : V) : List (V × V) → Option (List (V × V))
  | [] => some [(k, v)]
  | (k', v') :: r => match eqCell k k' with
    | some true => some ((k, v) :: r)
    | some false => (setKey k v r).map ((k', v') :: ·)
    | none => none

def delKey (k : V) : List (V × V) → Option (List (V × V))
  | [] => some []
  | (k', v') :: r => match eqCell k k' with
    | some true => some r
    | some false => (delKey k r).map ((k', v') :: ·)
    | none => none

def isKey (T : TT) (t : TypeId) (x : V) : Bool := match T t with
  | some ti => match ti.kd, x with
    | .int k, .int k' _ => decide (k = k')
    | .str, .str _ => true
    | _, _ => false
  | none => false

/-- May a value be one of the type's? -/
def fits (ti : TI) (v : V) : Bool := match v with
  | .agg cs => ti.agg && cs.length == ti.size && cs.all V.isCell
  | v => !ti.agg && v.isCell

mutual
def V.noFz : V → Bool
  | .fz _ | .el .. => false
  | .clo _ cs => V.allNoFz cs
  | .agg cs => V.allNoFz cs
  | .tup vs => V.allNoFz vs
  | .ifc _ v => V.noFz v
  | _ => true
def V.allNoFz : List V → Bool
  | [] => true
  | v :: r => V.noFz v && V.allNoFz r
end

/- Frozen: a slice of an object becomes its rows ('ms' tells what becomes of a slice of an object). -/
section
variable (ms : Nat → Nat → Nat → Nat → (V → Upd → Rd α) → Rd α)
mutual
def frzG (x : V) (k : V → Upd → Rd α) : Rd α :=
  match x with
  | .ms i st o n _ => ms i st o n k
  | .nils => k (.fz []) []
  | .agg cs => frzGAll cs fun cs u => k (.agg cs) u
  | .tup vs => frzGAll vs fun vs u => k (.tup vs) u
  | v => k v []
def frzGAll (l : List V) (k : List V → Upd → Rd α) : Rd α :=
  match l with
  | [] => k [] []
  | v :: r => frzG v fun v u => frzGAll r fun r u' => k (v :: r) (u ++ u')
end
def frzGRows (rows : List (List V)) (k : List (List V) → Upd → Rd α) : Rd α :=
  match rows with
  | [] => k [] []
  | r :: rs => frzGAll ms r fun r u => frzGRows rs fun rs u' => k (r :: rs) (u ++ u')
/-- A slice of an object: rows that lead to no object as they are; others are frozen first, cell by cell. -/
def msUp (i st o n : Nat) (k : V → Upd → Rd α) : Rd α := .get i fun ob => match ob with
  | .buf st' rows _ true => if st' = st ∧ o + n ≤ rows.length then k (.fz ((rows.drop o).take n)) [(i, some (.buf st rows true true))] else .fail
  | .buf st' rows _ false => if st' = st ∧ o + n ≤ rows.length then frzGRows ms rows fun rows' u =>
      if rows'.all (fun r => r.all fun v => v.isCell && !v.hasIds) then k (.fz ((rows'.drop o).take n)) (u ++ [(i, some (.buf st rows' true true))]) else .fail
    else .fail
  | _ => .fail
end
def ms0 (i st o n : Nat) (k : V → Upd → Rd α) : Rd α := msUp (fun _ _ _ _ _ => .fail) i st o n k
def ms1 (i st o n : Nat) (k : V → Upd → Rd α) : Rd α := msUp ms0 i st o n k
def ms2 (i st o n : Nat) (k : V → Upd → Rd α) : Rd α := msUp ms1 i st o n k
def frz (x : V) (k : V → Upd → Rd α) : Rd α := frzG ms2 x k
def frzAll (l : List V) (k : List V → Upd → Rd α) : Rd α := frzGAll ms2 l k

def frzArgs (l : List V) (m : List Bool) (k : List V → Upd → Rd α) : Rd α :=
  match l, m with
  | [], _ => k [] []
  | v :: r, true :: m => frz v fun v u => frzArgs r m fun r u' => k (v :: r) (u ++ u')
  | v :: r, m => frzArgs r m.tail fun r u' => k (v :: r) u'

/-- The objects that are reached, and they themselves. -/
def collect : Nat → List Nat → List (Nat × Ob) → (List (Nat × Ob) → Rd α) → Rd α
  | 0, _, _, _ => .fail
  | _ + 1, [], acc, k => k acc
  | n + 1, i :: todo, acc, k =>
    if (acc.map (·.1)).contains i then collect n todo acc k
    else .get i fun o => collect n (o.ids ++ todo) (acc ++ [(i, o)]) k

def pullObs (f : Nat → Option Nat) : List (Nat × Ob) → Option (List Ob)
  | [] => some []
  | (_, o) :: r => (o.re f).bind fun o => (pullObs f r).map (o :: ·)

/-- The objects behind a call, in the caller's numbers: the old ones first. -/
def pushObs (f : Nat → Option Nat) : List (Option Ob) → Nat → Option Upd
  | [], _ => some []
  | o :: r, j => match f j, o with
    | some i, some o => (o.re f).bind fun o => (pushObs f r (j + 1)).map ((i, some o) :: ·)
    | some i, none => (pushObs f r (j + 1)).map ((i, none) :: ·)
    | none, _ => none

/-- The caller's number of an object of the callee's, of whose heap there are 'm'. -/
def back (l : List Nat) (n m j : Nat) : Option Nat := match nth l j with
  | some i => some i
  | none => if j < m then some (n + (j - l.length)) else none

abbrev Fun := List V → List Ob → Option (V × Heap)

def upd1 (u : Upd) (l : List Nat) : Bool := u.all fun p => !l.contains p.1

def afterR (n : Nat) (l : List Nat) (u : Upd) (r : V) (h : Heap) : Rd (V × Upd) :=
  match V.re (back l n h.length) r, pushObs (back l n h.length) h 0 with
  | some r, some us => if l.isEmpty && h.isEmpty && r.noFz then .pure (r, []) else .pure (r, us ++ u)
  | _, _ => .fail

def withR (fn : Fun) (n : Nat) (args : List V) (u : Upd) (obs : List (Nat × Ob)) : Rd (V × Upd) :=
  let l := obs.map (·.1)
  if upd1 u l && l.all (· < n) then match V.reAll (idx l) args, pullObs (idx l) obs with
    | some args, some hs => match fn args hs with
      | some (r, h) => if l.length ≤ h.length then afterR n l u r h else .fail
      | none => .fail
    | _, _ => .fail
  else .fail

def callR (fn : Fun) (pfz : List Bool) (n : Nat) (args : List V) : Rd (V × Upd) :=
  frzArgs args pfz fun args u => collect 4096 (V.allIds args) [] fun obs => withR fn n args u obs

/-- A function ('intr': what it answers, where its code is not gone through): 'pfz': which arguments are frozen at a call; 'rfz': is the answer frozen? 'gcs': at the head of the loop in a block, what lives there, and which nil slices (in a slot, or in a cell of the object to which a slot leads) stand as empty objects. -/
structure AGc where
  block : Nat
  live : List Nat
  thaw : List (Nat × Option Nat × Nat)

structure AFn where
  body : Code
  ntmps : Nat
  res : List ResultVar
  pfz : List Bool
  rfz : Bool
  intr : Option Fun
  gcs : List AGc

structure Cx where
  T : TT
  fns : FuncId → Option AFn
  call : FuncId → Fun

def lenR (x : V) : Rd (V × Upd) := match x with
  | .nils => .pure (.int .i64 0, [])
  | .fz rows => .pure (.int .i64 rows.length, [])
  | .ms _ _ _ n _ => .pure (.int .i64 n, [])
  | .str s => .pure (.int .i64 s.size, [])
  | .nilm => .pure (.int .i64 0, [])
  | .map i => .get i fun
    | .mp es _ => .pure (.int .i64 es.length, [])
    | _ => .fail
  | _ => .fail

def ok (v : Option V) : Rd (V × Upd) := match v with
  | some v => .pure (v, [])
  | none => .fail

def lenKd : TK → V → Bool
  | .str, .str _ => true
  | .slice _, .nils => true
  | .slice _, .fz _ => true
  | .slice _, .ms .. => true
  | .map _ _, .nilm => true
  | .map _ _, .map _ => true
  | _, _ => false

/-! Bytes and texts. -/
def bytesOf : List (List V) → Option (List UInt8)
  | [] => some []
  | [.int .u8 k] :: r => (bytesOf r).map (UInt8.ofNat k.toNat :: ·)
  | _ => none
def rowsOf (s : ByteArray) : List (List V) := s.data.toList.map fun b => [.int .u8 b.toNat]
def textR (rows : List (List V)) : Rd (V × Upd) := match bytesOf rows with
  | some l => .pure (.str ⟨l.toArray⟩, [])
  | none => .fail
def bytesR (x : V) : Rd (V × Upd) := rows? 1 x fun rows _ => textR rows
def isU8 (T : TT) (e : TypeId) : Bool := match T e with
  | some te => match te.kd with
    | .int .u8 => true
    | _ => false
  | none => false
def convR (T : TT) (n : Nat) (src dst : TypeId) (x : V) : Rd (V × Upd) := match T src, T dst with
  | some a, some b => match a.kd, b.kd, x with
    | .slice e, .str, x => if isU8 T e then bytesR x else .fail
    | .str, .slice e, .str s => if isU8 T e ∧ s.size ≤ 140737488355328 then .pure (.ms n 1 0 s.size none, [(n, some (.buf 1 (rowsOf s) false true))]) else .fail
    | .slice _, .slice e, .ms i st o l c => if isU8 T e ∧ src = dst then .get i fun ob => match ob with
        | .buf .. => if l = 0 then .fail else .pure (.ms i st o l c, [])
        | _ => .fail
      else .fail
    | _, _, x => ok (conv T src dst x)
  | _, _ => .fail

/-- append(s, make([]T, k)...) -/
def appendZ (ti : TI) (n : Nat) (s x : V) : Rd (V × Upd) := match x with
  | .int _ k => if 0 ≤ k ∧ k.toNat * ti.bytes ≤ 140737488355328 ∧ k ≤ 140737488355328 then appendR ti n s (List.replicate k.toNat ti.zero.cells) true else .fail
  | _ => .fail

/-- copy: all is read before anything is written. -/
def copyR (ti : TI) (d x : V) : Rd (V × Upd) := match d with
  | .nils => rows? ti.size x fun _ _ => .pure (.int .i64 0, [])
  | .ms i st o n _ => if st = ti.size then rows? ti.size x fun new p => .get i fun ob => match ob with
      | .buf st' rows false pure => if st' = ti.size ∧ o + n ≤ rows.length then .pure (.int .i64 (min new.length n : Nat), [(i, some (.buf ti.size (rows.take o ++ new.take n ++ rows.drop (o + min new.length n)) false (pure && p)))]) else .fail
      | _ => .fail
    else .fail
  | _ => .fail
def copyB (T : TT) (t t' : TypeId) (d x : V) : Rd (V × Upd) := match T t, T t' with
  | some a, some b => match a.kd, b.kd with
    | .slice e, .slice _ => match T e with
      | some ti => if ti.size = 0 then .fail else copyR ti d x
      | none => .fail
    | _, _ => .fail
  | _, _ => .fail

/-- clear, of a slice. -/
def clearR (ti : TI) (d : V) : Rd (V × Upd) := match d with
  | .nils => .pure (.undef, [])
  | .ms i st o n _ => if st = ti.size then .get i fun ob => match ob with
      | .buf st' rows false pure => if st' = ti.size ∧ o + n ≤ rows.length then .pure (.undef, [(i, some (.buf ti.size (rows.take o ++ List.replicate n ti.zero.cells ++ rows.drop (o + n)) false pure))]) else .fail
      | _ => .fail
    else .fail
  | _ => .fail
def clearB (T : TT) (t : TypeId) (d : V) : Rd (V × Upd) := match T t with
  | some a => match a.kd with
    | .slice e => match T e with
      | some ti => if ti.size = 0 then .fail else clearR ti d
      | none => .fail
    | _ => .fail
  | _ => .fail

def appendB (T : TT) (n : Nat) (t t' : TypeId) (s x : V) : Rd (V × Upd) := match T t, T t' with
  | some a, some b => match a.kd, b.kd with
    | .slice e, .slice _ => match T e with
      | some ti => if ti.size = 0 then .fail else rows? ti.size x fun new p => appendR ti n s new p
      | none => .fail
    | .slice e, .int _ => match T e with
      | some ti => if ti.size = 0 then .fail else appendZ ti n s x
      | none => .fail
    | .slice e, .str => match T e, x with
      | some ti, .str y => if ti.size = 1 then appendR ti n s (rowsOf y) true else .fail
      | _, _ => .fail
    | _, _ => .fail
  | _, _ => .fail

def lenB (T : TT) (t : TypeId) (x : V) : Rd (V × Upd) := match T t with
  | some ti => if lenKd ti.kd x then lenR x else .fail
  | none => .fail

def capB (T : TT) (t : TypeId) (x : V) : Rd (V × Upd) := match T t with
  | some ti => match ti.kd, x with
    | .slice _, .ms _ _ _ _ (some c) => .pure (.int .i64 c, [])
    | .slice _, .nils => .pure (.int .i64 0, [])
    | _, _ => .fail
  | none => .fail

def delR (T : TT) (t : TypeId) (m k : V) : Rd (V × Upd) := match T t with
  | some ti' => match ti'.kd with
    | .map kt _ => if isKey T kt k then (match m with
        | .nilm => .pure (.undef, [])
        | .map i => .get i fun ob => match ob with
          | .mp es p => match delKey k es with
            | some es => .pure (.undef, [(i, some (.mp es p))])
            | none => .fail
          | _ => .fail
        | _ => .fail) else .fail
    | _ => .fail
  | none => .fail

def builtinR (T : TT) (n : Nat) (b : Builtin) (ts : List TypeId) (args : List V) : Rd (V × Upd) :=
  match b, ts, args with
  | .len, [t], [x] => lenB T t x
  | .cap, [t], [x] => capB T t x
  | .max, _, [x, y] => ok (max2 x y)
  | .min, _, [x, y] => ok (min2 x y)
  | .append, [t, t'], [s, x] => appendB T n t t' s x
  | .copy, [t, t'], [d, x] => copyB T t t' d x
  | .clear, [t], [d] => clearB T t d
  | .delete, [t, _], [m, k] => delR T t m k
  | _, _, _ => .fail

def callV (cx : Cx) (n : Nat) (f : V) (args : List V) : Rd (V × Upd) := match f with
  | .clo g caps => match cx.fns g with
    | some fn => callR (cx.call g) fn.pfz n (args ++ caps)
    | none => .fail
  | _ => .fail

/-- make([]T, len, cap). -/
def makeSliceR (T : TT) (n : Nat) (t : TypeId) (len cap : V) : Rd (V × Upd) := match T t with
  | some ti' => match ti'.kd with
    | .slice e => match T e, natOf len, natOf cap with
      | some ti, some l, some c => if ti.size ≠ 0 ∧ l ≤ c ∧ c ≤ 140737488355328 ∧ c * ti.bytes ≤ 140737488355328 then
          .pure (.ms n ti.size 0 l (if l = c then none else some c), [(n, some (.buf ti.size (List.replicate c ti.zero.cells) false true))]) else .fail
      | _, _, _ => .fail
    | _ => .fail
  | none => .fail

def allocR (T : TT) (n : Nat) (t : TypeId) : Rd (V × Upd) := match T t with
  | some ti => if ti.size = 0 then .fail else .pure (.ptr n 0 0, [(n, some (.buf ti.size [ti.zero.cells] false true))])
  | none => .fail

def boxR (n : Nat) (x : V) : Rd (V × Upd) :=
  if x.cells.all V.isCell ∧ x.cells.length ≠ 0 then .pure (.ptr n 0 0, [(n, some (.buf x.cells.length [x.cells] false (!V.anyIds x.cells)))]) else .fail

def loadR (T : TT) (t : TypeId) (a : V) : Rd (V × Upd) := match T t with
  | none => .fail
  | some ti => match a with
    | .ptr i r off => .get i fun ob => match ob with
      | .buf _ rows _ _ => match rows[r]? with
        | some row => ok (partOf ti row off)
        | none => .fail
      | _ => .fail
    | .el row off => ok (partOf ti row off)
    | _ => .fail

def storeR (T : TT) (t : TypeId) (a x : V) : Rd (V × Upd) := match T t with
  | none => .fail
  | some ti => match a with
    | .ptr i r off => .get i fun ob => match ob with
      | .buf st rows false pure => match rows[r]? with
        | some row => if x.cells.length = ti.size ∧ off + ti.size ≤ row.length ∧ x.cells.all V.isCell then .pure (.undef, [(i, some (.buf st (rows.set r (overwrite row off x.cells)) false (pure && !V.anyIds x.cells)))]) else .fail
        | none => .fail
      | _ => .fail
    | _ => .fail

def buildR (T : TT) (t : TypeId) (ps : List (Nat × V)) : Rd (V × Upd) := match T t with
  | some ti => match ti.kd with
    | .struct fs => if fs.all (fun p => (T p.2).isSome) then (match fillS T fs ti.zero.cells ps with
      | some cs => .pure (.agg cs, [])
      | none => .fail) else .fail
    | _ => .fail
  | none => .fail

def buildSliceR (T : TT) (n : Nat) (t : TypeId) (len : Nat) (ps : List (Nat × V)) : Rd (V × Upd) := match T t with
  | some ti' => match ti'.kd with
    | .slice el => match T el with
      | some ti => if ti.size = 0 ∨ 16777216 < len * ti.size then .fail else
        match fillR ti.size (List.replicate len ti.zero.cells) ps with
        | some rows => .pure (.ms n ti.size 0 len none, [(n, some (.buf ti.size rows false (!rowIds rows)))])
        | none => .fail
      | none => .fail
    | _ => .fail
  | none => .fail

def nilCheckR (x : V) : Rd (V × Upd) := match x with
  | .ptr i r off => .pure (.ptr i r off, [])
  | .el row off => .pure (.el row off, [])
  | .clo f cs => .pure (.clo f cs, [])
  | _ => .fail

def okOr (v : Option V) (r : Rd (V × Upd)) : Rd (V × Upd) := match v with
  | some v => .pure (v, [])
  | none => r
/-- Beyond its length, within its object. -/
def farR (st : Nat) (x : V) (lo hi mx : Option V) : Rd (V × Upd) := match x, hi, mx with
  | .ms i st' o _ none, some hv, none => match natOf hv, optNat lo 0 with
    | some h, some l => .get i fun ob => match ob with
      | .buf st2 rows _ _ => if st' = st ∧ st2 = st ∧ o + h ≤ rows.length ∧ l ≤ h then .pure (.ms i st (o + l) (h - l) none, []) else .fail
      | _ => .fail
    | _, _ => .fail
  | _, _, _ => .fail
def sliceR (T : TT) (t : TypeId) (x : V) (lo hi mx : Option V) : Rd (V × Upd) := match T t with
  | some ti' => match ti'.kd with
    | .slice el => match T el with
      | some ti => match x with
        | .str _ => .fail
        | x => okOr (cutS ti.size x lo hi mx) (farR ti.size x lo hi mx)
      | none => .fail
    | .str => match x with
      | .str s => ok (cutS 1 (.str s) lo hi mx)
      | _ => .fail
    | _ => .fail
  | none => .fail

def fieldAddrR (T : TT) (t : TypeId) (x : V) (f : Nat) : Rd (V × Upd) := match T t with
  | some ti => match ti.kd with
    | .struct fs => match fs[f]? with
      | some (o, ft) => match T ft with
        | some ft => if ft.size = 0 then .fail else (match x with
          | .ptr i r off => .pure (.ptr i r (off + o), [])
          | .el row off => .pure (.el row (off + o), [])
          | _ => .fail)
        | none => .fail
      | none => .fail
    | _ => .fail
  | none => .fail

def fieldR (T : TT) (t : TypeId) (x : V) (f : Nat) : Rd (V × Upd) := match T t with
  | some ti' => match ti'.kd with
    | .struct fs => match fs[f]? with
      | some (o, ft) => match T ft, x with
        | some ti, .agg cs => ok (partOf ti cs o)
        | _, _ => .fail
      | none => .fail
    | _ => .fail
  | none => .fail

def indexAddrR (T : TT) (t : TypeId) (x i : V) : Rd (V × Upd) := match T t with
  | some ti' => match ti'.kd with
    | .slice el => match T el, natOf i with
      | some ti, some i => match x with
        | .fz rows => match rows[i]? with
          | some row => if rows.all (fun r => r.length == ti.size) then .pure (.el row 0, []) else .fail
          | none => .fail
        | .ms id st o len _ => if i < len ∧ st = ti.size then .pure (.ptr id (o + i) 0, []) else .fail
        | _ => .fail
      | _, _ => .fail
    | _ => .fail
  | none => .fail

def indexR (T : TT) (t : TypeId) (x i : V) : Rd (V × Upd) := match T t with
  | some ti => match ti.kd with
    | .str => match x, natOf i with
      | .str s, some i => match s[i]? with
        | some b => .pure (.int .u8 b.toNat, [])
        | none => .fail
      | _, _ => .fail
    | _ => .fail
  | none => .fail

def giveR (ti : TI) (cok : Bool) (r : Option V) : V :=
  let v := match r with | some v => v | none => ti.zero
  if cok then .tup [v, .bool r.isSome] else v

/-! Arrays: a variable of an array of one-cell elements stands as so many rows of one cell. -/
def arrOf (T : TT) (t : TypeId) : Option (Nat × TI) := match T t with
  | some ti => match ti.kd with
    | .arr n e => match T e with
      | some te => if te.size = 0 ∨ ti.size ≠ n * te.size then none else some (n, te)
      | none => none
    | _ => none
  | none => none
def allocA (T : TT) (n : Nat) (t : TypeId) : Rd (V × Upd) := match arrOf T t with
  | some (m, te) => if te.size = 1 ∧ m ≠ 0 ∧ m ≤ 16777216 then (match T t with
      | some ti => .pure (.ptr n 0 0, [(n, some (.buf 1 (ti.zero.cells.map fun c => [c]) false true))])
      | none => .fail) else allocR T n t
  | none => allocR T n t
def loadA (T : TT) (t : TypeId) (a : V) : Rd (V × Upd) := match arrOf T t, a with
  | some (m, te), .ptr i r 0 => .get i fun ob => match ob with
    | .buf st rows _ _ => if st = 1 ∧ te.size = 1 ∧ m ≠ 1 then (if r + m ≤ rows.length then .pure (.agg ((rows.drop r).take m).flatten, []) else .fail) else loadR T t a
    | _ => .fail
  | _, _ => loadR T t a
def storeA (T : TT) (t : TypeId) (a x : V) : Rd (V × Upd) := match arrOf T t, a with
  | some (m, te), .ptr i r 0 => .get i fun ob => match ob with
    | .buf st rows false pure => if st = 1 ∧ te.size = 1 ∧ m ≠ 1 then (if r + m ≤ rows.length ∧ x.cells.length = m ∧ x.cells.all V.isCell then
        .pure (.undef, [(i, some (.buf 1 (rows.take r ++ x.cells.map (fun c => [c]) ++ rows.drop (r + m)) false (pure && !V.anyIds x.cells)))]) else .fail) else storeR T t a x
    | _ => .fail
  | _, _ => storeR T t a x
def indexAddrA (T : TT) (t : TypeId) (x i : V) : Rd (V × Upd) := match arrOf T t with
  | some (m, te) => match natOf i with
    | some k => if k < m then (match x with
      | .ptr id r off => .get id fun ob => match ob with
        | .buf st _ _ _ => if st = 1 ∧ te.size = 1 then .pure (.ptr id (r + off + k) 0, []) else .pure (.ptr id r (off + k * te.size), [])
        | _ => .fail
      | .el row off => .pure (.el row (off + k * te.size), [])
      | _ => .fail) else .fail
    | none => .fail
  | none => indexAddrR T t x i
def indexA (T : TT) (t : TypeId) (x i : V) : Rd (V × Upd) := match arrOf T t with
  | some (m, te) => match natOf i, x with
    | some k, .agg cs => if k < m then ok (partOf te cs (k * te.size)) else .fail
    | _, _ => .fail
  | none => indexR T t x i
def sliceA (T : TT) (t : TypeId) (x : V) (lo hi mx : Option V) : Rd (V × Upd) := match arrOf T t with
  | some (m, te) => match x, optNat lo 0, optNat hi m, mx with
    | .ptr i r off, some l, some h, none => if te.size = 1 ∧ l ≤ h ∧ h ≤ m then .get i fun ob => match ob with
        | .buf st rows _ _ => if st = 1 ∧ r + off + m ≤ rows.length then .pure (.ms i 1 (r + off + l) (h - l) (some (m - l)), []) else .fail
        | _ => .fail
      else .fail
    | _, _, _, _ => .fail
  | none => sliceR T t x lo hi mx
def arrayAtR (T : TT) (t : TypeId) (x : V) : Rd (V × Upd) := match arrOf T t with
  | some (m, te) => if te.size = 1 ∧ m ≠ 0 then (match x with
    | .ms i 1 o len _ => if m ≤ len then .get i fun ob => match ob with
        | .buf .. => .pure (.ptr i o 0, [])
        | _ => .fail
      else .fail
    | .fz rows => if m ≤ rows.length ∧ rows.all (fun r => r.length == 1) then .pure (.el (rows.take m).flatten 0, []) else .fail
    | _ => .fail) else .fail
  | none => .fail

def lookupR (T : TT) (t : TypeId) (m k : V) (cok : Bool) : Rd (V × Upd) := match T t with
  | some ti' => match ti'.kd with
    | .map kt et => match T et with
      | some ti => if isKey T kt k then (match m with
          | .nilm => .pure (giveR ti cok none, [])
          | .map i => .get i fun ob => match ob with
            | .mp es _ => match findKey k es with
              | some r => .pure (giveR ti cok r, [])
              | none => .fail
            | _ => .fail
          | _ => .fail) else .fail
      | none => .fail
    | _ => .fail
  | none => .fail

def mapUpdateR (T : TT) (t : TypeId) (m k x : V) : Rd (V × Upd) := match T t with
  | some ti' => match ti'.kd with
    | .map kt et => match T et with
      | some ti => if isKey T kt k ∧ fits ti x then (match m with
          | .map i => .get i fun ob => match ob with
            | .mp es p => match setKey k x es with
              | some es => .pure (.undef, [(i, some (.mp es (p && !x.hasIds)))])
              | none => .fail
            | _ => .fail
          | _ => .fail) else .fail
      | none => .fail
    | _ => .fail
  | none => .fail

def extractR (x : V) (i : Nat) : Rd (V × Upd) := match x with
  | .tup vs => ok vs[i]?
  | _ => .fail

def pickR (c a b : V) : Rd (V × Upd) := match c with
  | .bool c => .pure (if c then a else b, [])
  | _ => .fail

def parts (e : Env) : List (Nat × Operand) → List (Nat × V)
  | [] => []
  | (i, x) :: r => (i, ev e x) :: parts e r

def aop (cx : Cx) (n : Nat) (e : Env) (o : Oper) : Rd (V × Upd) :=
  match o.op with
  | .move x => .pure (ev e x, [])
  | .assign x => .pure (ev e x, [])
  | .pick c a b => pickR (ev e c) (ev e a) (ev e b)
  | .alloc t => allocA cx.T n t
  | .box _ x => boxR n (ev e x)
  | .load t a => loadA cx.T t (ev e a)
  | .store t a x => storeA cx.T t (ev e a) (ev e x)
  | .build t ps => buildR cx.T t (parts e ps.toList)
  | .buildSlice t len ps => buildSliceR cx.T n t len (parts e ps.toList)
  | .nilCheck x => nilCheckR (ev e x)
  | .binOp op t x y _ => ok (bin cx.T op t (ev e x) (ev e y))
  | .unOp op _ x => ok (un op (ev e x))
  | .convert src dst x => convR cx.T n src dst (ev e x)
  | .makeSlice t len cap => makeSliceR cx.T n t (ev e len) (ev e cap)
  | .sliceToArrayPointer t x => arrayAtR cx.T t (ev e x)
  | .makeFunc (.func f) first caps => if first.size = 0 then .pure (.clo f (evs e caps.toList), []) else .fail
  | .makeMap _ none => .pure (.map n, [(n, some (.mp [] true))])
  | .slice t x lo hi mx => if mx.isSome && hi.isNone then .fail else sliceA cx.T t (ev e x) (lo.map (ev e)) (hi.map (ev e)) (mx.map (ev e))
  | .fieldAddr t x f => fieldAddrR cx.T t (ev e x) f
  | .field t x f => fieldR cx.T t (ev e x) f
  | .indexAddr t x i => indexAddrA cx.T t (ev e x) (ev e i)
  | .index t x i => indexA cx.T t (ev e x) (ev e i)
  | .lookup t m k cok => lookupR cx.T t (ev e m) (ev e k) cok
  | .mapUpdate t m k x => mapUpdateR cx.T t (ev e m) (ev e k) (ev e x)
  | .extract x i => extractR (ev e x) i
  | .call c => match c.callee with
    | .builtin b => builtinR cx.T n b c.argTypes.toList (evs e c.args.toList)
    | .value f => callV cx n (ev e f) (evs e c.args.toList)
    | .invoke .. => .fail
  | _ => .fail

/-! Code. -/
structure St where
  env : Env
  heap : Heap

inductive Ex where
  | normal | exit (id : Nat) | ret
  deriving DecidableEq

def yields (ops : Array Oper) (e : Env) (j : Nat) : Option Bool := match (ops[j]?).bind (·.dst) with
  | some t => match lk e t with
    | .bool b => some b
    | _ => none
  | none => none

/-- Is what an operation yields Go's value of none (where it wasn't wanted)? -/
def isSkip : V → Bool
  | .tup [] => true
  | _ => false
def skipped (ops : Array Oper) (e : Env) (j : Nat) : Bool := match (ops[j]?).bind (·.dst) with
  | some t => isSkip (lk e t)
  | none => false

/-- Is it wanted? 'none': that isn't known. -/
def wants (ops : Array Oper) (e : Env) (o : Oper) : Option Bool := match o.guard with
  | none => some true
  | some (j, b) => if skipped ops e j then some false else (yields ops e j).map (· == b)

def putDst (ntmps : Nat) (e : Env) (d : Option Tmp) (v : V) : Option Env := match d with
  | none => some e
  | some d => if d < ntmps then some ((d, v) :: e) else none

def runOps (cx : Cx) (ntmps : Nat) (ops : Array Oper) : List Oper → St → Option St
  | [], s => some s
  | o :: r, s => match wants ops s.env o with
    | none => none
    | some false => (putDst ntmps s.env o.dst (.tup [])).bind fun e => runOps cx ntmps ops r { s with env := e }
    | some true => match (aop cx s.heap.length s.env o).run s.heap [] with
      | none => none
      | some ((v, u), _) => (putDst ntmps s.env o.dst v).bind fun e => runOps cx ntmps ops r { env := e, heap := s.heap.puts u }

/-- What became of an operation: its answer, the objects it turned, those it looked at, and the number from which its new ones go. -/
structure Did where
  want : Bool
  val : V
  upd : Upd
  reads : List Nat

def Did.touches (a b : Did) : Bool := a.upd.any fun p => b.reads.contains p.1 || b.upd.any fun q => q.1 == p.1
def clash (a b : Did) : Bool := a.touches b || b.touches a

/-- Each operation clashes with those alone that are told to be ahead of it. -/
def apart (bef : Array Nat) (done : List Did) (j : Nat) (d : Did) : Bool :=
  (done.zipIdx.all fun (c, i) => !clash c d || (bef.getD j 0).testBit i)

/-- At least so many places. -/
def Heap.pad (n : Nat) (h : Heap) : Heap := if h.length < n then h ++ [none] else h

def runDraw (cx : Cx) (ntmps : Nat) (ops : Array Oper) (bef : Array Nat) : List Oper → Nat → St → List Did → Option St
  | [], _, s, _ => some s
  | o :: r, j, s, done => match wants ops s.env o with
    | none => none
    | some false => (putDst ntmps s.env o.dst (.tup [])).bind fun e => runDraw cx ntmps ops bef r (j + 1) { s with env := e } (done ++ [⟨false, .tup [], [], []⟩])
    | some true => match (aop cx s.heap.length s.env o).run s.heap [] with
      | none => none
      | some ((v, u), l) =>
        let d : Did := ⟨true, v, u, l⟩
        if apart bef done j d then
          (putDst ntmps s.env o.dst v).bind fun e => runDraw cx ntmps ops bef r (j + 1) { env := e, heap := Heap.pad (s.heap.length + 1) (s.heap.puts u) } (done ++ [d])
        else none

/-- Live slots alone, and the objects that they reach, numbered anew behind the first 'keep'. -/
def live (e : Env) : List Nat → Env
  | [] => []
  | t :: r => (t, lk e t) :: live e r

def reEnv (f : Nat → Option Nat) : Env → Option Env
  | [] => some []
  | (t, v) :: r => (V.re f v).bind fun v => (reEnv f r).map ((t, v) :: ·)

/-- A cell, found from an object: 'o' below 100 is the cell; else cell 'o % 100' leads to an object, in which 'o / 100 - 1' is gone on with. -/
def follow (h : Heap) : Nat → Nat → Nat → Option (Nat × Nat)
  | 0, _, _ => none
  | n + 1, i, o => if o < 100 then some (i, o) else match h.at? i with
    | some (.buf _ [row] _ _) => match row[o % 100]? with
      | some (.ptr j 0 0) => follow h n j (o / 100 - 1)
      | _ => none
    | _ => none
def whereN (s : St) (t o : Nat) : Option (Nat × Nat) := match lk s.env t with
  | .ptr i 0 0 => follow s.heap 8 i o
  | _ => none

/-- The rows of a list that stands in an object are frozen, cell by cell; the list itself stays an object. -/
def softOb (t : Nat) (s : St) : Option (Nat × Ob × Upd) := match lk s.env t with
  | .ms i _ _ _ _ => match s.heap.at? i with
    | some (.buf st rows false false) => match (frzGRows ms1 rows fun rows' u => Rd.pure (rows', u)).run s.heap [] with
      | some ((rows', u), _) => if (u.all fun p => p.1 != i) && rows'.all (fun r => r.all fun v => v.isCell && !v.hasIds) then some (i, .buf st rows' false true, u) else none
      | none => none
    | _ => none
  | _ => none
def soft (t : Nat) (s : St) : St := match softOb t s with
  | some (i, o, u) => { env := s.env, heap := (s.heap.puts u).put i (some o) }
  | none => s

/-- Nil slices become slices of empty objects. ('some 1000000': rows are frozen, see 'soft'.) -/
def thaw : List (Nat × Option Nat × Nat) → St → St
  | [], s => s
  | (t, none, st) :: r, s => match lk s.env t with
    | .nils => thaw r { env := (t, .ms s.heap.length st 0 0 none) :: s.env, heap := s.heap ++ [some (.buf st [] false true)] }
    | _ => thaw r s
  | (t, some o, st) :: r, s => if o = 1000000 then thaw r (soft t s) else match whereN s t o with
    | some (i, o) => match s.heap.at? i with
      | some (.buf st' [row] false _) => match row[o]? with
        | some .nils => thaw r { env := s.env, heap := (s.heap.put i (some (.buf st' [row.set o (.ms s.heap.length st 0 0 none)] false false))) ++ [some (.buf st [] false true)] }
        | _ => thaw r s
      | _ => thaw r s
    | none => thaw r s

def envIds : Env → List Nat
  | [] => []
  | (_, v) :: r => V.ids v ++ envIds r

def upto : Nat → List Nat → List Nat
  | 0, acc => acc
  | n + 1, acc => upto n (n :: acc)

/-- Does it begin with 'i', 'i' + 1, .., so many? -/
def begins : Nat → Nat → List Nat → Bool
  | 0, _, _ => true
  | _ + 1, _, [] => false
  | n + 1, i, x :: r => Nat.beq x i && begins n (i + 1) r

def gc (keep : Nat) (ts : List Nat) (s : St) : Option St :=
  let e := live s.env ts
  let l := reach keep s.heap 4096 (upto keep (envIds e)) []
  if begins keep 0 l then (reEnv (idx l) e).bind fun e => (pull s.heap (idx l) l).map fun h => { env := e, heap := h } else none

def rounds (body : St → Option (Ex × St)) : Nat → St → Option (Ex × St)
  | 0, _ => none
  | n + 1, s => match body s with
    | some (.normal, s) => rounds body n s
    | r => r

def aregion (cx : Cx) (ntmps : Nat) (ops : Array Oper) (draw : Bool) (s : St) : Option (Ex × St) :=
  (if draw then runDraw cx ntmps ops (Region.before ops) ops.toList 0 s [] else runOps cx ntmps ops ops.toList s).map fun s => (.normal, s)

def gcOf : List AGc → Option Nat → Option AGc
  | _, none => none
  | [], _ => none
  | g :: r, some id => bif Nat.beq g.block id then some g else gcOf r (some id)

def head (keep : Nat) (g : Option AGc) (s : St) : Option St := match g with
  | none => some s
  | some g => gc keep g.live (thaw g.thaw s)

def argEnv : Nat → List V → Env
  | _, [] => []
  | n, v :: r => (n, v) :: argEnv (n + 1) r

/-! Iterators: a function of which some slots hold yield; 'cb': a round of the loop over it (none: it goes on; else how it was left). -/
structure ISt where
  env : Env
  heap : Heap
  y : List Nat
  stop : Option Ex

abbrev CB := List V → Heap → Option (Option Ex × Heap)

/-- The arguments, if an operation calls yield. -/
def yArgs (o : Oper) (y : List Nat) : Option (List Operand) := match o.op with
  | .call c => match c.callee with
    | .value (.tmp t) => if y.contains t then some c.args.toList else none
    | _ => none
  | _ => none
def yDrop (d : Option Tmp) (y : List Nat) : List Nat := match d with
  | none => y
  | some d => y.filter fun t => !(t == d)
/-- Which slots hold yield behind an operation. -/
def yNext (o : Oper) (y : List Nat) : List Nat := match o.op, o.dst with
  | .move (.tmp t), some d => if y.contains t then d :: yDrop (some d) y else yDrop (some d) y
  | _, d => yDrop d y

def iOps (cx : Cx) (ntmps : Nat) (cb : CB) (ops : Array Oper) : List Oper → ISt → Option ISt
  | [], s => some s
  | o :: r, s => match wants ops s.env o with
    | none => none
    | some false => (putDst ntmps s.env o.dst (.tup [])).bind fun e => iOps cx ntmps cb ops r { s with env := e, y := yDrop o.dst s.y }
    | some true => match yArgs o s.y with
      | some ars => match s.stop with
        | some _ => none
        | none => match cb (evs s.env ars) s.heap with
          | none => none
          | some (st, h) => (putDst ntmps s.env o.dst (.bool st.isNone)).bind fun e => iOps cx ntmps cb ops r { env := e, heap := h, y := yDrop o.dst s.y, stop := st }
      | none => match (aop cx s.heap.length s.env o).run s.heap [] with
        | none => none
        | some ((v, u), _) => (putDst ntmps s.env o.dst v).bind fun e => iOps cx ntmps cb ops r { env := e, heap := s.heap.puts u, y := yNext o s.y, stop := s.stop }

def yDrops (ops : List Oper) (y : List Nat) : List Nat := ops.foldl (fun y o => yDrop o.dst y) y

/-- Of those that hold yield, the ones that live at a loop's head. -/
def yHead (g : Option AGc) (y : List Nat) : List Nat := match g with
  | none => y
  | some g => y.filter fun t => g.live.contains t

def iRounds (body : ISt → Option (Ex × ISt)) : Nat → ISt → Option (Ex × ISt)
  | 0, _ => none
  | n + 1, s => match body s with
    | some (.normal, s) => iRounds body n s
    | r => r

def icode (cx : Cx) (ntmps keep R : Nat) (gcs : List AGc) (cb : CB) : Code → Option Nat → ISt → Option (Ex × ISt)
  | .skip, _, s => some (.normal, s)
  | .region _ ops draw, _, s =>
    if draw then (if ops.toList.all (fun o => (yArgs o s.y).isNone) then (runDraw cx ntmps ops (Region.before ops) ops.toList 0 { env := s.env, heap := s.heap } []).map fun t => (.normal, { env := t.env, heap := t.heap, y := yDrops ops.toList s.y, stop := s.stop }) else none)
    else (iOps cx ntmps cb ops ops.toList s).map fun s => (.normal, s)
  | .seq a b, _, s => (icode cx ntmps keep R gcs cb a none s).bind fun r => match r with
    | (.normal, s) => icode cx ntmps keep R gcs cb b none s
    | r => some r
  | .cond c a b, _, s => match ev s.env c with
    | .bool true => icode cx ntmps keep R gcs cb a none s
    | .bool false => icode cx ntmps keep R gcs cb b none s
    | _ => none
  | .block id body, _, s => (icode cx ntmps keep R gcs cb body (some id) s).map fun r => match r with
    | (.exit i, s) => if i = id then (.normal, s) else (.exit i, s)
    | r => r
  | .loop body, id, s => iRounds (fun s => (head keep (gcOf gcs id) { env := s.env, heap := s.heap }).bind fun t => icode cx ntmps keep R gcs cb body none { env := t.env, heap := t.heap, y := yHead (gcOf gcs id) s.y, stop := s.stop }) R s
  | .exit id, _, s => some (.exit id, s)
  | .ret, _, s => some (.ret, s)
  | _, _, _ => none

def bindPs : List Tmp → List V → Env → Env
  | p :: ps, v :: vs, e => bindPs ps vs ((p, v) :: e)
  | _, _, e => e

/-- One round of a loop over an iterator. -/
def roundOf (ntmps : Nat) (ps : List Tmp) (env : Env) (assign body : Nat → St → Option (Ex × St)) : CB := fun args h =>
  if args.length = ps.length ∧ ps.all (· < ntmps) then (match assign h.length { env := bindPs ps args env, heap := h } with
    | some (.normal, s1) => (body h.length s1).map fun r => (match r.1 with | .normal => none | ex => some ex, r.2.heap)
    | _ => none) else none

/-- 'id': the block that stands around. -/
def acode (cx : Cx) (ntmps keep R : Nat) (gcs : List AGc) : Code → Option Nat → St → Option (Ex × St)
  | .skip, _, s => some (.normal, s)
  | .region _ ops draw, _, s => aregion cx ntmps ops draw s
  | .seq a b, _, s => (acode cx ntmps keep R gcs a none s).bind fun r => match r with
    | (.normal, s) => acode cx ntmps keep R gcs b none s
    | r => some r
  | .cond c a b, _, s => match ev s.env c with
    | .bool true => acode cx ntmps keep R gcs a none s
    | .bool false => acode cx ntmps keep R gcs b none s
    | _ => none
  | .block id body, _, s => (acode cx ntmps keep R gcs body (some id) s).map fun r => match r with
    | (.exit i, s) => if i = id then (.normal, s) else (.exit i, s)
    | r => r
  | .loop body, id, s => rounds (fun s => (head keep (gcOf gcs id) s).bind fun s => acode cx ntmps keep R gcs body none s) R s
  | .exit id, _, s => some (.exit id, s)
  | .ret, _, s => some (.ret, s)
  | .rangeFunc g ps assign body, _, s => match ev s.env g with
    | .clo gf caps => match cx.fns gf with
      | some fn => if fn.intr.isSome || fn.res.length != 0 || decide (fn.ntmps < caps.length + 1) then none else
        (icode cx fn.ntmps s.heap.length R fn.gcs (roundOf ntmps ps.toList s.env (fun k s1 => acode cx ntmps k R gcs assign none s1) (fun k s1 => acode cx ntmps k R gcs body none s1))
          fn.body none { env := argEnv 0 (.undef :: caps), heap := s.heap, y := [0], stop := none }).bind fun r => match r with
          | (.normal, t) | (.ret, t) => some (match t.stop with | none => Ex.normal | some ex => ex, { env := s.env, heap := t.heap })
          | _ => none
      | none => none
    | _ => none
  | _, _, _ => none

/-! Functions. -/
def resCell (T : TT) (s : St) (a : Tmp) (t : TypeId) : Option V := match lk s.env a, T t with
    | .ptr i r off, some ti => match s.heap.at? i with
      | some (.buf _ rows _ _) => match rows[r]? with
        | some row => partOf ti row off
        | none => none
      | _ => none
    | _, _ => none
/-- An array's variable may stand as rows of one cell. -/
def resArr (T : TT) (s : St) (a : Tmp) (t : TypeId) : Option V := match lk s.env a with
  | .ptr i r off => ((loadA T t (.ptr i r off)).run s.heap []).map fun x => x.1.1
  | _ => none
def resOne (T : TT) (s : St) : ResultVar → Option V
  | .tmp t => some (lk s.env t)
  | .cell a t => match resCell T s a t with
    | some v => some v
    | none => resArr T s a t

def resAll (T : TT) (s : St) : List ResultVar → Option (List V)
  | [] => some []
  | x :: r => (resOne T s x).bind fun v => (resAll T s r).map (v :: ·)

def oneOf : List V → V
  | [v] => v
  | vs => .tup vs

def finish (keep : Nat) (rfz : Bool) (v : V) (h : Heap) : Option (V × Heap) :=
  (if rfz then ((frz v fun v u => Rd.pure (v, u)).run h []).map fun r => (r.1.1, h.puts r.1.2) else some (v, h)).bind fun (v, h) =>
    let l := reach keep h 4096 (upto keep (V.ids v)) []
    if begins keep 0 l then (V.re (idx l) v).bind fun v => (pull h (idx l) l).map fun h => (v, h) else none

/-- slices.Clone. -/
def cloneFn (st bytes : Nat) : Fun := fun args hs => match args, hs with
  | [.fz rows], [] => if st ≠ 0 ∧ rows.all (fun r => r.length == st) ∧ rows.length * bytes ≤ 140737488355328 then some (.ms 0 st 0 rows.length none, [some (.buf st rows false true)]) else none
  | _, _ => none

def runFn (cx : Cx) (fn : AFn) (R : Nat) : Fun := fun args hs =>
  if fn.ntmps < args.length then none else
  (acode cx fn.ntmps hs.length R fn.gcs fn.body none { env := argEnv 0 args, heap := hs.map some }).bind fun r => match r with
    | (.normal, s) | (.ret, s) => (resAll cx.T s fn.res).bind fun vs => finish hs.length fn.rfz (oneOf vs) s.heap
    | _ => none

/-- A call, no deeper than so many. -/
def acall (T : TT) (fns : FuncId → Option AFn) (R : Nat) : Nat → FuncId → Fun
  | 0, _ => fun _ _ => none
  | d + 1, f => fun args hs => match fns f with
    | none => none
    | some fn => match fn.intr with
      | some F => F args hs
      | none => runFn { T, fns, call := acall T fns R d } fn R args hs

end Go.Proofs.YteookeenkjpemaaGreat.R
/- How the machine's values and objects stand in Go's memory. -/
namespace Go.Proofs.YteookeenkjpemaaGreat.R
open Go Go.RowKit

/-- Where an object stands: nowhere yet (a nil slice); in a block of so many rows; a map's block. -/
inductive Loc where
  | nil
  | at (b st cap : Nat)
  | mp (b : Nat)

def Loc.block : Loc → Option Nat
  | .nil => none
  | .at b _ _ => some b
  | .mp b => some b

abbrev Place := Nat → Option Loc
abbrev Froz := Nat → Nat → Prop
def none0 : Place := fun _ => none
def cl (w : World) (b o : Nat) : Option Value := w.cell? ⟨b, o, none⟩

/-- The value 'v' of the machine is Go's value 'cv'. -/
inductive Rel (F : Froz) (c : Nat → Nat → Option Value) : Place → V → Value → Prop where
  | undef (β : Place) (v : Value) : Rel F c β .undef v
  | bool (β : Place) (b : Bool) : Rel F c β (.bool b) (.bool b)
  | int (β : Place) (k : IntKind) (n : Int) : Rel F c β (.int k n) (.int k n)
  | str (β : Place) (s : ByteArray) : Rel F c β (.str s) (.string s)
  | nils (β : Place) : Rel F c β .nils (.slice none 0 0)
  | fz0 (β : Place) (a : Option Addr) (cap : Nat) : Rel F c β (.fz []) (.slice a 0 cap)
  | fz (β : Place) (rows : List (List V)) (b o st cap : Nat) (g : Nat → Nat → Value) (hl : rows.length ≤ cap) (hst : ∀ row ∈ rows, row.length = st)
      (hcell : ∀ row ∈ rows, ∀ v ∈ row, v.isCell = true ∧ v.hasIds = false)
      (hF : ∀ r j, r < rows.length → j < st → F b (o + r * st + j) ∧ c b (o + r * st + j) = some (g r j))
      (h : ∀ r j row v, rows[r]? = some row → row[j]? = some v → Rel F c none0 v (g r j)) : Rel F c β (.fz rows) (.slice (some ⟨b, o, none⟩) rows.length cap)
  | ms0 (β : Place) (i st : Nat) (cap : Option Nat) (h : β i = some .nil) (hc : ∀ k, cap = some k → k = 0) : Rel F c β (.ms i st 0 0 cap) (.slice none 0 0)
  | ms (β : Place) (i st off len : Nat) (cap : Option Nat) (b C cc o : Nat) (h : β i = some (.at b st C)) (hc : off + cc ≤ C) (hlen : len ≤ cc) (hcap : ∀ k, cap = some k → cc = k) (hnone : cap = none → off + cc = C)
      (ho : cc = 0 ∨ o = off * st) : Rel F c β (.ms i st off len cap) (.slice (some ⟨b, o, none⟩) len cc)
  | nilp (β : Place) : Rel F c β .nilp (.pointer none)
  | ptr (β : Place) (i row off b st C : Nat) (h : β i = some (.at b st C)) : Rel F c β (.ptr i row off) (.pointer (some ⟨b, row * st + off, none⟩))
  | el (β : Place) (row : List V) (off b base : Nat) (g : Nat → Value) (hcell : ∀ v ∈ row, v.isCell = true ∧ v.hasIds = false) (hF : ∀ j, j < row.length → F b (base + j) ∧ c b (base + j) = some (g j)) (h : ∀ j v, row[j]? = some v → Rel F c none0 v (g j)) :
      Rel F c β (.el row off) (.pointer (some ⟨b, base + off, none⟩))
  | nilm (β : Place) : Rel F c β .nilm (.map none)
  | map (β : Place) (i b : Nat) (h : β i = some (.mp b)) : Rel F c β (.map i) (.map (some b))
  | nilf (β : Place) : Rel F c β .nilf .nilFunc
  | clo (β : Place) (f : FuncId) (caps : List V) (cvs : Array Value) (hs : cvs.size = caps.length) (h : ∀ j v, caps[j]? = some v → Rel F c β v (cvs.getD j undef)) : Rel F c β (.clo f caps) (.func (.func f) #[] cvs)
  | nili (β : Place) : Rel F c β .nili .nilIface
  | ifc (β : Place) (t : TypeId) (v : V) (cv : Value) (h : Rel F c β v cv) : Rel F c β (.ifc t v) (.iface t cv)
  | agg (β : Place) (cs : List V) (cvs : Array Value) (hs : cvs.size = cs.length) (h : ∀ j v, cs[j]? = some v → Rel F c β v (cvs.getD j undef)) : Rel F c β (.agg cs) (.agg cvs)
  | tup (β : Place) (vs : List V) (cvs : Array Value) (hs : cvs.size = vs.length) (h : ∀ j v, vs[j]? = some v → Rel F c β v (cvs.getD j undef)) : Rel F c β (.tup vs) (.tuple cvs)

/-- Lists of values. -/
structure RelAll (F : Froz) (c : Nat → Nat → Option Value) (β : Place) (vs : List V) (cvs : Array Value) : Prop where
  size : cvs.size = vs.length
  at_ : ∀ j v, vs[j]? = some v → Rel F c β v (cvs.getD j undef)

theorem Rel.mono {F F' : Froz} {c c' : Nat → Nat → Option Value} {β : Place} {v : V} {cv : Value} (hF : ∀ b o, F b o → F' b o ∧ c' b o = c b o) (h : Rel F c β v cv) :
    ∀ {β' : Place}, (∀ i l, β i = some l → β' i = some l) → Rel F' c' β' v cv := by
  induction h with
  | undef β v => intro β' _; exact .undef _ _
  | bool β b => intro β' _; exact .bool _ _
  | int β k n => intro β' _; exact .int _ _ _
  | str β s => intro β' _; exact .str _ _
  | nils β => intro β' _; exact .nils _
  | fz0 β a cap => intro β' _; exact .fz0 _ _ _
  | fz β rows b o st cap g hl hst hcell hF' h ih =>
    intro β' _
    refine .fz _ rows b o st cap g hl hst hcell (fun r j hr hj => ?_) fun r j row v hr hv => ih r j row v hr hv fun i l h => h
    obtain ⟨h1, h2⟩ := hF' r j hr hj
    exact ⟨(hF _ _ h1).1, by rw [(hF _ _ h1).2, h2]⟩
  | ms0 β i st cap h hc => intro β' hb; exact .ms0 _ _ _ _ (hb _ _ h) hc
  | ms β i st off len cap b C cc o h hc hlen hcap hnone ho => intro β' hb; exact .ms _ i st off len cap b C cc o (hb _ _ h) hc hlen hcap hnone ho
  | nilp β => intro β' _; exact .nilp _
  | ptr β i row off b st C h => intro β' hb; exact .ptr _ _ _ _ _ _ C (hb _ _ h)
  | el β row off b base g hcell hF' h ih =>
    intro β' _
    refine .el _ row off b base g hcell (fun j hj => ?_) fun j v hv => ih j v hv fun i l h => h
    obtain ⟨h1, h2⟩ := hF' j hj
    exact ⟨(hF _ _ h1).1, by rw [(hF _ _ h1).2, h2]⟩
  | nilm β => intro β' _; exact .nilm _
  | map β i b h => intro β' hb; exact .map _ _ _ (hb _ _ h)
  | nilf β => intro β' _; exact .nilf _
  | clo β f caps cvs hs h ih => intro β' hb; exact .clo _ _ _ _ hs fun j v hv => ih j v hv hb
  | nili β => intro β' _; exact .nili _
  | ifc β t v cv h ih => intro β' hb; exact .ifc _ _ _ _ (ih hb)
  | agg β cs cvs hs h ih => intro β' hb; exact .agg _ _ _ hs fun j v hv => ih j v hv hb
  | tup β vs cvs hs h ih => intro β' hb; exact .tup _ _ _ hs fun j v hv => ih j v hv hb

theorem RelAll.mono {F F' : Froz} {c c' : Nat → Nat → Option Value} {β β' : Place} {vs : List V} {cvs : Array Value} (hF : ∀ b o, F b o → F' b o ∧ c' b o = c b o) (hb : ∀ i l, β i = some l → β' i = some l) (h : RelAll F c β vs cvs) :
    RelAll F' c' β' vs cvs := ⟨h.size, fun j v hv => (h.at_ j v hv).mono hF hb⟩

/-! Numbers turned. -/
theorem reAll_get {f : Nat → Option Nat} : ∀ {l l' : List V}, V.reAll f l = some l' → l'.length = l.length ∧ ∀ (j : Nat) (v' : V), l'[j]? = some v' → ∃ v, l[j]? = some v ∧ V.re f v = some v'
  | [], l', h => by
    simp only [V.reAll, Option.some.injEq] at h
    subst h
    exact ⟨rfl, by simp⟩
  | v :: r, l', h => by
    simp only [V.reAll, Option.bind_eq_some_iff, Option.map_eq_some_iff] at h
    obtain ⟨v', hv, r', hr, rfl⟩ := h
    obtain ⟨hl, hg⟩ := reAll_get hr
    refine ⟨by simp [hl], fun j u hu => ?_⟩
    cases j with
    | zero => exact ⟨v, rfl, by simpa using hu ▸ hv⟩
    | succ j => exact hg j u (by simpa using hu)

theorem Rel.re {F : Froz} {c : Nat → Nat → Option Value} {f : Nat → Option Nat} {β : Place} {v : V} {cv : Value} (h : Rel F c β v cv) :
    ∀ {β' : Place} {v' : V}, (∀ i j, f i = some j → β' j = β i) → V.re f v = some v' → Rel F c β' v' cv := by
  induction h with
  | ms0 β i st cap h hc =>
    intro β' v' hb hv
    simp only [V.re, Option.map_eq_some_iff] at hv
    obtain ⟨j, hj, rfl⟩ := hv
    exact .ms0 _ _ _ _ (by rw [hb _ _ hj, h]) hc
  | ms β i st off len cap b C cc o h hc hlen hcap hnone ho =>
    intro β' v' hb hv
    simp only [V.re, Option.map_eq_some_iff] at hv
    obtain ⟨j, hj, rfl⟩ := hv
    exact .ms _ j st off len cap b C cc o (by rw [hb _ _ hj, h]) hc hlen hcap hnone ho
  | ptr β i row off b st C h =>
    intro β' v' hb hv
    simp only [V.re, Option.map_eq_some_iff] at hv
    obtain ⟨j, hj, rfl⟩ := hv
    exact .ptr _ _ _ _ _ _ C (by rw [hb _ _ hj, h])
  | map β i b h =>
    intro β' v' hb hv
    simp only [V.re, Option.map_eq_some_iff] at hv
    obtain ⟨j, hj, rfl⟩ := hv
    exact .map _ _ _ (by rw [hb _ _ hj, h])
  | clo β g caps cvs hs h ih =>
    intro β' v' hb hv
    simp only [V.re, Option.map_eq_some_iff] at hv
    obtain ⟨l, hl, rfl⟩ := hv
    obtain ⟨hlen, hget⟩ := reAll_get hl
    exact .clo _ _ _ _ (by omega) fun j v hv => by
      obtain ⟨u, hu, hre⟩ := hget j v hv
      exact ih j u hu hb hre
  | agg β cs cvs hs h ih =>
    intro β' v' hb hv
    simp only [V.re, Option.map_eq_some_iff] at hv
    obtain ⟨l, hl, rfl⟩ := hv
    obtain ⟨hlen, hget⟩ := reAll_get hl
    exact .agg _ _ _ (by omega) fun j v hv => by
      obtain ⟨u, hu, hre⟩ := hget j v hv
      exact ih j u hu hb hre
  | tup β cs cvs hs h ih =>
    intro β' v' hb hv
    simp only [V.re, Option.map_eq_some_iff] at hv
    obtain ⟨l, hl, rfl⟩ := hv
    obtain ⟨hlen, hget⟩ := reAll_get hl
    exact .tup _ _ _ (by omega) fun j v hv => by
      obtain ⟨u, hu, hre⟩ := hget j v hv
      exact ih j u hu hb hre
  | ifc β t v cv h ih =>
    intro β' v' hb hv
    simp only [V.re, Option.map_eq_some_iff] at hv
    obtain ⟨u, hu, rfl⟩ := hv
    exact .ifc _ _ _ _ (ih hb hu)
  | undef β v => intro β' v' _ hv; cases hv; exact .undef _ _
  | bool β b => intro β' v' _ hv; cases hv; exact .bool _ _
  | int β k n => intro β' v' _ hv; cases hv; exact .int _ _ _
  | str β s => intro β' v' _ hv; cases hv; exact .str _ _
  | nils β => intro β' v' _ hv; cases hv; exact .nils _
  | fz0 β a cap => intro β' v' _ hv; cases hv; exact .fz0 _ _ _
  | fz β rows b o st cap g hl hst hcell hF' h ih => intro β' v' _ hv; cases hv; exact .fz _ rows b o st cap g hl hst hcell hF' h
  | nilp β => intro β' v' _ hv; cases hv; exact .nilp _
  | el β row off b base g hcell hF' h ih => intro β' v' _ hv; cases hv; exact .el _ row off b base g hcell hF' h
  | nilm β => intro β' v' _ hv; cases hv; exact .nilm _
  | nilf β => intro β' v' _ hv; cases hv; exact .nilf _
  | nili β => intro β' v' _ hv; cases hv; exact .nili _

/-- What leads to no object does not hang on where objects stand. -/
theorem anyIds_get : ∀ {l : List V}, V.anyIds l = false → ∀ (j : Nat) (v : V), l[j]? = some v → v.hasIds = false
  | [], _, j, v, hv => by simp at hv
  | x :: r, h, j, v, hv => by
    simp only [V.anyIds, Bool.or_eq_false_iff] at h
    cases j with
    | zero => simp only [List.getElem?_cons_zero, Option.some.injEq] at hv; exact hv ▸ h.1
    | succ j => exact anyIds_get h.2 j v (by simpa using hv)

theorem Rel.pure {F : Froz} {c : Nat → Nat → Option Value} {β : Place} {v : V} {cv : Value} (h : Rel F c β v cv) : v.hasIds = false → ∀ β', Rel F c β' v cv := by
  induction h with
  | ms0 β i st cap h hc => intro hi; simp [V.hasIds] at hi
  | ms β i st off len cap b C cc o h hc hlen hcap hnone ho => intro hi; simp [V.hasIds] at hi
  | ptr β i row off b st C h => intro hi; simp [V.hasIds] at hi
  | map β i b h => intro hi; simp [V.hasIds] at hi
  | clo β g caps cvs hs h ih => intro hi β'; exact .clo _ _ _ _ hs fun j v hv => ih j v hv (anyIds_get (by simpa [V.hasIds] using hi) j v hv) β'
  | agg β cs cvs hs h ih => intro hi β'; exact .agg _ _ _ hs fun j v hv => ih j v hv (anyIds_get (by simpa [V.hasIds] using hi) j v hv) β'
  | tup β cs cvs hs h ih => intro hi β'; exact .tup _ _ _ hs fun j v hv => ih j v hv (anyIds_get (by simpa [V.hasIds] using hi) j v hv) β'
  | ifc β t v cv h ih => intro hi β'; exact .ifc _ _ _ _ (ih (by simpa [V.hasIds] using hi) β')
  | undef β v => intro _ _; exact .undef _ _
  | bool β b => intro _ _; exact .bool _ _
  | int β k n => intro _ _; exact .int _ _ _
  | str β s => intro _ _; exact .str _ _
  | nils β => intro _ _; exact .nils _
  | fz0 β a cap => intro _ _; exact .fz0 _ _ _
  | fz β rows b o st cap g hl hst hcell hF' h ih => intro _ _; exact .fz _ rows b o st cap g hl hst hcell hF' h
  | nilp β => intro _ _; exact .nilp _
  | el β row off b base g hcell hF' h ih => intro _ _; exact .el _ row off b base g hcell hF' h
  | nilm β => intro _ _; exact .nilm _
  | nilf β => intro _ _; exact .nilf _
  | nili β => intro _ _; exact .nili _

/-- A cell's value is one of a cell. -/
def oneCell : Value → Bool
  | .agg _ | .tuple _ => false
  | _ => true

theorem Rel.one {F : Froz} {c : Nat → Nat → Option Value} {β : Place} {v : V} {cv : Value} (h : Rel F c β v cv) (hv : v.isCell = true) : oneCell cv = true := by
  cases h <;> simp_all [V.isCell, oneCell]

theorem Rel.cells {F : Froz} {c : Nat → Nat → Option Value} {β : Place} {v : V} {cv : Value} (h : Rel F c β v cv) (hv : v.cells.all V.isCell = true) :
    RelAll F c β v.cells cv.cells := by
  cases h with
  | agg _ cs cvs hs h => exact ⟨hs, h⟩
  | undef => simp [V.cells, V.isCell] at hv
  | tup => simp [V.cells, V.isCell] at hv
  | _ =>
    refine ⟨rfl, fun j v hj => ?_⟩
    cases j with
    | zero =>
      simp only [V.cells, List.getElem?_cons_zero, Option.some.injEq] at hj
      subst hj
      constructor <;> assumption
    | succ j => simp [V.cells] at hj

/-! The heap of the machine. -/
theorem at?_put : ∀ (h : Heap) (i : Nat) (o : Option Ob) (j : Nat), (h.put i o).at? j = if j = i then o else h.at? j
  | [], 0, o, 0 => rfl
  | [], 0, o, j + 1 => by simp [Heap.put, Heap.at?]
  | [], i + 1, o, 0 => by simp [Heap.put, Heap.at?]
  | [], i + 1, o, j + 1 => by simp [Heap.put, Heap.at?, at?_put [] i o j]
  | x :: h, 0, o, 0 => rfl
  | x :: h, 0, o, j + 1 => by simp [Heap.put, Heap.at?]
  | x :: h, i + 1, o, 0 => by simp [Heap.put, Heap.at?]
  | x :: h, i + 1, o, j + 1 => by simp [Heap.put, Heap.at?, at?_put h i o j]

theorem at?_lt : ∀ {h : Heap} {i : Nat} {o : Ob}, h.at? i = some o → i < h.length
  | [], i, o, h => by simp [Heap.at?] at h
  | x :: h, 0, o, _ => by simp
  | x :: h, i + 1, o, hh => by simp [Heap.at?] at hh; have := at?_lt hh; simp; omega

theorem at?_eq : ∀ (h : Heap) (i : Nat), h.at? i = (h[i]?).join
  | [], i => by simp [Heap.at?]
  | x :: h, 0 => by simp [Heap.at?]
  | x :: h, i + 1 => by simp [Heap.at?, at?_eq h i]

/-- Cells that are there, and may be written; what is frozen of their block is a row of cells. -/
structure Thr (w : World) (b n C : Nat) : Prop where
  t : w.there b 0 n
  fr : ∀ c e lo hi, w.heap[b]? = some (.cells c e (lo, hi)) → lo ≤ hi
  sm : C ≤ 9223372036854775807

/-- What an object is in memory. -/
inductive ObRel (F : Froz) (w : World) (β : Place) : Loc → Ob → Prop where
  | nil (st : Nat) (frz pure : Bool) : ObRel F w β .nil (.buf st [] frz pure)
  | buf (b st C : Nat) (rows : List (List V)) (frz pure : Bool) (hst : 0 < st) (ht : Thr w b (C * st) C) (hC : rows.length ≤ C)
      (hlen : ∀ row ∈ rows, row.length = st) (hcell : ∀ row ∈ rows, ∀ v ∈ row, v.isCell = true)
      (hpure : pure = true → ∀ row ∈ rows, ∀ v ∈ row, v.hasIds = false)
      (h : ∀ r j row v, rows[r]? = some row → row[j]? = some v → ∃ cv, cl w b (r * st + j) = some cv ∧ Rel F (cl w) β v cv) : ObRel F w β (.at b st C) (.buf st rows frz pure)
  | mp (b : Nat) (es : List (V × V)) (pure : Bool) (ces : Array MapEntry) (clock : Nat) (hw : w.heap[b]? = some (.map ces clock)) (hs : ces.size = es.length)
      (hpure : pure = true → ∀ e ∈ es, e.1.hasIds = false ∧ e.2.hasIds = false)
      (h : ∀ j e, es[j]? = some e → Rel F (cl w) β e.1 (ces.getD j default).key ∧ Rel F (cl w) β e.2 (ces.getD j default).val) : ObRel F w β (.mp b) (.mp es pure)

/-- Where a call began: the world; the blocks that stay as they are; what was frozen. -/
structure Base where
  w0 : World
  K : Nat → Prop
  F0 : Froz

/-- The world 'w' in a call that began at 'B': the objects of 'H' stand where 'β' says; what 'F' holds is never written again. -/
structure Inv (B : Base) (β : Place) (F : Froz) (H : Heap) (w : World) : Prop where
  os : w.os = B.w0.os
  tape : w.tape = B.w0.tape
  output : w.output = B.w0.output
  size : B.w0.heap.size ≤ w.heap.size
  keep : ∀ b, B.K b → w.heap[b]? = B.w0.heap[b]?
  kin : ∀ b, B.K b → b < B.w0.heap.size
  inj : ∀ i j oi oj l l' b, H.at? i = some oi → H.at? j = some oj → β i = some l → β j = some l' → l.block = some b → l'.block = some b → i = j
  fresh : ∀ i l b, β i = some l → l.block = some b → b < w.heap.size ∧ ¬ B.K b
  obs : ∀ i o, H.at? i = some o → ∃ l, β i = some l ∧ ObRel F w β l o
  froz : ∀ b o, F b o → b < w.heap.size ∧ (B.K b → B.F0 b o)
  prot : ∀ i b st C st' rows frz pure, β i = some (.at b st C) → H.at? i = some (.buf st' rows frz pure) → ∀ o, F b o → frz = true ∧ o < rows.length * st'

/-- One world behind another one, as far as values are concerned: nothing frozen has turned. -/
structure Ext (β β' : Place) (F F' : Froz) (w w' : World) : Prop where
  place : ∀ i l, β i = some l → β' i = some l
  froz : ∀ b o, F b o → F' b o ∧ cl w' b o = cl w b o

theorem Ext.refl (β : Place) (F : Froz) (w : World) : Ext β β F F w w := ⟨fun _ _ h => h, fun _ _ h => ⟨h, rfl⟩⟩
theorem Ext.trans {β β' β'' : Place} {F F' F'' : Froz} {w w' w'' : World} (h : Ext β β' F F' w w') (k : Ext β' β'' F' F'' w' w'') : Ext β β'' F F'' w w'' :=
  ⟨fun i l hl => k.place i l (h.place i l hl), fun b o hf => ⟨(k.froz b o (h.froz b o hf).1).1, by rw [(k.froz b o (h.froz b o hf).1).2, (h.froz b o hf).2]⟩⟩
theorem Ext.rel {β β' : Place} {F F' : Froz} {w w' : World} (h : Ext β β' F F' w w') {v : V} {cv : Value} (hr : Rel F (cl w) β v cv) : Rel F' (cl w') β' v cv := hr.mono h.froz h.place
theorem Ext.all {β β' : Place} {F F' : Froz} {w w' : World} (h : Ext β β' F F' w w') {vs : List V} {cvs : Array Value} (hr : RelAll F (cl w) β vs cvs) : RelAll F' (cl w') β' vs cvs := hr.mono h.froz h.place

/-- The slots. -/
def EnvRel (F : Froz) (w : World) (β : Place) (e : Env) (tmps : Array Value) : Prop := ∀ t, Rel F (cl w) β (lk e t) (tmps.getD t undef)

theorem Ext.env {β β' : Place} {F F' : Froz} {w w' : World} (h : Ext β β' F F' w w') {e : Env} {tmps : Array Value} (hr : EnvRel F w β e tmps) : EnvRel F' w' β' e tmps := fun t => h.rel (hr t)

theorem lk_cons (t u : Nat) (v : V) (e : Env) : lk ((t, v) :: e) u = if t = u then v else lk e u := by
  show (bif Nat.beq t u then v else lk e u) = _
  by_cases h : t = u
  · subst h; simp
  · have hb : Nat.beq t u = false := by
      cases hb : Nat.beq t u
      · rfl
      · exact absurd (Nat.eq_of_beq_eq_true hb) h
    simp [h, hb]

end Go.Proofs.YteookeenkjpemaaGreat.R
/- Operations that turn nothing in memory. -/
namespace Go.Proofs.YteookeenkjpemaaGreat.R
open Go Go.RowKit

/-! What the table of types tells is so. -/
def zeroOK : V → Value → Bool
  | .bool b, .bool b' => b == b'
  | .int k n, .int k' n' => decide (k = k') && decide (n = n')
  | .str s, .string s' => decide (s = s')
  | .nils, .slice none 0 0 => true
  | .nilp, .pointer none => true
  | .nilm, .map none => true
  | .nilf, .nilFunc => true
  | .nili, .nilIface => true
  | _, _ => false
def zerosOK : List V → List Value → Bool
  | [], [] => true
  | v :: r, z :: s => zeroOK v z && zerosOK r s
  | _, _ => false
def zOK (v : V) (z : Value) : Bool := match v, z with
  | .agg cs, .agg cvs => zerosOK cs cvs.toList
  | v, z => zeroOK v z
def kdOK : TK → TypeDesc → Bool
  | .bool, .bool => true
  | .str, .string => true
  | .int k, .int k' => decide (k = k')
  | .ptr, .pointer _ => true
  | .slice e, .slice e' => decide (e = e')
  | .map k e, .map k' e' => decide (k = k') && decide (e = e')
  | .struct fs, .struct Fs => decide (fs = Fs.toList.map fun f => (f.offset, f.type)) && Fs.toList.all fun f => f.name != "_"
  | .arr n e, .array n' e' => decide (n = n') && decide (e = e')
  | .func, .func .. => true
  | .uptr, .unsafePointer => true
  | .iface, .interface .. => true
  | _, _ => false
def tiOK (P : Program) (t : TypeId) (ti : TI) : Bool := match P.info? t, P.underlying t with
  | some i, some d => decide (i.size = ti.size) && decide (i.bytes = ti.bytes) && (match i.zero with | some z => zOK ti.zero z | none => false) && kdOK ti.kd d && decide (ti.zero.cells.length = ti.size) &&
      (!ti.agg || (!P.stoodInHeld t && !P.eqGuardType P.depth t)) && (ti.agg == (match ti.zero with | .agg _ => true | _ => false))
  | _, _ => false
def TOK (P : Program) (T : TT) : Prop := ∀ t ti, T t = some ti → tiOK P t ti = true

theorem zeroOK_rel {v : V} {z : Value} (h : zeroOK v z = true) (F : Froz) (c : Nat → Nat → Option Value) (β : Place) : Rel F c β v z ∧ v.isCell = true ∧ v.hasIds = false := by
  unfold zeroOK at h
  split at h <;> simp_all [V.isCell, V.hasIds] <;> constructor

theorem zerosOK_rel : ∀ {l : List V} {m : List Value}, zerosOK l m = true → l.length = m.length ∧ ∀ (j : Nat) (v : V), l[j]? = some v → ∃ z, m[j]? = some z ∧ zeroOK v z = true
  | [], [], _ => ⟨rfl, by simp⟩
  | v :: r, z :: s, h => by
    simp only [zerosOK, Bool.and_eq_true] at h
    obtain ⟨hl, hg⟩ := zerosOK_rel h.2
    refine ⟨by simp [hl], fun j u hu => ?_⟩
    cases j with
    | zero =>
      simp only [List.getElem?_cons_zero, Option.some.injEq] at hu
      exact ⟨z, rfl, hu ▸ h.1⟩
    | succ j => exact hg j u (by simpa using hu)
  | [], z :: s, h => by simp [zerosOK] at h
  | v :: r, [], h => by simp [zerosOK] at h

theorem zOK_rel {v : V} {z : Value} (h : zOK v z = true) (F : Froz) (c : Nat → Nat → Option Value) (β : Place) : Rel F c β v z ∧ v.cells.all V.isCell = true ∧ V.anyIds v.cells = false := by
  have anyF : ∀ l : List V, (∀ v ∈ l, v.hasIds = false) → V.anyIds l = false := by
    intro l
    induction l with
    | nil => intro _; rfl
    | cons x r ih => intro hl; simp only [V.anyIds, Bool.or_eq_false_iff]; exact ⟨hl x (.head _), ih fun v hv => hl v (.tail _ hv)⟩
  unfold zOK at h
  split at h
  · rename_i cs cvs
    obtain ⟨hl, hg⟩ := zerosOK_rel h
    refine ⟨.agg _ _ _ (by simpa using hl.symm) fun j v hv => ?_, ?_, ?_⟩
    · obtain ⟨z, hz, hk⟩ := hg j v hv
      have hz' : cvs[j]? = some z := by simpa using hz
      rw [Array.getD_eq_getD_getElem?, hz']
      exact (zeroOK_rel hk F c β).1
    · simp only [V.cells, List.all_eq_true]
      intro v hv
      obtain ⟨j, hj⟩ := List.mem_iff_getElem?.1 hv
      obtain ⟨z, hz, hk⟩ := hg j v hj
      exact (zeroOK_rel hk F c β).2.1
    · refine anyF _ fun v hv => ?_
      obtain ⟨j, hj⟩ := List.mem_iff_getElem?.1 hv
      obtain ⟨z, hz, hk⟩ := hg j v hj
      exact (zeroOK_rel hk F c β).2.2
  · have := zeroOK_rel h F c β
    refine ⟨this.1, ?_⟩
    have hc : v.cells = [v] := by
      cases v <;> first | rfl | (simp [V.isCell] at this)
    rw [hc]
    simp [this.2.1, V.anyIds, this.2.2]

structure Told (P : Program) (t : TypeId) (ti : TI) : Prop where
  info : ∃ i z, P.info? t = some i ∧ i.size = ti.size ∧ i.bytes = ti.bytes ∧ i.zero = some z ∧ zOK ti.zero z = true
  und : ∃ d, P.underlying t = some d ∧ kdOK ti.kd d = true
  zlen : ti.zero.cells.length = ti.size
  held : ti.agg = true → P.stoodInHeld t = false ∧ P.eqGuardType P.depth t = false
  zagg : ti.agg = true ↔ ∃ cs, ti.zero = .agg cs

theorem TOK.told {P : Program} {T : TT} (hT : TOK P T) {t : TypeId} {ti : TI} (h : T t = some ti) : Told P t ti := by
  have hk := hT t ti h
  unfold tiOK at hk
  split at hk
  · rename_i i d hi hd
    simp only [Bool.and_eq_true, decide_eq_true_eq] at hk
    obtain ⟨⟨⟨⟨⟨⟨h1, h2⟩, h3⟩, h4⟩, h5⟩, h6⟩, h7⟩ := hk
    split at h3
    · rename_i z hz
      refine ⟨⟨i, z, hi, h1, h2, hz, h3⟩, ⟨d, hd, h4⟩, h5, fun ha => ?_, ?_⟩
      · simp [ha] at h6
        exact h6
      · simp only [beq_iff_eq] at h7
        constructor
        · intro ha
          rw [ha] at h7
          split at h7
          · rename_i cs hcs
            exact ⟨cs, hcs⟩
          · cases h7
        · rintro ⟨cs, hcs⟩
          rw [h7, hcs]
    · cases h3
  · cases hk

section
variable {P : Program} {t : TypeId} {ti : TI} (h : Told P t ti)
include h
theorem Told.sizeOf (w : World) : (sizeOf t).run P w = .ok ti.size w := by
  obtain ⟨i, z, hi, hs, _⟩ := h.info
  simp [Go.sizeOf, typeInfo, hi, hs]
theorem Told.zero (w : World) : ∃ z, (zeroValue t).run P w = .ok z w ∧ zOK ti.zero z = true := by
  obtain ⟨i, z, hi, hs, _, hz, hk⟩ := h.info
  exact ⟨z, by simp [Go.zeroValue, typeInfo, hi, hz], hk⟩
theorem Told.isAgg (w : World) : (isAgg t).run P w = .ok ti.agg w := by
  obtain ⟨d, hd, hk⟩ := h.und
  unfold Go.isAgg TI.agg
  rw [Sem.run_bind, run_underlying hd w]
  unfold kdOK at hk
  split at hk <;> simp_all
theorem Told.row (ha : ti.agg = true) : ∃ d, P.underlying t = some d ∧ d.isRow = true := by
  obtain ⟨d, hd, hk⟩ := h.und
  refine ⟨d, hd, ?_⟩
  unfold TI.agg at ha
  split at ha
  · rename_i fs hfs
    rw [hfs] at hk
    unfold kdOK at hk
    split at hk <;> simp_all
  · rename_i n e hfs
    rw [hfs] at hk
    unfold kdOK at hk
    split at hk <;> simp_all
  · cases ha
theorem Told.slice {e : TypeId} (hk : ti.kd = .slice e) : P.underlying t = some (.slice e) := by
  obtain ⟨d, hd, ho⟩ := h.und
  rw [hk] at ho
  unfold kdOK at ho
  split at ho <;> simp_all
theorem Told.map {k e : TypeId} (hk : ti.kd = .map k e) : P.underlying t = some (.map k e) := by
  obtain ⟨d, hd, ho⟩ := h.und
  rw [hk] at ho
  unfold kdOK at ho
  split at ho <;> simp_all
theorem Told.int {k : IntKind} (hk : ti.kd = .int k) : P.underlying t = some (.int k) := by
  obtain ⟨d, hd, ho⟩ := h.und
  rw [hk] at ho
  unfold kdOK at ho
  split at ho <;> simp_all
theorem Told.str (hk : ti.kd = .str) : P.underlying t = some .string := by
  obtain ⟨d, hd, ho⟩ := h.und
  rw [hk] at ho
  unfold kdOK at ho
  split at ho <;> simp_all
theorem Told.arr {n : Nat} {e : TypeId} (hk : ti.kd = .arr n e) : P.underlying t = some (.array n e) := by
  obtain ⟨d, hd, ho⟩ := h.und
  rw [hk] at ho
  unfold kdOK at ho
  split at ho <;> simp_all
theorem Told.bool (hk : ti.kd = .bool) : P.underlying t = some .bool := by
  obtain ⟨d, hd, ho⟩ := h.und
  rw [hk] at ho
  unfold kdOK at ho
  split at ho <;> simp_all
theorem Told.ptr (hk : ti.kd = .ptr) : ∃ e, P.underlying t = some (.pointer e) := by
  obtain ⟨d, hd, ho⟩ := h.und
  rw [hk] at ho
  unfold kdOK at ho
  split at ho <;> simp_all
theorem Told.func (hk : ti.kd = .func) : ∃ a b c, P.underlying t = some (.func a b c) := by
  obtain ⟨d, hd, ho⟩ := h.und
  rw [hk] at ho
  unfold kdOK at ho
  split at ho <;> simp_all
theorem Told.iface (hk : ti.kd = .iface) : ∃ a, P.underlying t = some (.interface a) := by
  obtain ⟨d, hd, ho⟩ := h.und
  rw [hk] at ho
  unfold kdOK at ho
  split at ho <;> simp_all
theorem Told.struct {fs : List (Nat × TypeId)} (hk : ti.kd = .struct fs) : ∃ Fs : Array Field, P.underlying t = some (.struct Fs) ∧ fs = Fs.toList.map (fun f => (f.offset, f.type)) ∧ ∀ f ∈ Fs.toList, f.name ≠ "_" := by
  obtain ⟨d, hd, ho⟩ := h.und
  rw [hk] at ho
  unfold kdOK at ho
  split at ho <;> simp_all
  intro f hf
  obtain ⟨i, hi, rfl⟩ := Array.mem_iff_getElem.1 hf
  exact ho.2 i hi
end

/-! Operands. -/
theorem ofCell_rel (F : Froz) (c : Nat → Nat → Option Value) (β : Place) (v : Value) : Rel F c β (ofCell v) v := by
  unfold ofCell
  split <;> constructor

theorem ofConst_rel (F : Froz) (c : Nat → Nat → Option Value) (β : Place) (v : Value) : Rel F c β (ofConst v) v := by
  unfold ofConst
  split
  · rename_i cs
    refine .agg _ _ _ (by simp) fun j v hv => ?_
    simp only [List.getElem?_map, Option.map_eq_some_iff] at hv
    obtain ⟨u, hu, rfl⟩ := hv
    have hu' : cs[j]? = some u := by simpa using hu
    rw [Array.getD_eq_getD_getElem?, hu']
    exact ofCell_rel F c β u
  · exact ofCell_rel F c β v

theorem ev_rel {F : Froz} {w : World} {β : Place} {e : Env} {a : Act} (he : EnvRel F w β e a.tmps) (x : Operand) : Rel F (cl w) β (ev e x) (a.eval x) := by
  cases x with
  | tmp t => exact he t
  | const v => exact ofConst_rel _ _ _ v
  | global g => exact .undef _ _
  | func f => exact .clo _ _ _ _ rfl (by simp)

theorem evs_rel {F : Froz} {w : World} {β : Place} {e : Env} {a : Act} (he : EnvRel F w β e a.tmps) (xs : Array Operand) : RelAll F (cl w) β (evs e xs.toList) (xs.map a.eval) := by
  have key : ∀ l : List Operand, (evs e l).length = l.length ∧ ∀ (j : Nat) (v : V), (evs e l)[j]? = some v → ∃ x, l[j]? = some x ∧ v = ev e x := by
    intro l
    induction l with
    | nil => exact ⟨rfl, by simp [evs]⟩
    | cons x r ih =>
      refine ⟨by simp [evs, ih.1], fun j v hv => ?_⟩
      cases j with
      | zero => simp [evs] at hv; exact ⟨x, rfl, hv.symm⟩
      | succ j => exact ih.2 j v (by simpa [evs] using hv)
  obtain ⟨hl, hg⟩ := key xs.toList
  refine ⟨by simp [hl], fun j v hv => ?_⟩
  obtain ⟨x, hx, rfl⟩ := hg j v hv
  have hx' : xs[j]? = some x := by simpa using hx
  rw [Array.getD_eq_getD_getElem?, Array.getElem?_map, hx']
  exact ev_rel he x

theorem parts_rel {e : Env} : ∀ (l : List (Nat × Operand)), (parts e l).length = l.length ∧ ∀ (j : Nat) (p : Nat × V), (parts e l)[j]? = some p → ∃ q, l[j]? = some q ∧ p = (q.1, ev e q.2)
  | [] => ⟨rfl, by simp [parts]⟩
  | (i, x) :: r => by
    obtain ⟨hl, hg⟩ := parts_rel (e := e) r
    refine ⟨by simp [parts, hl], fun j p hp => ?_⟩
    cases j with
    | zero => simp [parts] at hp; exact ⟨(i, x), rfl, hp.symm⟩
    | succ j => exact hg j p (by simpa [parts] using hp)

/-- An operation's answer. -/
theorem wp_value {P : Program} {o : Oper} {a : Act} {w w' : World} {next : Act → World → Prop} {Q : Exit → Act → World → Prop} {cv : Value} (h : (execOp a.eval o).run P w = .ok (.value cv) w') (hn : next (a.put o.dst cv) w') : o.wp P a w next Q := by
  unfold Oper.wp
  rw [h]
  exact hn
theorem wp_skips {P : Program} {o : Oper} {a : Act} {w w' : World} {next : Act → World → Prop} {Q : Exit → Act → World → Prop} (h : (execOp a.eval o).run P w = .ok .skip w') (hn : next (a.put o.dst undef) w') : o.wp P a w next Q := by
  unfold Oper.wp
  rw [h]
  exact hn

/-! One by one. -/
section
variable {P : Program} {T : TT} (hT : TOK P T) {F : Froz} {w : World} {β : Place} {H : Heap} {l l' : List Nat} {v : V} {u : Upd}

theorem ok_run {x : Option V} (h : (ok x).run H l = some ((v, u), l')) : x = some v ∧ u = [] ∧ l' = l := by
  unfold ok at h
  split at h <;> simp_all [Rd.run]

theorem getD_agg {cvs : Array Value} {j : Nat} (h : j < cvs.size) : cvs.getD j undef = cvs[j] := by
  simp [Array.getD, h]

/-- A part of cells, as a value of its type. -/
theorem partOf_rel {t : TypeId} {ti : TI} (ht : Told P t ti) {cs : List V} {cvs : Array Value} {o : Nat} (hs : cvs.size = cs.length) (hr : ∀ (j : Nat) (v : V), cs[j]? = some v → Rel F (cl w) β v (cvs.getD j undef))
    (hp : partOf ti cs o = some v) : ∃ cv, (part t cvs o).run P w = .ok cv w ∧ Rel F (cl w) β v cv := by
  unfold partOf at hp
  unfold part
  rw [Sem.run_bind, ht.isAgg w]
  simp only [Result.andThen_ok]
  split at hp
  · rename_i ha
    split at hp
    · rename_i hlen
      cases hp
      refine ⟨.agg (cvs.extract o (o + ti.size)), by simp [ha, ht.sizeOf w], .agg _ _ _ (by simp; omega) fun j v hv => ?_⟩
      rw [List.getElem?_take] at hv
      split at hv
      · rename_i hj
        rw [List.getElem?_drop] at hv
        have := hr _ _ hv
        rwa [show (cvs.extract o (o + ti.size)).getD j undef = cvs.getD (o + j) undef by
          rw [Array.getD_eq_getD_getElem?, Array.getD_eq_getD_getElem?, Array.getElem?_extract]
          rw [if_pos (by omega)]]
      · cases hv
    · cases hp
  · rename_i ha
    have hlt : o < cs.length := (List.getElem?_eq_some_iff.1 hp).1
    have hcv : cvs[o]? = some (cvs[o]'(by omega)) := by simp
    refine ⟨cvs[o]'(by omega), by simp [ha, hcv], ?_⟩
    have := hr _ _ hp
    rwa [getD_agg (by omega)] at this

include hT in
theorem field_ok {t : TypeId} {x : V} {f : Nat} {cv : Value} (h : (fieldR T t x f).run H l = some ((v, u), l')) (hx : Rel F (cl w) β x cv) :
    ∃ cw, (Instr.field t cv f).run P w = .ok cw w ∧ Rel F (cl w) β v cw ∧ u = [] := by
  unfold fieldR at h
  split at h
  · rename_i ti' ht
    split at h
    · rename_i fs hk
      split at h
      · rename_i o ft hf
        split at h
        · rename_i ti cs htf
          obtain ⟨hp, rfl, rfl⟩ := ok_run h
          obtain ⟨Fs, hu, rfl, _⟩ := (hT.told ht).struct hk
          cases hx with
          | agg _ _ cvs hs hr =>
            simp only [List.getElem?_map, Option.map_eq_some_iff] at hf
            obtain ⟨f', hf', he⟩ := hf
            cases he
            obtain ⟨cw, hrun, hrel⟩ := partOf_rel (hT.told htf) hs hr hp
            refine ⟨cw, ?_, hrel, rfl⟩
            have hf'' : Fs[f]? = some f' := by simpa using hf'
            simp [Instr.field, run_underlying hu, hf'', asAgg, hrun]
        · simp [Rd.run] at h
      · simp [Rd.run] at h
    · simp [Rd.run] at h
  · simp [Rd.run] at h

theorem pick_ok {c a b : V} {cc ca cb : Value} (h : (pickR c a b).run H l = some ((v, u), l')) (hc : Rel F (cl w) β c cc) (ha : Rel F (cl w) β a ca) (hb : Rel F (cl w) β b cb) :
    ∃ d : Bool, cc = .bool d ∧ Rel F (cl w) β v (if d then ca else cb) ∧ u = [] := by
  unfold pickR at h
  split at h
  · rename_i d
    simp only [Rd.run, Option.some.injEq, Prod.mk.injEq] at h
    obtain ⟨⟨rfl, rfl⟩, _⟩ := h
    cases hc
    exact ⟨d, rfl, by cases d <;> simp [ha, hb], rfl⟩
  · simp [Rd.run] at h

theorem nilCheck_ok {x : V} {cv : Value} (h : (nilCheckR x).run H l = some ((v, u), l')) (hx : Rel F (cl w) β x cv) :
    v = x ∧ u = [] ∧ ((∃ a, cv = .pointer (some a)) ∨ ∃ f cs, cv = .func (.func f) #[] cs) := by
  unfold nilCheckR at h
  split at h <;> simp only [Rd.run, Option.some.injEq, Prod.mk.injEq, reduceCtorEq] at h
  · obtain ⟨⟨rfl, rfl⟩, _⟩ := h
    cases hx; exact ⟨rfl, rfl, .inl ⟨_, rfl⟩⟩
  · obtain ⟨⟨rfl, rfl⟩, _⟩ := h
    cases hx; exact ⟨rfl, rfl, .inl ⟨_, rfl⟩⟩
  · obtain ⟨⟨rfl, rfl⟩, _⟩ := h
    cases hx; exact ⟨rfl, rfl, .inr ⟨_, _, rfl⟩⟩

theorem extract_ok {x : V} {i : Nat} {cv : Value} (h : (extractR x i).run H l = some ((v, u), l')) (hx : Rel F (cl w) β x cv) : ∃ cw, (Instr.extract cv i).run P w = .ok cw w ∧ Rel F (cl w) β v cw ∧ u = [] := by
  unfold extractR at h
  split at h
  · obtain ⟨hp, rfl, rfl⟩ := ok_run h
    cases hx with
    | tup _ _ cvs hs hr =>
      have hlt := (List.getElem?_eq_some_iff.1 hp).1
      have hcv : cvs[i]? = some (cvs[i]'(by omega)) := by simp
      refine ⟨cvs[i]'(by omega), by simp [Instr.extract, hcv], ?_, rfl⟩
      have := hr _ _ hp
      rwa [getD_agg (by omega)] at this
  · simp [Rd.run] at h

include hT in
theorem fieldAddr_ok {t : TypeId} {x : V} {f : Nat} {cv : Value} (h : (fieldAddrR T t x f).run H l = some ((v, u), l')) (hx : Rel F (cl w) β x cv) :
    ∃ cw, (Instr.fieldAt t cv f).run P w = .ok cw w ∧ Rel F (cl w) β v cw ∧ u = [] := by
  unfold fieldAddrR at h
  split at h
  · rename_i ti ht
    split at h
    · rename_i fs hk
      split at h
      · rename_i o ft hf
        obtain ⟨Fs, hu, rfl, _⟩ := (hT.told ht).struct hk
        simp only [List.getElem?_map, Option.map_eq_some_iff] at hf
        obtain ⟨f', hf', he⟩ := hf
        cases he
        have hf'' : Fs[f]? = some f' := by simpa using hf'
        split at h
        · rename_i fti hft
          split at h
          · simp [Rd.run] at h
          · rename_i h0
            have hplace : ∀ b o, (fieldPlace ⟨b, o, none⟩ f').run P w = .ok ⟨b, o + f'.offset, none⟩ w := fun b o => by
              simp [fieldPlace, (hT.told hft).sizeOf w, h0, Addr.add_mid]
            split at h <;> simp only [Rd.run, Option.some.injEq, Prod.mk.injEq, reduceCtorEq] at h
            · rename_i i r off
              obtain ⟨⟨rfl, rfl⟩, _⟩ := h
              cases hx with
              | ptr _ _ _ _ b st C hb =>
                refine ⟨.pointer (some ⟨b, r * st + (off + f'.offset), none⟩), ?_, .ptr _ _ _ _ _ _ C hb, rfl⟩
                simp [Instr.fieldAt, run_underlying hu, hf'', Instr.sureAddr, hplace, Nat.add_assoc]
            · rename_i r off
              obtain ⟨⟨rfl, rfl⟩, _⟩ := h
              cases hx with
              | el _ _ _ b base g hcell hF hr =>
                refine ⟨.pointer (some ⟨b, base + (off + f'.offset), none⟩), ?_, .el _ _ _ _ base g hcell hF hr, rfl⟩
                simp [Instr.fieldAt, run_underlying hu, hf'', Instr.sureAddr, hplace, Nat.add_assoc]
        · simp [Rd.run] at h
      · simp [Rd.run] at h
    · simp [Rd.run] at h
  · simp [Rd.run] at h

/-- The cells of a row in memory, as a value of a type. -/
theorem load_at {t : TypeId} {ti : TI} (ht : Told P t ti) {row : List V} {off b base : Nat} (hr : ∀ (j : Nat) (v : V), row[j]? = some v → ∃ cv, cl w b (base + j) = some cv ∧ Rel F (cl w) β v cv) (hp : partOf ti row off = some v) :
    ∃ cw, (Instr.loadAt t (.pointer (some ⟨b, base + off, none⟩))).run P w = .ok cw w ∧ Rel F (cl w) β v cw := by
  unfold partOf at hp
  split at hp
  · rename_i ha
    split at hp
    · rename_i hlen
      cases hp
      obtain ⟨d, hd, hrow⟩ := ht.row ha
      obtain ⟨i, z, hi, hs, _⟩ := ht.info
      let g : Nat → Value := fun j => (cl w b (base + off + j)).getD undef
      have hg : ∀ j, j < ti.size → ∃ v, row[off + j]? = some v ∧ cl w b (base + off + j) = some (g j) ∧ Rel F (cl w) β v (g j) := by
        intro j hj
        have hlt : off + j < row.length := by omega
        obtain ⟨cv, h1, h2⟩ := hr (off + j) row[off + j] (by simp [hlt])
        rw [← Nat.add_assoc] at h1
        have : g j = cv := by simp [g, h1]
        exact ⟨row[off + j], by simp [hlt], by rw [h1, this], by rw [this]; exact h2⟩
      refine ⟨_, run_loadAt_mid w b (base + off) t ((List.range ti.size).map g) d (fun j v hv => ?_) hd hrow (by simp [hi, hs]), .agg _ _ _ (by simp; omega) fun j v hv => ?_⟩
      · simp only [List.getElem?_map, Option.map_eq_some_iff] at hv
        obtain ⟨k, hk, rfl⟩ := hv
        have hj : j < ti.size := by simpa using (List.getElem?_eq_some_iff.1 hk).1
        have : k = j := by
          rw [List.getElem?_range hj] at hk
          exact (Option.some.inj hk).symm
        subst this
        obtain ⟨_, _, h2, _⟩ := hg k hj
        exact h2
      · rw [List.getElem?_take] at hv
        split at hv
        · rename_i hj
          rw [List.getElem?_drop] at hv
          obtain ⟨u, h1, h2, h3⟩ := hg j hj
          rw [hv] at h1
          cases h1
          rwa [show ((List.range ti.size).map g).toArray.getD j undef = g j by simp [Array.getD, hj]]
        · cases hv
    · cases hp
  · rename_i ha
    obtain ⟨cv, h1, h2⟩ := hr _ _ hp
    have h1' : w.cell? ⟨b, base + off, none⟩ = some cv := h1
    refine ⟨cv, ?_, h2⟩
    simp [Instr.loadAt, Instr.sureAddr, loadVar, ht.isAgg w, ha, h1']

include hT in
theorem load_ok {B : Base} {t : TypeId} {x : V} {cv : Value} (hI : Inv B β F H w) (h : (loadR T t x).run H l = some ((v, u), l')) (hx : Rel F (cl w) β x cv) :
    ∃ cw, (Instr.loadAt t cv).run P w = .ok cw w ∧ Rel F (cl w) β v cw ∧ u = [] := by
  unfold loadR at h
  split at h
  · simp [Rd.run] at h
  · rename_i ti ht
    split at h
    · rename_i i r off
      simp only [Rd.run] at h
      split at h
      · rename_i ob hob
        split at h
        · rename_i st rows frz pure
          split at h
          · rename_i row hrow
            obtain ⟨hp, rfl, rfl⟩ := ok_run h
            cases hx with
            | ptr _ _ _ _ b st' C hb =>
              obtain ⟨lc, hl, ho⟩ := hI.obs _ _ hob
              rw [hb] at hl
              cases hl
              cases ho with
              | buf _ _ _ _ _ _ hst hthere hC hlen hcell hpure hr =>
                obtain ⟨cw, h1, h2⟩ := load_at (hT.told ht) (base := r * st) (fun j v hv => hr r j row v hrow hv) hp
                exact ⟨cw, h1, h2, rfl⟩
          · simp [Rd.run] at h
        · simp [Rd.run] at h
      · simp at h
    · rename_i row off
      obtain ⟨hp, rfl, rfl⟩ := ok_run h
      cases hx with
      | el _ _ _ b base g hcell hF hr =>
        obtain ⟨cw, h1, h2⟩ := load_at (β := β) (F := F) (w := w) (hT.told ht) (b := b) (base := base) (fun j v hv => by
          have hj := (List.getElem?_eq_some_iff.1 hv).1
          exact ⟨g j, (hF j hj).2, (hr j v hv).mono (fun b o h => ⟨h, rfl⟩) (by simp [none0])⟩) hp
        exact ⟨cw, h1, h2, rfl⟩
    · simp [Rd.run] at h

theorem natOf_rel {x : V} {n : Nat} {cv : Value} (h : natOf x = some n) (hx : Rel F (cl w) β x cv) : ∃ k, cv = .int k (n : Int) := by
  unfold natOf at h
  split at h
  · rename_i k m
    split at h
    · rename_i hm
      cases h
      cases hx
      exact ⟨k, by rw [Int.toNat_of_nonneg hm]⟩
    · cases h
  · cases h

include hT in
theorem indexAddr_ok {t : TypeId} {x i : V} {cv ci : Value} (h : (indexAddrR T t x i).run H l = some ((v, u), l')) (hx : Rel F (cl w) β x cv) (hi : Rel F (cl w) β i ci) :
    ∃ cw, (Instr.indexAt t cv ci).run P w = .ok cw w ∧ Rel F (cl w) β v cw ∧ u = [] := by
  unfold indexAddrR at h
  split at h
  · rename_i ti' ht
    split at h
    · rename_i el hk
      have hu := (hT.told ht).slice hk
      split at h
      · rename_i ti n htel hn
        obtain ⟨k, rfl⟩ := natOf_rel hn hi
        obtain ⟨z, zz, hinfo, hsz, _⟩ := (hT.told htel).info
        have hsize := (hT.told htel).sizeOf w
        split at h
        · rename_i rows
          split at h
          · rename_i row hrow
            split at h
            · rename_i hall
              simp only [Rd.run, Option.some.injEq, Prod.mk.injEq] at h
              obtain ⟨⟨rfl, rfl⟩, _⟩ := h
              have hlt := (List.getElem?_eq_some_iff.1 hrow).1
              have hrl : ∀ r ∈ rows, r.length = ti.size := by simpa using hall
              cases hx with
              | fz0 => simp at hlt
              | fz _ _ b o st cap g hl hst hcell hF hr =>
                have hmem : row ∈ rows := List.mem_of_getElem? hrow
                have hst' : st = ti.size := by rw [← hst row hmem, hrl row hmem]
                subst hst'
                refine ⟨.pointer (some ⟨b, o + n * ti.size + 0, none⟩), ?_, .el _ row 0 b (o + n * ti.size) (g n) (hcell row hmem) (fun j hj => ?_) (fun j v hv => hr n j row v hrow hv), rfl⟩
                · simp [Instr.indexAt, asIntOf, run_underlying hu, hlt, hsize, Addr.add_mid]
                · exact hF n j hlt (by rw [← hst row hmem]; exact hj)
            · simp [Rd.run] at h
          · simp [Rd.run] at h
        · rename_i id st o len cap
          split at h
          · rename_i hc
            obtain ⟨hlt, rfl⟩ := hc
            simp only [Rd.run, Option.some.injEq, Prod.mk.injEq] at h
            obtain ⟨⟨rfl, rfl⟩, _⟩ := h
            cases hx with
            | ms0 => simp at hlt
            | ms _ _ _ _ _ _ b C cc o' hb hc hlen hcap hnone ho =>
              have ho' : o' = o * ti.size := by rcases ho with h | h <;> omega
              subst ho'
              refine ⟨.pointer (some ⟨b, (o + n) * ti.size + 0, none⟩), ?_, .ptr _ _ _ _ _ _ C hb, rfl⟩
              simp [Instr.indexAt, asIntOf, run_underlying hu, hlt, hsize, Addr.add_mid, Nat.add_mul]
          · simp [Rd.run] at h
        · simp [Rd.run] at h
      · simp [Rd.run] at h
    · simp [Rd.run] at h
  · simp [Rd.run] at h

include hT in
theorem index_ok {t : TypeId} {x i : V} {cv ci : Value} (h : (indexR T t x i).run H l = some ((v, u), l')) (hx : Rel F (cl w) β x cv) (hi : Rel F (cl w) β i ci) :
    ∃ cw, (Instr.index t cv ci).run P w = .ok cw w ∧ Rel F (cl w) β v cw ∧ u = [] := by
  unfold indexR at h
  split at h
  · rename_i ti' ht
    split at h
    · rename_i hk
      have hu := (hT.told ht).str hk
      split at h
      · rename_i s n hn
        obtain ⟨k, rfl⟩ := natOf_rel hn hi
        split at h
        · rename_i b hb
          simp only [Rd.run, Option.some.injEq, Prod.mk.injEq] at h
          obtain ⟨⟨rfl, rfl⟩, _⟩ := h
          cases hx
          exact ⟨_, by simp [Instr.index, asIntOf, run_underlying hu, hb], .int _ _ _, rfl⟩
        · simp [Rd.run] at h
      · simp [Rd.run] at h
    · simp [Rd.run] at h
  · simp [Rd.run] at h

include hT in
theorem conv_ok {src dst : TypeId} {x : V} {cv : Value} (h : conv T src dst x = some v) (hx : Rel F (cl w) β x cv) : ∃ cw, (convert src dst cv).run P w = .ok cw w ∧ Rel F (cl w) β v cw := by
  unfold conv at h
  split at h
  · rename_i a b ha hb
    split at h
    · rename_i k hk k' hk'
      cases h
      cases hx
      exact ⟨_, by simp [convert, run_underlying ((hT.told ha).int ‹_›), run_underlying ((hT.told hb).int ‹_›), Conv.intToInt], .int _ _ _⟩
    · cases h
      cases hx
      exact ⟨_, by simp [convert, run_underlying ((hT.told ha).str ‹_›), run_underlying ((hT.told hb).str ‹_›)], .str _ _⟩
    · cases h
  · cases h

theorem un_ok {op : UnOp} {x : V} {cv : Value} (h : un op x = some v) (hx : Rel F (cl w) β x cv) : ∃ cw, (Op.unary op cv).run P w = .ok cw w ∧ Rel F (cl w) β v cw := by
  unfold un at h
  split at h
  · split at h
    · cases h; cases hx; exact ⟨_, rfl, .bool _ _⟩
    · cases h
  · split at h
    · cases h; cases hx; exact ⟨_, rfl, .int _ _ _⟩
    · cases h; cases hx; exact ⟨_, rfl, .int _ _ _⟩
    · cases h
  · cases h

theorem max2_ok {x y : V} {cx cy : Value} (h : max2 x y = some v) (hx : Rel F (cl w) β x cx) (hy : Rel F (cl w) β y cy) : ∃ cw, (Builtin.max_ #[] 0 #[cx, cy]).run P w = .ok cw w ∧ Rel F (cl w) β v cw := by
  unfold max2 at h
  split at h
  · split at h
    · cases h; cases hx; cases hy
      exact ⟨_, by simp [Builtin.max_, Builtin.max2], .int _ _ _⟩
    · cases h
  · cases h; cases hx; cases hy
    exact ⟨_, by simp only [Builtin.max_, List.foldlM]; simp [Builtin.max2, Op.stringOp, asBool], .str _ _⟩
  · cases h

theorem min2_ok {x y : V} {cx cy : Value} (h : min2 x y = some v) (hx : Rel F (cl w) β x cx) (hy : Rel F (cl w) β y cy) : ∃ cw, (Builtin.min_ #[] 0 #[cx, cy]).run P w = .ok cw w ∧ Rel F (cl w) β v cw := by
  unfold min2 at h
  split at h
  · split at h
    · cases h; cases hx; cases hy
      exact ⟨_, by simp [Builtin.min_, Builtin.min2], .int _ _ _⟩
    · cases h
  · cases h; cases hx; cases hy
    exact ⟨_, by simp only [Builtin.min_, List.foldlM]; simp [Builtin.min2, Op.stringOp, asBool], .str _ _⟩
  · cases h
end

end Go.Proofs.YteookeenkjpemaaGreat.R
/- More operations that turn nothing: comparisons, cuts of slices, look-ups. -/
namespace Go.Proofs.YteookeenkjpemaaGreat.R
open Go Go.RowKit

section
variable {P : Program} {T : TT} (hT : TOK P T) {F : Froz} {w : World} {β : Place} {H : Heap} {l l' : List Nat} {v : V} {u : Upd}

theorem eqKind_ok {t : TypeId} {ti : TI} (ht : Told P t ti) {x y : V} {cx cy : Value} {b : Bool} (h : eqKind ti.kd x y = some b) (hx : Rel F (cl w) β x cx) (hy : Rel F (cl w) β y cy) (d : Nat) :
    (Op.equalIn (d + 1) t cx cy).run P w = .ok b w := by
  unfold eqKind at h
  split at h
  · have hk := ‹ti.kd = .bool›
    cases h; cases hx; cases hy
    simp [Op.equalIn, run_underlying (ht.bool hk)]
  · have hk := ‹ti.kd = .int _›
    split at h
    · rename_i hkk
      subst hkk
      cases h; cases hx; cases hy
      simp [Op.equalIn, run_underlying (ht.int hk)]
    · cases h
  · have hk := ‹ti.kd = .str›
    cases h; cases hx; cases hy
    simp [Op.equalIn, run_underlying (ht.str hk)]
  · cases h

theorem agg_false {ti : TI} {x y : V} {b : Bool} (h : eqKind ti.kd x y = some b) : ti.agg = false := by
  unfold TI.agg
  split
  · rename_i fs hfs
    rw [hfs] at h
    simp [eqKind] at h
  · rename_i n e hfs
    rw [hfs] at h
    simp [eqKind] at h
  · rfl

include hT in
theorem eqAgg_ok : ∀ (d : Nat) (Fs : List Field) (xs ys : List V) (cxs cys : Array Value) (b : Bool), (∀ f ∈ Fs, f.name ≠ "_") → eqAgg T d (Fs.map fun f => (f.offset, f.type)) xs ys = some b →
    cxs.size = xs.length → (∀ (j : Nat) (v : V), xs[j]? = some v → Rel F (cl w) β v (cxs.getD j undef)) → cys.size = ys.length → (∀ (j : Nat) (v : V), ys[j]? = some v → Rel F (cl w) β v (cys.getD j undef)) →
    ∀ D, d ≤ D → (Op.eqFields D cxs cys Fs).run P w = .ok b w
  | 0, Fs, xs, ys, cxs, cys, b, _, h, _, _, _, _, D, _ => by simp [eqAgg] at h
  | d + 1, [], xs, ys, cxs, cys, b, _, h, _, _, _, _, D, _ => by
    simp only [eqAgg, List.map_nil, Option.some.injEq] at h
    subst h
    simp [Op.eqFields]
  | d + 1, f :: Fs, xs, ys, cxs, cys, b, hn, h, hxs, hx, hys, hy, D, hD => by
    obtain ⟨D, rfl⟩ : ∃ m, D = m + 1 := ⟨D - 1, by omega⟩
    simp only [List.map_cons, eqAgg] at h
    split at h
    · cases h
    · rename_i ti hti
      have ht := hT.told hti
      -- here
      have here : ∀ b', (match ti.kd with
        | .struct gs => if f.offset + ti.size ≤ xs.length ∧ f.offset + ti.size ≤ ys.length then eqAgg T d gs ((xs.drop f.offset).take ti.size) ((ys.drop f.offset).take ti.size) else none
        | kd => match xs[f.offset]?, ys[f.offset]? with
          | some x, some y => eqKind kd x y
          | _, _ => none) = some b' → ∃ ca cb, (part f.type cxs f.offset).run P w = .ok ca w ∧ (part f.type cys f.offset).run P w = .ok cb w ∧ (Op.equalIn (D + 1) f.type ca cb).run P w = .ok b' w := by
        intro b' hb
        split at hb
        · rename_i gs hgs
          split at hb
          · rename_i hlen
            have ha : ti.agg = true := by unfold TI.agg; rw [hgs]
            obtain ⟨Gs, hu, rfl, hnames⟩ := ht.struct hgs
            obtain ⟨ca, h1, r1⟩ := partOf_rel (P := P) (o := f.offset) (v := .agg ((xs.drop f.offset).take ti.size)) ht hxs hx (by simp [partOf, ha, hlen.1])
            obtain ⟨cb, h2, r2⟩ := partOf_rel (P := P) (o := f.offset) (v := .agg ((ys.drop f.offset).take ti.size)) ht hys hy (by simp [partOf, ha, hlen.2])
            refine ⟨ca, cb, h1, h2, ?_⟩
            cases r1 with
            | agg _ _ c1 s1 g1 =>
              cases r2 with
              | agg _ _ c2 s2 g2 =>
                have hf : P.fieldsOf f.type = Gs := by simp [Program.fieldsOf, hu]
                rw [run_equalIn_struct w D f.type c1 c2 (by rw [hf]; exact hu) (ht.held ha).1, hf]
                exact eqAgg_ok d Gs.toList _ _ c1 c2 b' hnames hb s1 g1 s2 g2 D (by omega)
          · cases hb
        · rename_i hns
          split at hb
          · rename_i x y hx1 hy1
            have ha : ti.agg = false := agg_false hb
            obtain ⟨ca, h1, r1⟩ := partOf_rel (P := P) (o := f.offset) (v := x) ht hxs hx (by simp [partOf, ha, hx1])
            obtain ⟨cb, h2, r2⟩ := partOf_rel (P := P) (o := f.offset) (v := y) ht hys hy (by simp [partOf, ha, hy1])
            exact ⟨ca, cb, h1, h2, eqKind_ok ht hb r1 r2 D⟩
          · cases hb
      have rest : ∀ b', eqAgg T d (Fs.map fun f => (f.offset, f.type)) xs ys = some b' → (Op.eqFields (D + 1) cxs cys Fs).run P w = .ok b' w := fun b' hb =>
        eqAgg_ok d Fs xs ys cxs cys b' (fun g hg => hn g (.tail _ hg)) hb hxs hx hys hy (D + 1) (by omega)
      split at h
      · rename_i hh
        obtain ⟨ca, cb, h1, h2, h3⟩ := here true hh
        have := rest b h
        simp [Op.eqFields, hn f (.head _), h1, h2, h3, this]
      · rename_i hne
        cases b with
        | true => exact absurd h hne
        | false =>
          obtain ⟨ca, cb, h1, h2, h3⟩ := here false h
          simp [Op.eqFields, hn f (.head _), h1, h2, h3]

/-- Two arrays of elements of one cell. -/
theorem eqItems_ok {e : TypeId} {te : TI} (ht : Told P e te) (ha : te.agg = false) (h1 : P.cellsOf e = 1) {xs ys : List V} {cxs cys : Array Value} (hxs : cxs.size = xs.length) (hx : ∀ (j : Nat) (v : V), xs[j]? = some v → Rel F (cl w) β v (cxs.getD j undef))
    (hys : cys.size = ys.length) (hy : ∀ (j : Nat) (v : V), ys[j]? = some v → Rel F (cl w) β v (cys.getD j undef)) (D : Nat) :
    ∀ (is : List Nat) (b : Bool), eqArr te.kd xs ys is = some b → (Op.eqItems (D + 1) e (P.cellsOf e) cxs cys is).run P w = .ok b w
  | [], b, h => by
    cases h
    simp [Op.eqItems]
  | i :: is, b, h => by
    simp only [eqArr] at h
    split at h
    · rename_i x y hx1 hy1
      obtain ⟨ca, p1, r1⟩ := partOf_rel (P := P) (o := i) (v := x) ht hxs hx (by simp [partOf, ha, hx1])
      obtain ⟨cb, p2, r2⟩ := partOf_rel (P := P) (o := i) (v := y) ht hys hy (by simp [partOf, ha, hy1])
      have here : ∀ b', eqKind te.kd x y = some b' → (Op.equalIn (D + 1) e ca cb).run P w = .ok b' w := fun b' hb => eqKind_ok ht hb r1 r2 D
      rw [h1]
      simp only [Op.eqItems, Sem.run_bind, Nat.mul_one, p1, p2, Result.andThen_ok]
      split at h
      · rename_i hh
        have hr := eqItems_ok ht ha h1 hxs hx hys hy D is b h
        rw [h1] at hr
        simp [here true hh, hr]
      · rename_i hne
        cases b with
        | true => exact absurd h hne
        | false => simp [here false h]
    · cases h

theorem eqGuard_free {t : TypeId} {cx cy : Value} (h1 : ∀ xs ys, ¬ (cx = .agg xs ∧ cy = .agg ys)) (h2 : ¬ (cx = .nilIface ∧ cy = .nilIface)) (op : BinOp) (ox oy : Operand) : (eqGuard op t ox oy cx cy).run P w = .ok () w := by
  cases op
  case eql | neq =>
    cases cx <;> cases cy <;> first | rfl | exact absurd ⟨rfl, rfl⟩ h2 | exact absurd ⟨rfl, rfl⟩ (h1 _ _)
  all_goals rfl

include hT in
/-- Two values, equal or not; and the model's look at two nil interface values. -/
theorem eqV_ok {t : TypeId} {x y : V} {cx cy : Value} {b : Bool} (h : eqV T t x y = some b) (hx : Rel F (cl w) β x cx) (hy : Rel F (cl w) β y cy) :
    (Op.equal t cx cy).run P w = .ok b w ∧ (∀ op ox oy, (eqGuard op t ox oy cx cy).run P w = .ok () w) ∧ (∀ k n, cx ≠ .int k n) ∧ (∀ s, cx ≠ .string s) ∧ (∀ k n, cx ≠ .float k n) ∧ (∀ k n m, cx ≠ .complex k n m) := by
  unfold eqV at h
  split at h
  · cases h
  · rename_i ti hti
    have ht := hT.told hti
    obtain ⟨d, hd, hk⟩ := ht.und
    have eg : ∀ op ox oy, (∀ xs ys, ¬ (cx = .agg xs ∧ cy = .agg ys)) → ¬ (cx = .nilIface ∧ cy = .nilIface) → (eqGuard op t ox oy cx cy).run P w = .ok () w := fun op ox oy h1 h2 => eqGuard_free h1 h2 op ox oy
    split at h
    case h_14 =>
      rename_i fs xs ys hkd
      have ha : ti.agg = true := by unfold TI.agg; rw [hkd]
      obtain ⟨Gs, hu, rfl, hnames⟩ := ht.struct hkd
      cases hx with
      | agg _ _ c1 s1 g1 =>
        cases hy with
        | agg _ _ c2 s2 g2 =>
          have hf : P.fieldsOf t = Gs := by simp [Program.fieldsOf, hu]
          refine ⟨?_, ?_, by simp, by simp, by simp, by simp⟩
          · show (Op.equalIn (9999 + 1) t _ _).run P w = _
            rw [run_equalIn_struct w 9999 t c1 c2 (by rw [hf]; exact hu) (ht.held ha).1, hf]
            exact eqAgg_ok hT 12 Gs.toList _ _ c1 c2 b hnames h s1 g1 s2 g2 9999 (by omega)
          · intro op ox oy
            simp [eqGuard, (ht.held ha).2]
    case h_17 => cases h
    case h_15 =>
      rename_i n e xs ys hkd
      have ha : ti.agg = true := by unfold TI.agg; rw [hkd]
      have hu := ht.arr hkd
      split at h
      · rename_i te hte
        split at h
        · rename_i hc
          obtain ⟨i, z, hi, hs, _⟩ := (hT.told hte).info
          have h1 : P.cellsOf e = 1 := by simp [Program.cellsOf, hi, hs, hc.2]
          cases hx with
          | agg _ _ c1 s1 g1 =>
            cases hy with
            | agg _ _ c2 s2 g2 =>
              refine ⟨?_, ?_, by simp, by simp, by simp, by simp⟩
              · show (Op.equalIn (9999 + 1) t _ _).run P w = _
                rw [run_equalIn_array w 9999 c1 c2 hu hi]
                exact eqItems_ok (hT.told hte) hc.1 h1 s1 g1 s2 g2 9998 _ _ h
              · intro op ox oy
                simp [eqGuard, (ht.held ha).2]
        · cases h
      · cases h
    case h_16 =>
      have hu := ht.bool ‹_›
      cases h; cases hx; cases hy
      exact ⟨(show ∀ d, (Op.equalIn (d + 1) t _ _).run P w = _ from fun d => by simp [Op.equalIn, run_underlying hu]) 9999, fun _ _ _ => eg _ _ _ (by simp) (by simp), by simp, by simp, by simp, by simp⟩
    case h_1 | h_2 | h_3 | h_4 | h_5 =>
      obtain ⟨e, hu⟩ := ht.ptr ‹_›
      cases h; cases hx; cases hy
      exact ⟨(show ∀ d, (Op.equalIn (d + 1) t _ _).run P w = _ from fun d => by simp [Op.equalIn, run_underlying hu]) 9999, fun _ _ _ => eg _ _ _ (by simp) (by simp), by simp, by simp, by simp, by simp⟩
    case h_6 =>
      have hu := ht.slice ‹_›
      cases h; cases hx; cases hy
      exact ⟨(show ∀ d, (Op.equalIn (d + 1) t _ _).run P w = _ from fun d => by simp [Op.equalIn, run_underlying hu]) 9999, fun _ _ _ => eg _ _ _ (by simp) (by simp), by simp, by simp, by simp, by simp⟩
    case h_7 =>
      have hu := ht.slice ‹_›
      cases h; cases hy
      cases hx with
      | fz => exact ⟨(show ∀ d, (Op.equalIn (d + 1) t _ _).run P w = _ from fun d => by simp [Op.equalIn, run_underlying hu]) 9999, fun _ _ _ => eg _ _ _ (by simp) (by simp), by simp, by simp, by simp, by simp⟩
    case h_8 =>
      have hu := ht.slice ‹_›
      cases h; cases hy
      cases hx with
      | ms => exact ⟨(show ∀ d, (Op.equalIn (d + 1) t _ _).run P w = _ from fun d => by simp [Op.equalIn, run_underlying hu]) 9999, fun _ _ _ => eg _ _ _ (by simp) (by simp), by simp, by simp, by simp, by simp⟩
    case h_9 | h_10 =>
      have hu := ht.map ‹_›
      cases h; cases hx; cases hy
      exact ⟨(show ∀ d, (Op.equalIn (d + 1) t _ _).run P w = _ from fun d => by simp [Op.equalIn, run_underlying hu]) 9999, fun _ _ _ => eg _ _ _ (by simp) (by simp), by simp, by simp, by simp, by simp⟩
    case h_11 | h_12 =>
      obtain ⟨_, _, _, hu⟩ := ht.func ‹_›
      cases h; cases hx; cases hy
      exact ⟨(show ∀ d, (Op.equalIn (d + 1) t _ _).run P w = _ from fun d => by simp [Op.equalIn, run_underlying hu]) 9999, fun _ _ _ => eg _ _ _ (by simp) (by simp), by simp, by simp, by simp, by simp⟩
    case h_13 =>
      obtain ⟨_, hu⟩ := ht.iface ‹_›
      cases h; cases hx; cases hy
      exact ⟨(show ∀ d, (Op.equalIn (d + 1) t _ _).run P w = _ from fun d => by simp [Op.equalIn, run_underlying hu]) 9999, fun _ _ _ => eg _ _ _ (by simp) (by simp), by simp, by simp, by simp, by simp⟩

include hT in
theorem bin_ok {op : BinOp} {t : TypeId} {x y : V} {cx cy : Value} (h : bin T op t x y = some v) (hx : Rel F (cl w) β x cx) (hy : Rel F (cl w) β y cy) (ox oy : Operand) :
    ∃ cw, (do eqGuard op t ox oy cx cy; binOp op t cx cy : Sem Value).run P w = .ok cw w ∧ Rel F (cl w) β v cw := by
  unfold bin at h
  split at h
  · rename_i k a k' b
    cases hx; cases hy
    have eg : (eqGuard op t ox oy (.int k a) (.int k' b)).run P w = .ok () w := by
      unfold eqGuard
      split <;> simp
    split at h
    · split at h
      · rename_i hb
        cases h
        refine ⟨_, ?_, .int _ _ _⟩
        simp [eg, binOp, Op.shift, Int.not_lt.2 hb]
      · cases h
    · split at h
      · rename_i hb
        cases h
        refine ⟨_, ?_, .int _ _ _⟩
        simp [eg, binOp, Op.shift, Int.not_lt.2 hb]
      · cases h
    · rename_i h1 h2
      split at h
      · rename_i hk
        subst hk
        unfold binInt at h
        split at h <;> first
          | (cases h; refine ⟨_, ?_, by constructor⟩; simp [eg, binOp, Op.intArith, Op.intBits, Op.intCmp])
          | (split at h
             · cases h
             · rename_i h0
               cases h
               refine ⟨_, ?_, by constructor⟩
               simp [eg, binOp, Op.intDiv, h0])
          | cases h
      · cases h
  · rename_i a b
    cases hx; cases hy
    have eg : (eqGuard op t ox oy (.string a) (.string b)).run P w = .ok () w := by
      unfold eqGuard
      split <;> simp
    unfold binStr at h
    split at h <;> first
      | (cases h; refine ⟨_, ?_, by constructor⟩; simp [eg, binOp, Op.stringOp])
      | (split at h
         · rename_i hl
           cases h
           have hl' : ¬ (((a.size + b.size : Nat) : Int) > IntKind.i64.max) := by
             have : IntKind.i64.max = 9223372036854775807 := rfl
             omega
           refine ⟨_, ?_, by constructor⟩
           simp only [Sem.run_bind, eg, Result.andThen_ok, binOp, Op.stringOp, if_neg hl', Sem.run_pure]
         · cases h)
      | cases h
  · split at h
    · simp only [Option.map_eq_some_iff] at h
      obtain ⟨b, hb, rfl⟩ := h
      obtain ⟨h1, h2, h3, h4, h5, h6⟩ := eqV_ok hT hb hx hy
      refine ⟨.bool b, ?_, .bool _ _⟩
      rw [Sem.run_bind, h2]
      simp only [Result.andThen_ok]
      have : binOp .eql t cx cy = (do pure (.bool (← Op.equal t cx cy)) : Sem Value) := by
        cases cx <;> first | rfl | (exact absurd rfl (h3 _ _)) | (exact absurd rfl (h4 _)) | (exact absurd rfl (h5 _ _)) | (exact absurd rfl (h6 _ _ _))
      rw [this]
      simp [h1]
    · simp only [Option.map_eq_some_iff] at h
      obtain ⟨b, hb, rfl⟩ := h
      obtain ⟨h1, h2, h3, h4, h5, h6⟩ := eqV_ok hT hb hx hy
      refine ⟨.bool !b, ?_, .bool _ _⟩
      rw [Sem.run_bind, h2]
      simp only [Result.andThen_ok]
      have : binOp .neq t cx cy = (do pure (.bool (!(← Op.equal t cx cy))) : Sem Value) := by
        cases cx <;> first | rfl | (exact absurd rfl (h3 _ _)) | (exact absurd rfl (h4 _)) | (exact absurd rfl (h5 _ _)) | (exact absurd rfl (h6 _ _ _))
      rw [this]
      simp [h1]
    · cases h
end

end Go.Proofs.YteookeenkjpemaaGreat.R
/- More operations that turn nothing: cuts of slices, struct literals, look-ups, len. -/
namespace Go.Proofs.YteookeenkjpemaaGreat.R
open Go Go.RowKit

section
variable {P : Program} {T : TT} (hT : TOK P T) {F : Froz} {w : World} {β : Place} {H : Heap} {l l' : List Nat} {v : V} {u : Upd}

/-- An operand of a cut. -/
def OptRel (F : Froz) (c : Nat → Nat → Option Value) (β : Place) : Option V → Option Value → Prop
  | none, none => True
  | some v, some cv => Rel F c β v cv
  | _, _ => False

theorem bound_ok {x : V} {n y : Nat} {cv : Value} (h : natOf x = some n) (hx : Rel F (cl w) β x cv) (hy : n ≤ y) (code : BoundsCode) : (Instr.sliceBound cv y code).run P w = .ok n w := by
  obtain ⟨k, rfl⟩ := natOf_rel h hx
  simp [Instr.sliceBound, asIntOf, hy]

theorem bounds_ok {lo hi mx : Option V} {clo chi cmx : Option Value} {ll hh mm len cap : Nat} (isS : Bool) (h1 : OptRel F (cl w) β lo clo) (h2 : OptRel F (cl w) β hi chi) (h3 : OptRel F (cl w) β mx cmx)
    (hl : optNat lo 0 = some ll) (hh' : optNat hi len = some hh) (hm : optNat mx cap = some mm) (hn : mx ≠ none → hi ≠ none) (a : ll ≤ hh) (b : hh ≤ mm) (c : mm ≤ cap) :
    (Instr.sliceBounds isS len cap clo chi cmx).run P w = .ok (ll, hh, mm) w := by
  have B : ∀ {x : V} {n y : Nat} {cv : Value}, natOf x = some n → Rel F (cl w) β x cv → n ≤ y → ∀ code, (Instr.sliceBound cv y code).run P w = .ok n w := fun h hx hy code => bound_ok h hx hy code
  cases lo <;> cases clo <;> (try exact h1.elim) <;> cases hi <;> cases chi <;> (try exact h2.elim) <;> cases mx <;> cases cmx <;> (try exact h3.elim) <;> simp only [optNat, Option.some.injEq] at hl hh' hm
  case none.none.none.none.none.none => subst hl hh' hm; simp [Instr.sliceBounds]
  case none.none.none.none.some.some => exact absurd rfl (hn (by simp))
  case some.some.none.none.some.some => exact absurd rfl (hn (by simp))
  case none.none.some.some.none.none => subst hl hm; simp [Instr.sliceBounds, B hh' h2 b]
  case none.none.some.some.some.some => subst hl; simp [Instr.sliceBounds, B hh' h2 b, B hm h3 c]
  case some.some.none.none.none.none => subst hh' hm; simp [Instr.sliceBounds, B hl h1 a]
  case some.some.some.some.none.none => subst hm; simp [Instr.sliceBounds, B hh' h2 b, B hl h1 a]
  case some.some.some.some.some.some => simp [Instr.sliceBounds, B hh' h2 b, B hl h1 a, B hm h3 c]

theorem sliceAt_slice {t e : TypeId} (hu : P.underlying t = some (.slice e)) (x : Value) (lo hi mx : Option Value) : (Instr.sliceAt t x lo hi mx).run P w = (Instr.slice t x lo hi mx).run P w := by
  simp [Instr.sliceAt, run_underlying hu]
theorem sliceAt_str {t : TypeId} (hu : P.underlying t = some .string) (x : Value) (lo hi mx : Option Value) : (Instr.sliceAt t x lo hi mx).run P w = (Instr.slice t x lo hi mx).run P w := by
  simp [Instr.sliceAt, run_underlying hu]

include hT in
theorem slice_ok {B : Base} (hI : Inv B β F H w) {t : TypeId} {x : V} {lo hi mx : Option V} {cv : Value} {clo chi cmx : Option Value} (h : (sliceR T t x lo hi mx).run H l = some ((v, u), l')) (hx : Rel F (cl w) β x cv)
    (h1 : OptRel F (cl w) β lo clo) (h2 : OptRel F (cl w) β hi chi) (h3 : OptRel F (cl w) β mx cmx) (hn : mx ≠ none → hi ≠ none) :
    ∃ cw, (Instr.sliceAt t cv clo chi cmx).run P w = .ok cw w ∧ Rel F (cl w) β v cw ∧ u = [] := by
  unfold sliceR at h
  split at h
  · rename_i ti' ht'
    split at h
    · rename_i el hk
      have hu := (hT.told ht').slice hk
      rw [sliceAt_slice hu]
      split at h
      · rename_i ti ht
        split at h
        · simp [Rd.run] at h
        unfold okOr at h
        have hsize := (hT.told ht).sizeOf w
        split at h
        · rename_i hc
          simp only [Rd.run, Option.some.injEq, Prod.mk.injEq] at h
          obtain ⟨⟨rfl, rfl⟩, rfl⟩ := h
          unfold cutS at hc
          split at hc
          · rename_i s hno
            exact absurd rfl (hno s)
          · -- a frozen one
            rename_i rows _
            split at hc
            · rename_i ll hh hll hhh
              split at hc
              · rename_i hcond
                obtain ⟨c1, c2, c3⟩ := hcond
                cases hc
                have hrl : ∀ r ∈ rows, r.length = ti.size := by simpa using c3
                cases cmx with
                | some _ => exact h3.elim
                | none =>
                  cases hx with
                  | fz0 _ a cap =>
                    simp only [List.length_nil] at hhh c2
                    obtain rfl : hh = 0 := by omega
                    obtain rfl : ll = 0 := by omega
                    have hb := bounds_ok (P := P) (w := w) (cap := cap) (mm := cap) true h1 h2 (mx := none) (cmx := none) trivial hll hhh rfl (by simp) (by omega) (by omega) (by omega)
                    refine ⟨.slice (if cap = 0 then a else a.map (·.add (0 * ti.size))) 0 (cap - 0), by simp [Instr.slice, run_underlying hu, hb, hsize], ?_, rfl⟩
                    exact .fz0 _ _ _
                  | fz _ _ b o st cap g hl hst hcell hF hr =>
                    have hb := bounds_ok (P := P) (w := w) (cap := cap) (mm := cap) true h1 h2 (mx := none) (cmx := none) trivial hll hhh rfl (by simp) c1 (by omega) (by omega)
                    refine ⟨.slice (if cap = ll then some ⟨b, o, none⟩ else some ⟨b, o + ll * ti.size, none⟩) (hh - ll) (cap - ll), ?_, ?_, rfl⟩
                    · simp only [Instr.slice, Sem.run_bind, run_underlying hu, Result.andThen_ok, hb, hsize, Sem.run_pure, Option.map_some, Addr.add_mid]
                    · by_cases he : hh = ll
                      · subst he
                        simp only [Nat.sub_self, List.take_zero]
                        exact .fz0 _ _ _
                      · have hlt : ll < hh := by omega
                        have hcl : cap ≠ ll := by omega
                        have hst' : st = ti.size := by
                          have hm : rows[ll]'(by omega) ∈ rows := List.getElem_mem _
                          rw [← hst _ hm, hrl _ hm]
                        subst hst'
                        rw [if_neg hcl]
                        have hlen : ((rows.drop ll).take (hh - ll)).length = hh - ll := by simp; omega
                        have hget : ∀ r, r < hh - ll → ((rows.drop ll).take (hh - ll))[r]? = rows[ll + r]? := fun r hr => by
                          rw [List.getElem?_take, if_pos hr, List.getElem?_drop]
                        have := Rel.fz (F := F) (c := cl w) β ((rows.drop ll).take (hh - ll)) b (o + ll * ti.size) ti.size (cap - ll) (fun r j => g (ll + r) j) (by omega)
                          (fun row hm => hst row (List.mem_of_mem_drop (List.mem_of_mem_take hm))) (fun row hm => hcell row (List.mem_of_mem_drop (List.mem_of_mem_take hm)))
                          (fun r j hr hj => by
                            have := hF (ll + r) j (by omega) hj
                            rwa [show o + ll * ti.size + r * ti.size + j = o + (ll + r) * ti.size + j by rw [Nat.add_mul]; omega])
                          (fun r j row v hrow hv => by
                            have hr' : r < hh - ll := by have := (List.getElem?_eq_some_iff.1 hrow).1; omega
                            rw [hget r hr'] at hrow
                            exact hr (ll + r) j row v hrow hv)
                        rwa [hlen] at this
              · cases hc
            · cases hc
          · -- one of an object
            rename_i i st o n c _
            split at hc
            · rename_i hst
              subst hst
              split at hc
              · rename_i ll hh hll hhh
                split at hc
                · rename_i hcond
                  obtain ⟨c1, c2⟩ := hcond
                  cases hx with
                  | ms0 _ _ _ _ hb hc0 =>
                    obtain rfl : hh = 0 := by omega
                    obtain rfl : ll = 0 := by omega
                    split at hc
                    · cases hc
                      cases cmx with
                      | some _ => exact h3.elim
                      | none =>
                        have hb' := bounds_ok (P := P) (w := w) (cap := 0) (mm := 0) true h1 h2 (mx := none) (cmx := none) trivial hll hhh rfl (by simp) (by omega) (by omega) (by omega)
                        refine ⟨.slice none 0 0, by simp [Instr.slice, run_underlying hu, hb', hsize], ?_, rfl⟩
                        refine .ms0 _ _ _ _ hb fun k hk => ?_
                        simp only [Option.map_eq_some_iff] at hk
                        obtain ⟨k', hk', rfl⟩ := hk
                        have := hc0 k' hk'
                        omega
                    · rename_i m
                      split at hc
                      · rename_i mm hmm
                        split at hc
                        · rename_i hm
                          cases hc
                          obtain rfl : mm = 0 := by omega
                          cases cmx with
                          | none => exact h3.elim
                          | some cm =>
                            have hb' := bounds_ok (P := P) (w := w) (cap := 0) (mm := 0) true h1 h2 (mx := some m) (cmx := some cm) h3 hll hhh hmm hn (by omega) (by omega) (by omega)
                            refine ⟨.slice none 0 0, by simp [Instr.slice, run_underlying hu, hb', hsize], ?_, rfl⟩
                            exact .ms0 _ _ _ _ hb fun k hk => by cases hk; rfl
                        · cases hc
                      · cases hc
                  | ms _ _ _ _ _ _ b C cc o' hb hcC hlen hcap hnone ho =>
                    have addr : ∀ mm, ll ≤ mm → mm ≤ cc → (mm - ll = 0 ∨ (if mm = ll then o' else o' + ll * ti.size) = (o + ll) * ti.size) := by
                      intro mm hmm hmc
                      by_cases he : mm = ll
                      · left; omega
                      · right
                        rw [if_neg he, Nat.add_mul]
                        rcases ho with h | h <;> omega
                    have mk : ∀ (cm : Option Value) mm, (Instr.sliceBounds true n cc clo chi cm).run P w = .ok (ll, hh, mm) w → ll ≤ mm → mm ≤ cc →
                        (Instr.slice t (.slice (some ⟨b, o', none⟩) n cc) clo chi cm).run P w = .ok (.slice (some ⟨b, if mm = ll then o' else o' + ll * ti.size, none⟩) (hh - ll) (mm - ll)) w := by
                      intro cm mm hb' _ _
                      simp only [Instr.slice, Sem.run_bind, run_underlying hu, Result.andThen_ok, hb', hsize, Sem.run_pure, Option.map_some, Addr.add_mid]
                      split <;> rfl
                    split at hc
                    · cases hc
                      cases cmx with
                      | some _ => exact h3.elim
                      | none =>
                        have hb' := bounds_ok (P := P) (w := w) (cap := cc) (mm := cc) true h1 h2 (mx := none) (cmx := none) trivial hll hhh rfl (by simp) c1 (by omega) (by omega)
                        refine ⟨_, mk none cc hb' (by omega) (by omega), ?_, rfl⟩
                        refine .ms _ _ _ _ _ _ b C (cc - ll) _ hb (by omega) (by omega) (fun k hk => ?_) (fun hk => ?_) (addr cc (by omega) (by omega))
                        · simp only [Option.map_eq_some_iff] at hk
                          obtain ⟨k', hk', rfl⟩ := hk
                          rw [hcap k' hk']
                        · simp only [Option.map_eq_none_iff] at hk
                          have := hnone hk
                          omega
                    · rename_i m
                      split at hc
                      · rename_i mm hmm
                        split at hc
                        · rename_i hm
                          cases hc
                          cases cmx with
                          | none => exact h3.elim
                          | some cm =>
                            have hb' := bounds_ok (P := P) (w := w) (cap := cc) (mm := mm) true h1 h2 (mx := some m) (cmx := some cm) h3 hll hhh hmm hn c1 (by omega) (by omega)
                            refine ⟨_, mk (some cm) mm hb' (by omega) (by omega), ?_, rfl⟩
                            exact .ms _ _ _ _ _ _ b C (mm - ll) _ hb (by omega) (by omega) (fun k hk => by cases hk; rfl) (fun hk => by cases hk) (addr mm (by omega) (by omega))
                        · cases hc
                      · cases hc
                · cases hc
              · cases hc
            · cases hc
          · -- nil
            split at hc
            · rename_i hll hhh
              cases hc
              cases cmx with
              | some _ => exact h3.elim
              | none =>
                cases hx
                have hb' := bounds_ok (P := P) (w := w) (cap := 0) (mm := 0) true h1 h2 (mx := none) (cmx := none) trivial hll hhh rfl (by simp) (by omega) (by omega) (by omega)
                exact ⟨.slice none 0 0, by simp [Instr.slice, run_underlying hu, hb', hsize], .nils _, rfl⟩
            · cases hc
          · cases hc
        · -- beyond its length
          unfold farR at h
          split at h
          · rename_i i st' o n hv _ _
            cases cmx with
            | some _ => exact h3.elim
            | none =>
              split at h
              · rename_i hh ll hhh hll
                simp only [Rd.run] at h
                split at h
                · rename_i ob hob
                  split at h
                  · rename_i st2 rows fz pu
                    split at h
                    · rename_i hcond
                      obtain ⟨rfl, rfl, c1, c2⟩ := hcond
                      simp only [Rd.run, Option.some.injEq, Prod.mk.injEq] at h
                      obtain ⟨⟨rfl, rfl⟩, _⟩ := h
                      obtain ⟨lc, hlc, ho'⟩ := hI.obs _ _ hob
                      cases hx with
                      | ms0 _ _ _ _ hb hc0 =>
                        rw [hb] at hlc
                        cases hlc
                        cases ho' with
                        | nil =>
                          simp only [List.length_nil] at c1
                          obtain rfl : hh = 0 := by omega
                          obtain rfl : ll = 0 := by omega
                          have hb' := bounds_ok (P := P) (w := w) (len := 0) (cap := 0) (mm := 0) true h1 h2 (mx := none) (cmx := none) trivial hll hhh rfl (by simp) (by omega) (by omega) (by omega)
                          exact ⟨.slice none 0 0, by simp [Instr.slice, run_underlying hu, hb', hsize], .ms0 _ _ _ _ hb (by simp), rfl⟩
                      | ms _ _ _ _ _ _ b C cc o' hb hcC hlen hcap hnone ho =>
                        rw [hb] at hlc
                        cases hlc
                        cases ho' with
                        | buf _ _ _ _ _ _ hst hthere hC hrl hcell hpure hr =>
                          have hcc := hnone rfl
                          have hb' := bounds_ok (P := P) (w := w) (len := n) (cap := cc) (mm := cc) true h1 h2 (mx := none) (cmx := none) trivial hll hhh rfl (by simp) c2 (by omega) (by omega)
                          refine ⟨.slice (some ⟨b, if cc = ll then o' else o' + ll * ti.size, none⟩) (hh - ll) (cc - ll), ?_, ?_, rfl⟩
                          · simp only [Instr.slice, Sem.run_bind, run_underlying hu, Result.andThen_ok, hb', hsize, Sem.run_pure, Option.map_some, Addr.add_mid]
                            split <;> rfl
                          · refine .ms _ _ _ _ _ _ b C (cc - ll) _ hb (by omega) (by omega) (fun k hk => by cases hk) (fun _ => by omega) ?_
                            by_cases he : cc = ll
                            · left; omega
                            · right
                              rw [if_neg he, Nat.add_mul]
                              rcases ho with h | h <;> omega
                    · simp [Rd.run] at h
                  · simp [Rd.run] at h
                · simp at h
              · simp [Rd.run] at h
          · simp [Rd.run] at h
      · simp [Rd.run] at h
    · rename_i hk
      have hu := (hT.told ht').str hk
      rw [sliceAt_str hu]
      split at h
      · rename_i s
        obtain ⟨hc, rfl, rfl⟩ := ok_run h
        cases hx
        unfold cutS at hc
        simp only at hc
        split at hc
        · rename_i ll hh hll hhh
          split at hc
          · rename_i hcond
            cases hc
            cases cmx with
            | some _ => exact h3.elim
            | none =>
              have hb' := bounds_ok (P := P) (w := w) (cap := s.size) (mm := s.size) false h1 h2 (mx := none) (cmx := none) trivial hll hhh rfl (by simp) hcond.1 (by omega) (by omega)
              exact ⟨.string (s.extract ll hh), by simp [Instr.slice, run_underlying hu, hb'], .str _ _, rfl⟩
          · cases hc
        · cases hc
      · simp [Rd.run] at h
    · simp [Rd.run] at h
  · simp [Rd.run] at h

theorem over_len {row cs : List V} {o : Nat} (h : o + cs.length ≤ row.length) : (overwrite row o cs).length = row.length := by
  simp [overwrite]; omega

theorem over_get {row cs : List V} {o : Nat} (h : o + cs.length ≤ row.length) (k : Nat) : (overwrite row o cs)[k]? = if o ≤ k ∧ k < o + cs.length then cs[k - o]? else row[k]? := by
  unfold overwrite
  by_cases h1 : k < o
  · rw [if_neg (by omega), List.append_assoc, List.getElem?_append_left (by simp; omega), List.getElem?_take, if_pos h1]
  · by_cases h2 : k < o + cs.length
    · rw [if_pos (by omega), List.getElem?_append_left (by simp; omega), List.getElem?_append_right (by simp; omega)]
      simp [Nat.min_eq_left (show o ≤ row.length by omega)]
    · rw [if_neg (by omega), List.getElem?_append_right (by simp; omega), List.getElem?_drop]
      congr 1
      simp
      omega

theorem over_mem {row cs : List V} {o : Nat} {v : V} (h : v ∈ overwrite row o cs) : v ∈ row ∨ v ∈ cs := by
  unfold overwrite at h
  simp only [List.mem_append] at h
  rcases h with (h | h) | h
  · exact .inl (List.mem_of_mem_take h)
  · exact .inr h
  · exact .inl (List.mem_of_mem_drop h)

/-- One part's cells, laid over others. -/
theorem set_rel {cs : List V} {cvs : Array Value} (h : RelAll F (cl w) β cs cvs) {x : V} {cx : Value} (hx : RelAll F (cl w) β x.cells cx.cells) {o : Nat} (hl : o + x.cells.length ≤ cs.length) :
    RelAll F (cl w) β (overwrite cs o x.cells) (cx.cells.zipIdx.foldl (fun cs (c, j) => cs.setIfInBounds (o + j) c) cvs) := by
  have e : (cx.cells.zipIdx.foldl (fun cs (c, j) => cs.setIfInBounds (o + j) c) cvs) = (cx.cells.toList.zipIdx 0).foldl (fun cs (x : Value × Nat) => cs.setIfInBounds (o + x.2) x.1) cvs := by
    rw [← Array.foldl_toList, Array.toList_zipIdx]
  rw [e]
  obtain ⟨g1, g2⟩ := Great.foldl_set o cx.cells.toList 0 cvs
  refine ⟨by rw [g1, over_len hl, h.size], fun j v hv => ?_⟩
  rw [Array.getD_eq_getD_getElem?, g2 j]
  rw [over_get hl] at hv
  simp only [Nat.add_zero, Array.length_toList, hx.size, h.size]
  by_cases hj : o ≤ j ∧ j < o + x.cells.length
  · rw [if_pos hj] at hv
    rw [if_pos ⟨hj.1, hj.2, by omega⟩]
    have := hx.at_ _ _ hv
    rwa [Array.getD_eq_getD_getElem?, ← Array.getElem?_toList] at this
  · rw [if_neg hj] at hv
    rw [if_neg (by omega)]
    have := h.at_ _ _ hv
    rwa [Array.getD_eq_getD_getElem?] at this

/-- Parts of a literal, beside Go's. -/
def PartsRel (F : Froz) (c : Nat → Nat → Option Value) (β : Place) : List (Nat × V) → List (Nat × Value) → Prop
  | [], [] => True
  | (i, v) :: r, (j, cv) :: s => i = j ∧ Rel F c β v cv ∧ PartsRel F c β r s
  | _, _ => False

theorem fillS_ok {fs : List (Nat × TypeId)} {place : Nat → Option (Nat × Nat)} (hp : ∀ i o t ti, fs[i]? = some (o, t) → T t = some ti → place i = some (o, ti.size)) :
    ∀ (ps : List (Nat × V)) (cps : List (Nat × Value)) (cs cs' : List V) (cvs : Array Value), PartsRel F (cl w) β ps cps → RelAll F (cl w) β cs cvs → cs.all V.isCell = true → fillS T fs cs ps = some cs' →
      ∃ cvs', Instr.fill place cvs cps = some cvs' ∧ RelAll F (cl w) β cs' cvs' ∧ cs'.length = cs.length ∧ cs'.all V.isCell = true
  | [], [], cs, cs', cvs, _, hr, hc, h => by
    simp only [fillS, Option.some.injEq] at h
    subst h
    exact ⟨cvs, rfl, hr, rfl, hc⟩
  | [], _ :: _, _, _, _, hp, _, _, _ => hp.elim
  | _ :: _, [], _, _, _, hp, _, _, _ => by cases hp
  | (i, v) :: ps, (j, cv) :: cps, cs, cs', cvs, hpr, hr, hc, h => by
    obtain ⟨rfl, hv, hrest⟩ := hpr
    simp only [fillS] at h
    split at h
    · rename_i o t hf
      split at h
      · rename_i ti hti
        split at h
        · rename_i hcond
          obtain ⟨c1, c2, c3⟩ := hcond
          have hx := hv.cells c3
          have hset := set_rel hr hx (o := o) (by omega)
          obtain ⟨cvs', h1, h2, h3, h4⟩ := fillS_ok hp ps cps _ cs' _ hrest hset (by
            simp only [List.all_eq_true] at hc c3 ⊢
            intro u hu
            rcases over_mem hu with h | h
            · exact hc u h
            · exact c3 u h) h
          refine ⟨cvs', ?_, h2, by rw [h3, over_len (by omega)], h4⟩
          unfold Instr.fill
          rw [hp i o t ti hf hti]
          simp only
          rw [if_neg]
          · exact h1
          · have := hx.size
            have := hr.size
            simp
            omega
        · cases h
      · cases h
    · cases h

include hT in
theorem places_ok : ∀ (Fs : List Field), ((Fs.map fun f => (f.offset, f.type)).all fun p => (T p.2).isSome) = true →
    ∃ places : List (Nat × Nat), Fs.mapM (fun f => (P.info? f.type).map fun i => (f.offset, i.size)) = some places ∧ ∀ (i o : Nat) (t : TypeId) (ti : TI), (Fs.map fun f => (f.offset, f.type))[i]? = some (o, t) → T t = some ti → places[i]? = some (o, ti.size)
  | [], _ => ⟨[], rfl, by simp⟩
  | f :: Fs, h => by
    simp only [List.map_cons, List.all_cons, Bool.and_eq_true] at h
    obtain ⟨places, h1, h2⟩ := places_ok Fs h.2
    obtain ⟨ti, hti⟩ := Option.isSome_iff_exists.1 h.1
    obtain ⟨i, z, hi, hs, _⟩ := (hT.told hti).info
    refine ⟨(f.offset, ti.size) :: places, by simp [List.mapM_cons, hi, h1, hs], fun j o t ti' hj htj => ?_⟩
    cases j with
    | zero =>
      simp only [List.map_cons, List.getElem?_cons_zero, Option.some.injEq, Prod.mk.injEq] at hj
      obtain ⟨rfl, rfl⟩ := hj
      rw [hti] at htj
      cases htj
      rfl
    | succ j => exact h2 j o t ti' (by simpa using hj) htj

include hT in
theorem build_ok {t : TypeId} {ps : List (Nat × V)} {cps : Array (Nat × Value)} (h : (buildR T t ps).run H l = some ((v, u), l')) (hp : PartsRel F (cl w) β ps cps.toList) :
    ∃ cw, (Instr.build t cps).run P w = .ok cw w ∧ Rel F (cl w) β v cw ∧ u = [] := by
  unfold buildR at h
  split at h
  · rename_i ti ht
    split at h
    · rename_i fs hk
      split at h
      · rename_i hall
        split at h
        · rename_i cs hcs
          simp only [Rd.run, Option.some.injEq, Prod.mk.injEq] at h
          obtain ⟨⟨rfl, rfl⟩, _⟩ := h
          obtain ⟨Fs, hu, rfl, _⟩ := (hT.told ht).struct hk
          obtain ⟨i, z, hi, hs, _, hz, hzok⟩ := (hT.told ht).info
          obtain ⟨places, hpl, hpl2⟩ := places_ok hT Fs.toList hall
          obtain ⟨hzr, hzc, _⟩ := zOK_rel hzok F (cl w) β
          obtain ⟨cvs', h1, h2, h3, h4⟩ := fillS_ok (T := T) (place := (places.toArray[·]?)) (fun i o t ti hf hti => by simpa using hpl2 i o t ti hf hti) ps cps.toList _ cs _ hp (hzr.cells hzc) hzc hcs
          refine ⟨.agg cvs', run_build w t cps cvs' ?_, .agg _ _ _ h2.size h2.at_, rfl⟩
          unfold Program.built
          rw [hi, hu]
          simp only [hz, hpl]
          exact h1
        · simp [Rd.run] at h
      · simp [Rd.run] at h
    · simp [Rd.run] at h
  · simp [Rd.run] at h

/-! Maps. -/
theorem isKey_ok {t : TypeId} {x : V} {cx : Value} (hT : TOK P T) (h : isKey T t x = true) (hx : Rel F (cl w) β x cx) : ∃ d, P.underlying t = some d ∧ MapKept.IsKey d cx := by
  unfold isKey at h
  split at h
  · rename_i ti hti
    split at h
    · rename_i k k' n hk
      cases hx
      have hkk : k = k' := by simpa using h
      subst hkk
      exact ⟨_, (hT.told hti).int hk, by simp [MapKept.IsKey]⟩
    · rename_i s hk
      cases hx
      exact ⟨_, (hT.told hti).str hk, by simp [MapKept.IsKey]⟩
    · cases h
  · cases h

theorem find_ok {d : TypeDesc} {k : V} {ck : Value} (hk : Rel F (cl w) β k ck) (hd : MapKept.IsKey d ck) : ∀ (es : List (V × V)) (ces : List MapEntry) (i : Nat) (r : Option V), es.length = ces.length →
    (∀ (j : Nat) (e : V × V), es[j]? = some e → ∃ ce, ces[j]? = some ce ∧ Rel F (cl w) β e.1 ce.key ∧ Rel F (cl w) β e.2 ce.val) → findKey k es = some r →
      match r with
      | none => Instr.findNow d ck ces i = some none
      | some v => ∃ j cv, Instr.findNow d ck ces i = some (some (i + j, cv)) ∧ Rel F (cl w) β v cv
  | [], [], i, r, _, _, h => by
    simp only [findKey, Option.some.injEq] at h
    subst h
    rfl
  | [], _ :: _, _, _, hl, _, _ => by simp at hl
  | _ :: _, [], _, _, hl, _, _ => by simp at hl
  | (k', v') :: es, ce :: ces, i, r, hl, hr, h => by
    obtain ⟨ce', hce, r1, r2⟩ := hr 0 (k', v') rfl
    simp only [List.getElem?_cons_zero, Option.some.injEq] at hce
    subst hce
    have same : ∀ b, eqCell k k' = some b → Instr.sameNow d ck ce.key = some b := by
      intro b hb
      unfold eqCell at hb
      split at hb
      · cases hk; cases d <;> simp [MapKept.IsKey] at hd; simp at r1; cases hb; generalize ce.key = q at *; cases r1; rfl
      · split at hb
        · rename_i hkk
          subst hkk
          cases hk; cases d <;> simp [MapKept.IsKey] at hd
          cases hb; generalize ce.key = q at *; cases r1; simp [Instr.sameNow]
        · cases hb
      · cases hk; cases d <;> simp [MapKept.IsKey] at hd; cases hb; generalize ce.key = q at *; cases r1; rfl
      · cases hb
    simp only [findKey] at h
    split at h
    · rename_i hb
      cases h
      exact ⟨0, ce.val, by simp [Instr.findNow, same _ hb], r2⟩
    · rename_i hb
      have ih := find_ok hk hd es ces (i + 1) r (by simpa using hl) (fun j e he => hr (j + 1) e he) h
      cases r with
      | none => simp only at ih ⊢; simp [Instr.findNow, same _ hb, ih]
      | some v =>
        obtain ⟨j, cv, h1, h2⟩ := ih
        exact ⟨j + 1, cv, by simp [Instr.findNow, same _ hb, h1]; omega, h2⟩
    · cases h

include hT in
theorem lookup_ok {B : Base} (hI : Inv B β F H w) {t : TypeId} {m k : V} {cok : Bool} {cm ck : Value} (h : (lookupR T t m k cok).run H l = some ((v, u), l')) (hm : Rel F (cl w) β m cm) (hk : Rel F (cl w) β k ck) :
    ∃ cw, (Instr.lookup t cm ck cok).run P w = .ok cw w ∧ Rel F (cl w) β v cw ∧ u = [] := by
  unfold lookupR at h
  split at h
  · rename_i ti' ht
    split at h
    · rename_i kt et hkd
      have hu := (hT.told ht).map hkd
      split at h
      · rename_i ti hti
        obtain ⟨z, hz, hzok⟩ := (hT.told hti).zero (P := P) w
        have hzr := (zOK_rel hzok F (cl w) β).1
        split at h
        · rename_i hkey
          obtain ⟨d, hd, hisk⟩ := isKey_ok hT hkey hk
          have give : ∀ (r : Option V) (cr : Value), (match r with | none => cr = z | some v => Rel F (cl w) β v cr) →
              Rel F (cl w) β (giveR ti cok r) (if cok then .tuple #[cr, .bool r.isSome] else cr) := by
            intro r cr hr
            have two : ∀ (x : V) (b : Bool), Rel F (cl w) β x cr → Rel F (cl w) β (if cok then .tup [x, .bool b] else x) (if cok then .tuple #[cr, .bool b] else cr) := by
              intro x b hx
              cases cok
              · simpa using hx
              · simp only [if_true]
                refine .tup _ _ _ rfl fun j v hj => ?_
                match j, hj with
                | 0, hj => simp at hj; subst hj; exact hx
                | 1, hj => simp at hj; subst hj; exact .bool _ _
                | j + 2, hj => simp at hj
            cases r with
            | none => exact two _ _ (by simp only at hr; rw [hr]; exact hzr)
            | some v => exact two _ _ hr
          split at h
          · simp only [Rd.run, Option.some.injEq, Prod.mk.injEq] at h
            obtain ⟨⟨rfl, rfl⟩, _⟩ := h
            cases hm
            refine ⟨_, ?_, give none z rfl, rfl⟩
            simp [Instr.lookup, run_underlying hu, MapKept.run_checkKey hd hisk, MapKept.run_findKey hd (l := []) (a := none) rfl, hz]
          · rename_i i
            simp only [Rd.run] at h
            split at h
            · rename_i ob hob
              split at h
              · rename_i es p
                split at h
                · rename_i r hr
                  simp only [Rd.run, Option.some.injEq, Prod.mk.injEq] at h
                  obtain ⟨⟨rfl, rfl⟩, _⟩ := h
                  cases hm with
                  | map _ _ b hb =>
                    obtain ⟨lc, hl, ho⟩ := hI.obs _ _ hob
                    rw [hb] at hl
                    cases hl
                    cases ho with
                    | mp _ _ _ ces clock hw hs hpure hre =>
                      have hf := find_ok (d := d) hk hisk es ces.toList 0 r (by simp [hs]) (fun j e he => by
                        have hj := (List.getElem?_eq_some_iff.1 he).1
                        obtain ⟨q1, q2⟩ := hre j e he
                        have hc : ces[j]? = some (ces[j]'(by omega)) := by simp
                        rw [Array.getD_eq_getD_getElem?, hc] at q1 q2
                        exact ⟨_, by simp, q1, q2⟩) hr
                      cases r with
                      | none =>
                        refine ⟨_, ?_, give none z rfl, rfl⟩
                        simp [Instr.lookup, run_underlying hu, MapKept.run_getObj_map hw, MapKept.run_checkKey hd hisk, MapKept.run_findKey hd hf, hz]
                      | some v =>
                        obtain ⟨j, cv, h1, h2⟩ := hf
                        refine ⟨_, ?_, give (some v) cv h2, rfl⟩
                        simp [Instr.lookup, run_underlying hu, MapKept.run_getObj_map hw, MapKept.run_checkKey hd hisk, MapKept.run_findKey hd h1]
                · simp [Rd.run] at h
              · simp [Rd.run] at h
            · simp at h
          · simp [Rd.run] at h
        · simp [Rd.run] at h
      · simp [Rd.run] at h
    · simp [Rd.run] at h
  · simp [Rd.run] at h
end

end Go.Proofs.YteookeenkjpemaaGreat.R
/- Operations that make objects, or turn them. -/
namespace Go.Proofs.YteookeenkjpemaaGreat.R
set_option linter.unusedVariables false
set_option linter.unusedSimpArgs false
open Go Go.RowKit

def Place.set (β : Place) (n : Nat) (l : Loc) : Place := fun i => if i = n then some l else β i

theorem set_ext {β : Place} {n : Nat} {l : Loc} (hn : β n = none) : ∀ i l', β i = some l' → (β.set n l) i = some l' := by
  intro i l' h
  unfold Place.set
  rw [if_neg]
  · exact h
  · rintro rfl
    rw [hn] at h
    cases h

theorem cl_of_block {w w' : World} {b : Nat} (h : w'.heap[b]? = w.heap[b]?) (o : Nat) : cl w' b o = cl w b o := World.cell?_of_block (w := w) (a := ⟨b, o, none⟩) h
theorem frozen_of_block {w w' : World} {b : Nat} (h : w'.heap[b]? = w.heap[b]?) (o : Nat) : w'.frozen? ⟨b, o, none⟩ = w.frozen? ⟨b, o, none⟩ := World.frozen?_of_block (w := w) (a := ⟨b, o, none⟩) h

theorem ObRel.keep {F F' : Froz} {w w' : World} {β β' : Place} {lc : Loc} {ob : Ob} (h : ObRel F w β lc ob) (hx : Ext β β' F F' w w') (hb : ∀ b, lc.block = some b → w'.heap[b]? = w.heap[b]?) : ObRel F' w' β' lc ob := by
  cases h with
  | nil st frz pure => exact .nil _ _ _
  | buf b st C rows frz pure hst ht hC hlen hcell hpure h =>
    have hb' := hb b rfl
    refine .buf b st C rows frz pure hst ⟨fun j hj => ?_, fun c e lo hi h => ht.fr c e lo hi (by rw [← hb']; exact h), ht.sm⟩ hC hlen hcell hpure fun r j row v hr hv => ?_
    · have := ht.t j hj
      have e1 : w'.cell? ⟨b, 0 + j, none⟩ = w.cell? ⟨b, 0 + j, none⟩ := cl_of_block hb' _
      rw [e1, frozen_of_block hb']
      exact this
    · obtain ⟨cv, h1, h2⟩ := h r j row v hr hv
      exact ⟨cv, by rw [cl_of_block hb']; exact h1, hx.rel h2⟩
  | mp b es pure ces clock hw hs hpure h =>
    exact .mp b es pure ces clock (by rw [hb b rfl]; exact hw) hs hpure fun j e he => ⟨hx.rel (h j e he).1, hx.rel (h j e he).2⟩

theorem Inv.drew {B : Base} {β : Place} {F : Froz} {H : Heap} {w : World} (h : Inv B β F H w) : Inv B β F H w.drew :=
  ⟨h.os, h.tape, h.output, h.size, h.keep, h.kin, h.inj, h.fresh, fun i o ho => by
    obtain ⟨l, h1, h2⟩ := h.obs i o ho
    exact ⟨l, h1, h2.keep ⟨fun _ _ h => h, fun _ _ h => ⟨h, rfl⟩⟩ fun _ _ => rfl⟩, h.froz, h.prot⟩

theorem Ext.drew {β β' : Place} {F F' : Froz} {w w' : World} (h : Ext β β' F F' w w') : Ext β β' F F' w w'.drew := ⟨h.place, h.froz⟩

theorem heap_push_lt {w : World} {o : Obj} {k : Nat} (h : k < w.heap.size) : (w.alloc o).heap[k]? = w.heap[k]? := Below.heap_alloc w o k h
theorem heap_push_at {w : World} {o : Obj} : (w.alloc o).heap[w.heap.size]? = some o := by
  show (w.heap.push o)[w.heap.size]? = _
  simp

theorem alloc_ext {β : Place} {F : Froz} {w : World} {o : Obj} {n : Nat} {lc : Loc} (hn : β n = none) (hF : ∀ b o, F b o → b < w.heap.size) : Ext β (β.set n lc) F F w (w.alloc o) :=
  ⟨set_ext hn, fun b o hf => ⟨hf, cl_of_block (heap_push_lt (hF b o hf)) o⟩⟩

/-- A new object. -/
theorem Inv.alloc {B : Base} {β : Place} {F : Froz} {H : Heap} {w : World} (h : Inv B β F H w) {n : Nat} (hn : β n = none) {o : Obj} {lc : Loc} (hlc : lc.block = some w.heap.size) {ob : Ob}
    (hob : ObRel F (w.alloc o) (β.set n lc) lc ob) : Inv B (β.set n lc) F (H.put n (some ob)) (w.alloc o) := by
  have hF : ∀ b o, F b o → b < w.heap.size := fun b o hf => (h.froz b o hf).1
  have hext : Ext β (β.set n lc) F F w (w.alloc o) := alloc_ext hn hF
  have hsz : (w.alloc o).heap.size = w.heap.size + 1 := by show (w.heap.push o).size = _; simp
  refine ⟨h.os, h.tape, h.output, by have := h.size; omega, fun b hb => ?_, h.kin, ?_, ?_, ?_, fun b o hf => ⟨by have := hF b o hf; omega, (h.froz b o hf).2⟩, ?_⟩
  · rw [heap_push_lt (by have := h.kin b hb; have := h.size; omega)]
    exact h.keep b hb
  · intro i j oi oj l l' b hi hj hl hl' hb hb'
    unfold Place.set at hl hl'
    rw [at?_put] at hi hj
    by_cases e1 : i = n <;> by_cases e2 : j = n
    · rw [e1, e2]
    · rw [if_pos e1] at hl; rw [if_neg e2] at hl'
      cases hl
      rw [hlc] at hb; cases hb
      have := (h.fresh j l' _ hl' hb').1
      omega
    · rw [if_neg e1] at hl; rw [if_pos e2] at hl'
      cases hl'
      rw [hlc] at hb'; cases hb'
      have := (h.fresh i l _ hl hb).1
      omega
    · rw [if_neg e1] at hl hi; rw [if_neg e2] at hl' hj
      exact h.inj i j oi oj l l' b hi hj hl hl' hb hb'
  · intro i l b hl hb
    unfold Place.set at hl
    by_cases e : i = n
    · rw [if_pos e] at hl
      cases hl
      rw [hlc] at hb; cases hb
      exact ⟨by omega, fun hk => by have := h.kin _ hk; have := h.size; omega⟩
    · rw [if_neg e] at hl
      have := h.fresh i l b hl hb
      exact ⟨by omega, this.2⟩
  · intro i o' ho
    rw [at?_put] at ho
    by_cases e : i = n
    · rw [if_pos e] at ho
      cases ho
      exact ⟨lc, by unfold Place.set; rw [if_pos e], hob⟩
    · rw [if_neg e] at ho
      obtain ⟨l, h1, h2⟩ := h.obs i o' ho
      exact ⟨l, hext.place _ _ h1, h2.keep hext fun b hb => heap_push_lt (h.fresh i l b h1 hb).1⟩
  · intro i b st C st' rows frz pure hl ho o' hf
    unfold Place.set at hl
    rw [at?_put] at ho
    by_cases e : i = n
    · rw [if_pos e] at hl
      cases hl
      simp only [Loc.block, Option.some.injEq] at hlc
      have := hF _ _ hf
      omega
    · rw [if_neg e] at hl ho
      exact h.prot i b st C st' rows frz pure hl ho o' hf

/-- An object is gone. -/
theorem Inv.gone {B : Base} {β : Place} {F : Froz} {H : Heap} {w : World} (h : Inv B β F H w) (i : Nat) : Inv B β F (H.put i none) w := by
  have sub : ∀ j o, (H.put i none).at? j = some o → H.at? j = some o := by
    intro j o ho
    rw [at?_put] at ho
    split at ho
    · cases ho
    · exact ho
  exact ⟨h.os, h.tape, h.output, h.size, h.keep, h.kin, fun i j oi oj l l' b hi hj => h.inj i j oi oj l l' b (sub _ _ hi) (sub _ _ hj), h.fresh, fun i o ho => h.obs i o (sub _ _ ho), h.froz,
    fun i b st C st' rows frz pure hl ho => h.prot i b st C st' rows frz pure hl (sub _ _ ho)⟩

/-- An object's block turns. -/
theorem Inv.turn {B : Base} {β : Place} {F : Froz} {H : Heap} {w w' : World} (h : Inv B β F H w) {i b : Nat} {oi : Ob} {lc : Loc} (hi : β i = some lc) (hal : H.at? i = some oi) (hb : lc.block = some b)
    (hw : ∀ k, k ≠ b → w'.heap[k]? = w.heap[k]?) (hsz : w'.heap.size = w.heap.size) (hos : w'.os = w.os) (htape : w'.tape = w.tape) (hout : w'.output = w.output)
    (hF : ∀ o, F b o → cl w' b o = cl w b o) {ob : Ob} (hob : Ext β β F F w w' → ObRel F w' β lc ob) (hprot : ∀ st rows frz pure, ob = .buf st rows frz pure → ∀ o, F b o → frz = true ∧ o < rows.length * st) :
    Inv B β F (H.put i (some ob)) w' ∧ Ext β β F F w w' := by
  have hext : Ext β β F F w w' := ⟨fun _ _ h => h, fun b' o hf => by
    by_cases e : b' = b
    · subst e; exact ⟨hf, hF o hf⟩
    · exact ⟨hf, cl_of_block (hw b' e) o⟩⟩
  refine ⟨⟨by rw [hos, h.os], by rw [htape, h.tape], by rw [hout, h.output], by rw [hsz]; exact h.size, fun k hk => ?_, h.kin, ?_, fun j l k hl hk => by rw [hsz]; exact h.fresh j l k hl hk, ?_, fun k o hf => by rw [hsz]; exact h.froz k o hf, ?_⟩, hext⟩
  · rw [hw k (fun e => (h.fresh i lc b hi hb).2 (e ▸ hk))]
    exact h.keep k hk
  · intro j k oj ok l l' c hj hk hl hl' hc hc'
    rw [at?_put] at hj hk
    have alive : ∀ j o, (if j = i then some ob else H.at? j) = some o → ∃ o', H.at? j = some o' := by
      intro j o ho
      split at ho
      · rename_i e; exact ⟨oi, e ▸ hal⟩
      · exact ⟨o, ho⟩
    obtain ⟨oj', hj'⟩ := alive j oj hj
    obtain ⟨ok', hk'⟩ := alive k ok hk
    exact h.inj j k oj' ok' l l' c hj' hk' hl hl' hc hc'
  · intro j o ho
    rw [at?_put] at ho
    by_cases e : j = i
    · rw [if_pos e] at ho
      cases ho
      exact ⟨lc, e ▸ hi, hob hext⟩
    · rw [if_neg e] at ho
      obtain ⟨l, h1, h2⟩ := h.obs j o ho
      refine ⟨l, h1, h2.keep hext fun c hc => hw c ?_⟩
      rintro rfl
      exact e (h.inj j i o oi l lc c ho hal h1 hi hc hb)
  · intro j c st C st' rows frz pure hl ho o hf
    rw [at?_put] at ho
    by_cases e : j = i
    · rw [if_pos e] at ho
      cases ho
      rw [e, hi] at hl
      cases hl
      simp only [Loc.block, Option.some.injEq] at hb
      subst hb
      exact hprot _ _ _ _ rfl o hf
    · rw [if_neg e] at ho
      exact h.prot j c st C st' rows frz pure hl ho o hf

/-! New rows. -/
theorem anyIds_mem : ∀ {l : List V}, V.anyIds l = false ↔ ∀ v ∈ l, v.hasIds = false
  | [] => by simp [V.anyIds]
  | x :: r => by simp [V.anyIds, anyIds_mem (l := r)]

theorem rowIds_mem : ∀ {l : List (List V)}, rowIds l = false ↔ ∀ r ∈ l, ∀ v ∈ r, v.hasIds = false
  | [] => by simp [rowIds]
  | x :: r => by simp [rowIds, rowIds_mem (l := r), anyIds_mem]

theorem cl_new {w : World} {cells : Array Value} {e : TypeId} {j : Nat} (h : j < cells.size) : cl (w.alloc (.cells cells e)) w.heap.size j = some (cells.getD j undef) := by
  have := heap_push_at (w := w) (o := .cells cells e)
  simp only [cl, World.cell?, this]
  simp [h]

theorem there_new {w : World} {cells : Array Value} {e : TypeId} {n : Nat} (h : n ≤ cells.size) : (w.alloc (.cells cells e)).there w.heap.size 0 n := by
  intro j hj
  have := cl_new (w := w) (e := e) (show 0 + j < cells.size by omega)
  refine ⟨by unfold cl at this; rw [this]; rfl, ?_⟩
  have := heap_push_at (w := w) (o := .cells cells e)
  simp only [World.frozen?, this]
  simp

/-- A new row of rows. -/
theorem new_rel {F : Froz} {w : World} {β : Place} {rows : List (List V)} {cells : Array Value} {e : TypeId} {st C : Nat} {pure : Bool} (hst : 0 < st) (hsz : C * st ≤ cells.size) (hC : rows.length ≤ C) (hlen : ∀ row ∈ rows, row.length = st)
    (hcell : ∀ row ∈ rows, ∀ v ∈ row, v.isCell = true) (hpure : pure = true → ∀ row ∈ rows, ∀ v ∈ row, v.hasIds = false)
    (h : ∀ r j row v, rows[r]? = some row → row[j]? = some v → Rel F (cl (w.alloc (.cells cells e))) β v (cells.getD (r * st + j) undef)) (frz : Bool) (hCm : C ≤ 9223372036854775807) :
    ObRel F (w.alloc (.cells cells e)) β (.at w.heap.size st C) (.buf st rows frz pure) := by
  refine .buf _ _ _ _ _ _ hst ⟨there_new hsz, fun c e lo hi h => by rw [heap_push_at] at h; cases h; exact Nat.le_refl _, hCm⟩ hC hlen hcell hpure fun r j row v hr hv => ⟨_, cl_new ?_, h r j row v hr hv⟩
  have h1 := (List.getElem?_eq_some_iff.1 hr).1
  have h2 := (List.getElem?_eq_some_iff.1 hv).1
  have h3 := hlen row (List.mem_of_getElem? hr)
  have : (r + 1) * st ≤ C * st := Nat.mul_le_mul_right _ (by omega)
  rw [Nat.add_mul] at this
  omega

section
variable {P : Program} {T : TT} (hT : TOK P T) {B : Base} {F : Froz} {w : World} {β : Place} {H : Heap} {l l' : List Nat} {v : V} {u : Upd}

/-- What an operation leaves. -/
structure Left (n : Nat) (B : Base) (β : Place) (F : Froz) (H : Heap) (w : World) (v : V) (u : Upd) (cv : Value) (w' : World) (β' : Place) (F' : Froz) : Prop where
  rel : Rel F' (cl w') β' v cv
  inv : Inv B β' F' (H.puts u) w'
  ext : Ext β β' F F' w w'
  only : ∀ i, β' i ≠ β i → n ≤ i ∧ β i = none ∧ ∃ o, (i, o) ∈ u

theorem Left.quiet {n : Nat} {cv : Value} (hI : Inv B β F H w) (h : Rel F (cl w) β v cv) : Left n B β F H w v [] cv w β F := ⟨h, hI, Ext.refl _ _ _, fun i h => absurd rfl h⟩

theorem set_only {n : Nat} {lc : Loc} (hn : β n = none) {ob : Ob} (hu : (n, some ob) ∈ u) : ∀ i, (β.set n lc) i ≠ β i → n ≤ i ∧ β i = none ∧ ∃ o, (i, o) ∈ u := by
  intro i hi
  unfold Place.set at hi
  split at hi
  · rename_i e
    subst e
    exact ⟨Nat.le_refl _, hn, some ob, hu⟩
  · exact absurd rfl hi

include hT in
theorem alloc_ok {n : Nat} {t : TypeId} (hI : Inv B β F H w) (h : (allocR T n t).run H l = some ((v, u), l')) (hn : β n = none) :
    ∃ cv w' β' F', (Instr.alloc t true (.tuple #[])).run P w = .ok cv w' ∧ Left n B β F H w v u cv w' β' F' := by
  unfold allocR at h
  split at h
  · rename_i ti ht
    split at h
    · simp [Rd.run] at h
    · rename_i h0
      simp only [Rd.run, Option.some.injEq, Prod.mk.injEq] at h
      obtain ⟨⟨rfl, rfl⟩, _⟩ := h
      obtain ⟨z, hz, hzok⟩ := (hT.told ht).zero (P := P) w
      have hF : ∀ b o, F b o → b < w.heap.size := fun b o hf => (hI.froz b o hf).1
      have hext : Ext β (β.set n (.at w.heap.size ti.size 1)) F F w (w.alloc (.cells z.cells t)) := alloc_ext hn hF
      obtain ⟨hzr, hzc, hzi⟩ := zOK_rel hzok F (cl (w.alloc (.cells z.cells t))) (β.set n (.at w.heap.size ti.size 1))
      have hcells := hzr.cells hzc
      have hzl := (hT.told ht).zlen
      refine ⟨.pointer (some ⟨w.heap.size, 0 * ti.size + 0, none⟩), w.alloc (.cells z.cells t), β.set n (.at w.heap.size ti.size 1), F, ?_, ⟨?_, ?_, hext, set_only hn (.head _)⟩⟩
      · simp [Instr.alloc, hz, newVar, newRow]
      · exact .ptr _ _ _ _ _ _ 1 (by simp [Place.set])
      · refine hI.alloc hn rfl (new_rel (by omega) (by have := hcells.size; omega) (by simp) (by simpa using hzl) (by simpa using hzc) (fun _ => by simpa using anyIds_mem.1 hzi) (fun r j row v hr hv => ?_) false (by omega))
        have hr0 : r = 0 := by have := (List.getElem?_eq_some_iff.1 hr).1; simp at this; omega
        subst hr0
        simp only [List.getElem?_cons_zero, Option.some.injEq] at hr
        subst hr
        simpa using hcells.at_ j v hv
  · simp [Rd.run] at h

theorem box_ok {n : Nat} {t : TypeId} {x : V} {cx : Value} (hI : Inv B β F H w) (h : (boxR n x).run H l = some ((v, u), l')) (hx : Rel F (cl w) β x cx) (hn : β n = none) :
    ∃ cv w' β' F', (Instr.box t cx).run P w = .ok cv w' ∧ Left n B β F H w v u cv w' β' F' := by
  unfold boxR at h
  split at h
  · rename_i hc
    obtain ⟨hall, h0⟩ := hc
    simp only [Rd.run, Option.some.injEq, Prod.mk.injEq] at h
    obtain ⟨⟨rfl, rfl⟩, _⟩ := h
    have hF : ∀ b o, F b o → b < w.heap.size := fun b o hf => (hI.froz b o hf).1
    have hext : Ext β (β.set n (.at w.heap.size x.cells.length 1)) F F w (w.alloc (.cells cx.cells t)) := alloc_ext hn hF
    have hcells := hext.all (hx.cells hall)
    refine ⟨.pointer (some ⟨w.heap.size, 0 * x.cells.length + 0, none⟩), w.alloc (.cells cx.cells t), β.set n (.at w.heap.size x.cells.length 1), F, ?_, ⟨?_, ?_, hext, set_only hn (.head _)⟩⟩
    · simp [Instr.box, newVar, newRow]
    · exact .ptr _ _ _ _ _ _ 1 (by simp [Place.set])
    · refine hI.alloc hn rfl (new_rel (by omega) (by have := hcells.size; omega) (by simp) (by simp) (by simpa using hall) (fun hp => by simpa using anyIds_mem.1 (by simpa using hp)) (fun r j row v hr hv => ?_) false (by omega))
      have hr0 : r = 0 := by have := (List.getElem?_eq_some_iff.1 hr).1; simp at this; omega
      subst hr0
      simp only [List.getElem?_cons_zero, Option.some.injEq] at hr
      subst hr
      simpa using hcells.at_ j v hv
  · simp [Rd.run] at h

theorem makeMap_ok {n : Nat} {t : TypeId} (hI : Inv B β F H w) (hn : β n = none) :
    ∃ cv w' β' F', (Instr.makeMap t none).run P w = .ok cv w' ∧ Left n B β F H w (.map n) [(n, some (.mp [] true))] cv w' β' F' := by
  have hF : ∀ b o, F b o → b < w.heap.size := fun b o hf => (hI.froz b o hf).1
  refine ⟨.map (some w.heap.size), w.alloc (.map #[] 0), β.set n (.mp w.heap.size), F, rfl, ⟨?_, ?_, alloc_ext hn hF, set_only hn (.head _)⟩⟩
  · exact .map _ _ _ (by simp [Place.set])
  · exact hI.alloc hn rfl (.mp _ _ _ #[] 0 heap_push_at rfl (by simp) (by simp))
end

/-! Cells written. -/
theorem setCells_heap (b : Nat) : ∀ (vs : List Value) (o : Nat) (w : World), (w.setCells b o vs).heap.size = w.heap.size ∧ (∀ k, k ≠ b → (w.setCells b o vs).heap[k]? = w.heap[k]?) ∧ (w.setCells b o vs).os = w.os ∧ (w.setCells b o vs).tape = w.tape ∧ (w.setCells b o vs).output = w.output
  | [], _, _ => ⟨rfl, fun _ _ => rfl, rfl, rfl, rfl⟩
  | v :: r, o, w => by
    obtain ⟨h1, h2, h3, h4, h5⟩ := setCells_heap b r (o + 1) (w.setCell ⟨b, o, none⟩ v)
    refine ⟨by rw [World.setCells, h1]; simp [World.setCell], fun k hk => ?_, by rw [World.setCells, h3]; rfl, by rw [World.setCells, h4]; rfl, by rw [World.setCells, h5]; rfl⟩
    rw [World.setCells, h2 k hk]
    exact Below.heap_setCell w ⟨b, o, none⟩ v k hk

theorem cl_setCells_in {w : World} {b o : Nat} {vs : List Value} (h : w.there b o vs.length) {j : Nat} (hj : j < vs.length) : cl (w.setCells b o vs) b (o + j) = some (vs.getD j undef) := by
  have := World.cell?_setCells_in b vs o w (fun i hi => (h i hi).1) j hj
  unfold cl
  rw [this]
  simp [hj]

theorem cl_setCells_out {w : World} {b o : Nat} {vs : List Value} {k : Nat} (h : k < o ∨ o + vs.length ≤ k) : cl (w.setCells b o vs) b k = cl w b k :=
  World.cell?_setCells_out b vs o w ⟨b, k, none⟩ fun _ _ => h

theorem fr_setCells {w : World} {b : Nat} (h : ∀ c e lo hi, w.heap[b]? = some (.cells c e (lo, hi)) → lo ≤ hi) : ∀ (vs : List Value) (q : Nat) (c : Array Value) (e : TypeId) (lo hi : Nat), (w.setCells b q vs).heap[b]? = some (.cells c e (lo, hi)) → lo ≤ hi := by
  intro vs
  induction vs generalizing w with
  | nil => intro q c e lo hi hh; exact h c e lo hi hh
  | cons v r ih =>
    intro q c e lo hi hh
    rw [World.setCells] at hh
    refine ih (w := w.setCell ⟨b, q, none⟩ v) (fun c' e' lo' hi' h' => ?_) (q + 1) c e lo hi hh
    have h2 : (w.heap.modify b fun
      | .cells c elem frozen => .cells (if (none : Option Nat).isSome then c else c.setIfInBounds q v) elem frozen
      | o => o)[b]? = some (.cells c' e' (lo', hi')) := h'
    rw [Array.getElem?_modify, if_pos rfl, Option.map_eq_some_iff] at h2
    obtain ⟨o, ho, h3⟩ := h2
    cases o <;> simp at h3
    obtain ⟨_, rfl, rfl⟩ := h3
    exact h _ _ _ _ ho

theorem there_sub {w : World} {b n q m : Nat} (h : w.there b 0 n) (hq : q + m ≤ n) : w.there b q m := fun j hj => by
  have := h (q + j) (by omega)
  rwa [Nat.zero_add] at this

theorem ObRel.write {F : Froz} {w : World} {β : Place} {b st C : Nat} {rows rows' : List (List V)} {frz frz' p p' : Bool} (h : ObRel F w β (.at b st C) (.buf st rows frz p)) {vs : List Value} {q : Nat} (hq : q + vs.length ≤ C * st)
    (hx : Ext β β F F w (w.setCells b q vs)) (hC' : rows'.length ≤ C) (hlen' : ∀ row ∈ rows', row.length = st) (hcell' : ∀ row ∈ rows', ∀ v ∈ row, v.isCell = true) (hpure' : p' = true → ∀ row ∈ rows', ∀ v ∈ row, v.hasIds = false)
    (hr : ∀ r j row v, rows'[r]? = some row → row[j]? = some v → if q ≤ r * st + j ∧ r * st + j < q + vs.length then Rel F (cl w) β v (vs.getD (r * st + j - q) undef) else ∃ row0, rows[r]? = some row0 ∧ row0[j]? = some v) :
    ObRel F (w.setCells b q vs) β (.at b st C) (.buf st rows' frz' p') := by
  cases h with
  | buf _ _ _ _ _ _ hst ht hC hlen hcell hpure h =>
    refine .buf _ _ _ _ _ _ hst ⟨World.there_setCells ht.t b q vs, fr_setCells ht.fr vs q, ht.sm⟩ hC' hlen' hcell' hpure' fun r j row v hrow hv => ?_
    have := hr r j row v hrow hv
    split at this
    · rename_i hin
      refine ⟨_, ?_, hx.rel this⟩
      have := cl_setCells_in (there_sub ht.t hq) (j := r * st + j - q) (by omega)
      rwa [show q + (r * st + j - q) = r * st + j by omega] at this
    · rename_i hout
      obtain ⟨row0, h1, h2⟩ := this
      obtain ⟨cv, h3, h4⟩ := h r j row0 v h1 h2
      exact ⟨cv, by rw [cl_setCells_out (by omega)]; exact h3, hx.rel h4⟩

section
variable {P : Program} {T : TT} (hT : TOK P T) {B : Base} {F : Froz} {w : World} {β : Place} {H : Heap} {l l' : List Nat} {v : V} {u : Upd}

include hT in
theorem store_ok {n : Nat} {t : TypeId} {a x : V} {ca cx : Value} (hI : Inv B β F H w) (h : (storeR T t a x).run H l = some ((v, u), l')) (ha : Rel F (cl w) β a ca) (hx : Rel F (cl w) β x cx) :
    ∃ w' β' F', (Instr.storeAt t ca cx).run P w = .ok () w' ∧ Left n B β F H w v u undef w' β' F' := by
  unfold storeR at h
  split at h
  · simp [Rd.run] at h
  · rename_i ti ht
    split at h
    · rename_i i r off
      simp only [Rd.run] at h
      split at h
      · rename_i ob hob
        split at h
        · rename_i st rows p
          split at h
          · rename_i row hrow
            split at h
            · rename_i hc
              obtain ⟨c1, c2, c3⟩ := hc
              simp only [Rd.run, Option.some.injEq, Prod.mk.injEq] at h
              obtain ⟨⟨rfl, rfl⟩, _⟩ := h
              cases ha with
              | ptr _ _ _ _ b st' C hb =>
                obtain ⟨lc, hl, ho⟩ := hI.obs _ _ hob
                rw [hb] at hl
                cases hl
                have ho' := ho
                cases ho with
                | buf _ _ _ _ _ _ hst hthere hC hlen hcell hpure hr =>
                  have hcx := hx.cells c3
                  have hrl := hlen row (List.mem_of_getElem? hrow)
                  have hrlt := (List.getElem?_eq_some_iff.1 hrow).1
                  have hvl : cx.cells.toList.length = ti.size := by simp [hcx.size, c1]
                  have hin : (r * st + off) + cx.cells.toList.length ≤ C * st := by
                    have : (r + 1) * st ≤ C * st := Nat.mul_le_mul_right _ (by omega)
                    rw [Nat.add_mul] at this
                    omega
                  have hrun : (Instr.storeAt t (.pointer (some ⟨b, r * st + off, none⟩)) cx).run P w = .ok () (w.setCells b (r * st + off) cx.cells.toList) := by
                    have hs := run_storeCells_cells (P := P) b (r * st + off) cx.cells.toList 0 w (fun j hj => by simpa using (there_sub hthere.t hin j hj).1) (fun j hj => by simpa using (there_sub hthere.t hin j hj).2) (fun u hu => by
                      obtain ⟨j, hj⟩ := List.mem_iff_getElem?.1 hu
                      have hjl := (List.getElem?_eq_some_iff.1 hj).1
                      have hvj : x.cells[j]? = some (x.cells[j]'(by omega)) := by simp
                      have h1 := hcx.at_ j _ hvj
                      have h2 : cx.cells.getD j undef = u := by
                        rw [Array.getD_eq_getD_getElem?, ← Array.getElem?_toList, hj]; rfl
                      rw [h2] at h1
                      have := h1.one (by simp only [List.all_eq_true] at c3; exact c3 _ (List.getElem_mem _))
                      cases u <;> first | rfl | (simp [oneCell] at this))
                    simp only [Nat.add_zero] at hs
                    have hsz : cx.cells.size = ti.size := by rw [hcx.size, c1]
                    simp [Instr.storeAt, Instr.sureAddr, storeVar, (hT.told ht).sizeOf w, hsz, hs]
                  have hnoF : ∀ o, ¬ F b o := fun o hf => by
                    have := (hI.prot _ _ _ _ _ _ _ _ hb hob o hf).1
                    cases this
                  obtain ⟨s1, s2, s3, s4, s5⟩ := setCells_heap b cx.cells.toList (r * st + off) w
                  obtain ⟨g1, g2⟩ := hI.turn hb hob rfl s2 s1 s3 s4 s5 (fun o hf => absurd hf (hnoF o)) (ob := .buf st (rows.set r (overwrite row off x.cells)) false (p && !V.anyIds x.cells)) (fun hx' => by
                    have hoc : off + x.cells.length ≤ row.length := by omega
                    refine ObRel.write ho' hin hx' (by simpa using hC) (fun row' hm => ?_) (fun row' hm => ?_) (fun hp row' hm => ?_) (fun r' j row' v hr' hv => ?_)
                    · rcases List.mem_or_eq_of_mem_set hm with h | rfl
                      · exact hlen _ h
                      · rw [over_len hoc, hrl]
                    · rcases List.mem_or_eq_of_mem_set hm with h | rfl
                      · exact hcell _ h
                      · intro v hv
                        rcases over_mem hv with h | h
                        · exact hcell row (List.mem_of_getElem? hrow) v h
                        · simp only [List.all_eq_true] at c3; exact c3 v h
                    · simp only [Bool.and_eq_true, Bool.not_eq_true'] at hp
                      rcases List.mem_or_eq_of_mem_set hm with h | rfl
                      · exact hpure hp.1 _ h
                      · intro v hv
                        rcases over_mem hv with h | h
                        · exact hpure hp.1 row (List.mem_of_getElem? hrow) v h
                        · exact anyIds_mem.1 hp.2 v h
                    · rw [List.getElem?_set] at hr'
                      by_cases e : r = r'
                      · subst e
                        rw [if_pos rfl, if_pos hrlt] at hr'
                        cases hr'
                        rw [over_get hoc] at hv
                        by_cases hj : off ≤ j ∧ j < off + x.cells.length
                        · rw [if_pos hj] at hv
                          rw [if_pos (by omega)]
                          have := hcx.at_ _ _ hv
                          rw [show r * st + j - (r * st + off) = j - off by omega]
                          rwa [Array.getD_eq_getD_getElem?, ← Array.getElem?_toList, ← List.getD_eq_getElem?_getD] at this
                        · rw [if_neg hj] at hv
                          rw [if_neg (by omega)]
                          exact ⟨row, hrow, hv⟩
                      · rw [if_neg e] at hr'
                        have hjl := (List.getElem?_eq_some_iff.1 hv).1
                        have hrl' := hlen row' (List.mem_of_getElem? hr')
                        have hne : ¬ (r * st + off ≤ r' * st + j ∧ r' * st + j < r * st + off + cx.cells.toList.length) := by
                          rcases Nat.lt_or_gt_of_ne e with hlt | hgt
                          · have : (r + 1) * st ≤ r' * st := Nat.mul_le_mul_right _ hlt
                            rw [Nat.add_mul] at this
                            omega
                          · have : (r' + 1) * st ≤ r * st := Nat.mul_le_mul_right _ hgt
                            rw [Nat.add_mul] at this
                            omega
                        rw [if_neg hne]
                        exact ⟨row', hr', hv⟩) (fun _ _ _ _ _ o hf => absurd hf (hnoF o))
                  exact ⟨_, β, F, hrun, ⟨.undef _ _, g1, g2, fun i h => absurd rfl h⟩⟩
            · simp [Rd.run] at h
          · simp [Rd.run] at h
        · simp [Rd.run] at h
      · simp at h
    · simp [Rd.run] at h
end

end Go.Proofs.YteookeenkjpemaaGreat.R
/- Slices made and appended to; maps written. -/
namespace Go.Proofs.YteookeenkjpemaaGreat.R
set_option linter.unusedVariables false
set_option linter.unusedSimpArgs false
open Go Go.RowKit

section
variable {P : Program} {T : TT} (hT : TOK P T) {B : Base} {F : Froz} {w : World} {β : Place} {H : Heap} {l l' : List Nat} {v : V} {u : Upd}

/-- Rows, cell by cell. -/
def RowsAt (F : Froz) (c : Nat → Nat → Option Value) (β : Place) (st : Nat) (rows : List (List V)) (f : Nat → Value) : Prop := ∀ r j row v, rows[r]? = some row → row[j]? = some v → Rel F c β v (f (r * st + j))

theorem cell_of {F : Froz} {c : Nat → Nat → Option Value} {β : Place} {x : V} {cx : Value} (h : Rel F c β x cx) (hx : x.isCell = true) : cx.oneCell' = true := by
  have := h.one hx
  cases cx <;> first | rfl | (simp [oneCell] at this)

theorem fillR_ok {st : Nat} (hst : 0 < st) : ∀ (ps : List (Nat × V)) (cps : List (Nat × Value)) (rows rows' : List (List V)) (cells : Array Value), PartsRel F (cl w) β ps cps → RowsAt F (cl w) β st rows (fun k => cells.getD k undef) → cells.size = rows.length * st →
    (∀ row ∈ rows, row.length = st) → (∀ row ∈ rows, ∀ v ∈ row, v.isCell = true) → fillR st rows ps = some rows' →
      ∃ cells', Instr.fill (fun i => some (i * st, st)) cells cps = some cells' ∧ RowsAt F (cl w) β st rows' (fun k => cells'.getD k undef) ∧ cells'.size = cells.size ∧ rows'.length = rows.length ∧ (∀ row ∈ rows', row.length = st) ∧ (∀ row ∈ rows', ∀ v ∈ row, v.isCell = true)
  | [], [], rows, rows', cells, _, hr, hs, hl, hc, h => by
    simp only [fillR, Option.some.injEq] at h
    subst h
    exact ⟨cells, rfl, hr, rfl, rfl, hl, hc⟩
  | [], _ :: _, _, _, _, hp, _, _, _, _, _ => hp.elim
  | _ :: _, [], _, _, _, hp, _, _, _, _, _ => by cases hp
  | (i, x) :: ps, (j, cx) :: cps, rows, rows', cells, hpr, hr, hs, hl, hc, h => by
    obtain ⟨rfl, hx, hrest⟩ := hpr
    simp only [fillR] at h
    split at h
    · rename_i hcond
      obtain ⟨c1, c2, c3⟩ := hcond
      have hcx := hx.cells c3
      have e : (cx.cells.zipIdx.foldl (fun cs (c, j) => cs.setIfInBounds (i * st + j) c) cells) = (cx.cells.toList.zipIdx 0).foldl (fun cs (x : Value × Nat) => cs.setIfInBounds (i * st + x.2) x.1) cells := by
        rw [← Array.foldl_toList, Array.toList_zipIdx]
      obtain ⟨g1, g2⟩ := Great.foldl_set (i * st) cx.cells.toList 0 cells
      have hvl : cx.cells.toList.length = st := by simp [hcx.size, c1]
      have hin : (i + 1) * st ≤ rows.length * st := Nat.mul_le_mul_right _ (by omega)
      rw [Nat.add_mul] at hin
      obtain ⟨cells', h1, h2, h3, h4, h5, h6⟩ := fillR_ok hst ps cps (rows.set i x.cells) rows' ((cx.cells.toList.zipIdx 0).foldl (fun cs (x : Value × Nat) => cs.setIfInBounds (i * st + x.2) x.1) cells) hrest (by
        intro r j row v hrow hv
        show Rel F (cl w) β v (Array.getD _ _ _)
        rw [Array.getD_eq_getD_getElem?, g2, hvl]
        rw [List.getElem?_set] at hrow
        by_cases e : i = r
        · subst e
          rw [if_pos rfl, if_pos c2] at hrow
          cases hrow
          have hj := (List.getElem?_eq_some_iff.1 hv).1
          rw [if_pos (by omega)]
          have := hcx.at_ j v hv
          rw [show i * st + j - (i * st + 0) = j by omega]
          rwa [Array.getD_eq_getD_getElem?, ← Array.getElem?_toList] at this
        · rw [if_neg e] at hrow
          have hj := (List.getElem?_eq_some_iff.1 hv).1
          have hrl := hl row (List.mem_of_getElem? hrow)
          have hne : ¬ (i * st + 0 ≤ r * st + j ∧ r * st + j < i * st + 0 + st ∧ r * st + j < cells.size) := by
            rcases Nat.lt_or_gt_of_ne e with hlt | hgt
            · have : (i + 1) * st ≤ r * st := Nat.mul_le_mul_right _ hlt
              rw [Nat.add_mul] at this
              omega
            · have : (r + 1) * st ≤ i * st := Nat.mul_le_mul_right _ hgt
              rw [Nat.add_mul] at this
              omega
          rw [if_neg hne]
          have : Rel F (cl w) β v (cells.getD (r * st + j) undef) := hr r j row v hrow hv
          rwa [Array.getD_eq_getD_getElem?] at this) (by rw [g1, hs]; simp)
        (fun row hm => by
          rcases List.mem_or_eq_of_mem_set hm with h | rfl
          · exact hl _ h
          · exact c1)
        (fun row hm => by
          rcases List.mem_or_eq_of_mem_set hm with h | rfl
          · exact hc _ h
          · simpa using c3) h
      refine ⟨cells', ?_, h2, by rw [h3, g1], by rw [h4]; simp, h5, h6⟩
      unfold Instr.fill
      simp only
      rw [if_neg]
      · rw [e]; exact h1
      · have := hcx.size
        simp
        omega
    · cases h

include hT in
theorem buildSlice_ok {n : Nat} {t : TypeId} {len : Nat} {ps : List (Nat × V)} {cps : Array (Nat × Value)} (hI : Inv B β F H w) (h : (buildSliceR T n t len ps).run H l = some ((v, u), l')) (hp : PartsRel F (cl w) β ps cps.toList) (hn : β n = none) :
    ∃ cv w' β' F', (Instr.buildSlice t len cps).run P w = .ok cv w' ∧ Left n B β F H w v u cv w' β' F' := by
  unfold buildSliceR at h
  split at h
  · rename_i ti' ht'
    split at h
    · rename_i el hk
      have hu := (hT.told ht').slice hk
      split at h
      · rename_i ti ht
        split at h
        · simp [Rd.run] at h
        · rename_i hcond
          split at h
          · rename_i rows hrows
            simp only [Rd.run, Option.some.injEq, Prod.mk.injEq] at h
            obtain ⟨⟨rfl, rfl⟩, _⟩ := h
            have h0 : 0 < ti.size := by omega
            have hsmall : ¬ len * ti.size > 2 ^ 24 := by omega
            obtain ⟨i, z, hi, hs, _, hz, hzok⟩ := (hT.told ht).info
            obtain ⟨hzr, hzc, hzi⟩ := zOK_rel hzok F (cl w) β
            have hzcells := hzr.cells hzc
            have hzl := (hT.told ht).zlen
            have hzsz : z.cells.size = ti.size := by rw [hzcells.size, hzl]
            obtain ⟨cells', f1, f2, f3, f4, f5, f6⟩ := fillR_ok (F := F) (w := w) (β := β) h0 ps cps.toList (List.replicate len ti.zero.cells) rows ((Array.range (len * ti.size)).map (z.cells[· % z.cells.size]!)) hp (fun r j row v hrow hv => by
                have hm := List.mem_of_getElem? hrow
                have hlt := (List.getElem?_eq_some_iff.1 hrow).1
                simp only [List.length_replicate] at hlt
                have := List.eq_of_mem_replicate hm
                subst this
                have hj := (List.getElem?_eq_some_iff.1 hv).1
                have hb : (r + 1) * ti.size ≤ len * ti.size := Nat.mul_le_mul_right _ (by omega)
                rw [Nat.add_mul] at hb
                have hmod : (r * ti.size + j) % ti.size = j := by rw [Nat.add_comm, Nat.add_mul_mod_self_right]; exact Nat.mod_eq_of_lt (by omega)
                have := hzcells.at_ j v hv
                show Rel F (cl w) β v (Array.getD _ _ _)
                rw [Array.getD_eq_getD_getElem?, Array.getElem?_map]
                rw [Array.getElem?_eq_getElem (by simp; omega)]
                simp only [Array.getElem_range, Option.map_some, Option.getD_some, hzsz, hmod]
                rw [Array.getElem!_eq_getD, Array.getD_eq_getD_getElem?, Array.getElem?_eq_getElem (by omega)]
                rw [Array.getD_eq_getD_getElem?, Array.getElem?_eq_getElem (by omega)] at this
                exact this) (by simp) (fun row hm => by rw [List.eq_of_mem_replicate hm, hzl]) (fun row hm => by rw [List.eq_of_mem_replicate hm]; simpa using hzc) hrows
            have hF : ∀ b o, F b o → b < w.heap.size := fun b o hf => (hI.froz b o hf).1
            have hext : Ext β (β.set n (.at w.heap.size ti.size len)) F F w (w.alloc (.cells cells' el)) := alloc_ext hn hF
            have hlen : rows.length = len := by rw [f4]; simp
            have hcsz : cells'.size = len * ti.size := by rw [f3]; simp
            refine ⟨.slice (some ⟨w.heap.size, 0, none⟩) len len, w.alloc (.cells cells' el), β.set n (.at w.heap.size ti.size len), F, ?_, ⟨?_, ?_, hext, set_only hn (.head _)⟩⟩
            · by_cases hz0 : len = 0
              · subst hz0
                have hc0 : cells' = #[] := by
                  apply Array.eq_empty_of_size_eq_zero
                  rw [hcsz]; simp
                subst hc0
                have hr0 : Array.range 0 = #[] := rfl
                have f1' : Instr.fill (fun i => some (i * ti.size, ti.size)) #[] cps.toList = some #[] := by simpa [hr0] using f1
                simp [hr0, Instr.buildSlice, run_underlying hu, (hT.told ht).sizeOf w, f1', newRow]
              · exact run_buildSlice w t el len cps cells' i z hu hi hz (by rw [hs]; exact hsmall) (by rw [hs]; have := Nat.mul_pos (Nat.pos_of_ne_zero hz0) h0; omega) (by rw [hs]; exact f1)
            · exact .ms _ _ _ _ _ _ _ len len 0 (by simp [Place.set]) (by omega) (Nat.le_refl _) (by simp) (by simp) (by simp)
            · exact hI.alloc hn rfl (new_rel h0 (by omega) (by omega) f5 f6 (fun hp => rowIds_mem.1 (by simpa using hp)) (fun r j row v hr hv => hext.rel (f2 r j row v hr hv)) false (by have h7 := Nat.le_mul_of_pos_right len h0; omega))
          · simp [Rd.run] at h
      · simp [Rd.run] at h
    · simp [Rd.run] at h
  · simp [Rd.run] at h

/-! Maps. -/
theorem setKey_ok {d : TypeDesc} {k x : V} {ck : Value} (hk : Rel F (cl w) β k ck) (hd : MapKept.IsKey d ck) : ∀ (es es' : List (V × V)) (ces : List MapEntry) (i : Nat), es.length = ces.length →
    (∀ (j : Nat) (e : V × V), es[j]? = some e → ∃ ce, ces[j]? = some ce ∧ Rel F (cl w) β e.1 ce.key ∧ Rel F (cl w) β e.2 ce.val) → setKey k x es = some es' →
      (∃ j ce, Instr.findNow d ck ces i = some (some (i + j, ce.val)) ∧ ces[j]? = some ce ∧ ce.key = ck ∧ es' = es.set j (k, x) ∧ j < es.length) ∨ (Instr.findNow d ck ces i = some none ∧ es' = es ++ [(k, x)])
  | [], es', [], i, _, _, h => by
    simp only [setKey, Option.some.injEq] at h
    exact .inr ⟨rfl, h.symm⟩
  | [], _, _ :: _, _, hl, _, _ => by simp at hl
  | _ :: _, _, [], _, hl, _, _ => by simp at hl
  | (k', v') :: es, es', ce :: ces, i, hl, hr, h => by
    obtain ⟨ce', hce, r1, r2⟩ := hr 0 (k', v') rfl
    simp only [List.getElem?_cons_zero, Option.some.injEq] at hce
    subst hce
    have same : ∀ b, eqCell k k' = some b → Instr.sameNow d ck ce.key = some b ∧ (b = true → ce.key = ck) := by
      intro b hb
      unfold eqCell at hb
      split at hb
      · cases hk; cases d <;> simp [MapKept.IsKey] at hd; simp at r1; cases hb; generalize ce.key = q at *; cases r1; exact ⟨rfl, fun e => by simp at e; rw [e]⟩
      · split at hb
        · rename_i hkk
          subst hkk
          cases hk; cases d <;> simp [MapKept.IsKey] at hd
          cases hb; generalize ce.key = q at *; cases r1; exact ⟨by simp [Instr.sameNow], fun e => by simp at e; rw [e]⟩
        · cases hb
      · cases hk; cases d <;> simp [MapKept.IsKey] at hd; cases hb; generalize ce.key = q at *; cases r1; exact ⟨rfl, fun e => by rw [(MapKept.bytes_beq _ _).1 e]⟩
      · cases hb
    simp only [setKey] at h
    split at h
    · rename_i hb
      cases h
      exact .inl ⟨0, ce, by simp [Instr.findNow, (same _ hb).1], rfl, (same _ hb).2 rfl, rfl, by simp⟩
    · rename_i hb
      simp only [Option.map_eq_some_iff] at h
      obtain ⟨es'', h1, rfl⟩ := h
      rcases setKey_ok hk hd es es'' ces (i + 1) (by simpa using hl) (fun j e he => hr (j + 1) e he) h1 with ⟨j, c, g1, g2, g3, g4, g5⟩ | ⟨g1, g2⟩
      · exact .inl ⟨j + 1, c, by simp [Instr.findNow, (same _ hb).1, g1]; omega, by simpa using g2, g3, by rw [g4]; rfl, by simp; omega⟩
      · exact .inr ⟨by simp [Instr.findNow, (same _ hb).1, g1], by rw [g2]; rfl⟩
    · cases h

theorem fits_rel {ti : TI} {x : V} (h : fits ti x = true) : (x.isCell = true ∨ ∃ cs, x = .agg cs ∧ cs.all V.isCell = true) := by
  unfold fits at h
  split at h
  · simp only [Bool.and_eq_true] at h
    exact .inr ⟨_, rfl, h.2⟩
  · simp only [Bool.and_eq_true] at h
    exact .inl h.2

include hT in
theorem mapUpdate_ok {n : Nat} {t : TypeId} {m k x : V} {cm ck cx : Value} (hI : Inv B β F H w) (h : (mapUpdateR T t m k x).run H l = some ((v, u), l')) (hm : Rel F (cl w) β m cm) (hk : Rel F (cl w) β k ck) (hx : Rel F (cl w) β x cx) :
    ∃ w' β' F', (Instr.mapUpdate t cm ck cx).run P w = .ok () w' ∧ Left n B β F H w v u undef w' β' F' := by
  unfold mapUpdateR at h
  split at h
  · rename_i ti' ht'
    split at h
    · rename_i kt et hkd
      have hu := (hT.told ht').map hkd
      split at h
      · rename_i ti hti
        split at h
        · rename_i hcond
          obtain ⟨hkey, hfit⟩ := hcond
          obtain ⟨d, hd, hisk⟩ := isKey_ok hT hkey hk
          split at h
          · rename_i i
            simp only [Rd.run] at h
            split at h
            · rename_i ob hob
              split at h
              · rename_i es p
                split at h
                · rename_i es' hes
                  simp only [Rd.run, Option.some.injEq, Prod.mk.injEq] at h
                  obtain ⟨⟨rfl, rfl⟩, _⟩ := h
                  cases hm with
                  | map _ _ b hb =>
                    obtain ⟨lc, hl, ho⟩ := hI.obs _ _ hob
                    rw [hb] at hl
                    cases hl
                    cases ho with
                    | mp _ _ _ ces clock hw hs hpure hre =>
                      have hre' : ∀ (j : Nat) (e : V × V), es[j]? = some e → ∃ ce, ces.toList[j]? = some ce ∧ Rel F (cl w) β e.1 ce.key ∧ Rel F (cl w) β e.2 ce.val := fun j e he => by
                        have hj := (List.getElem?_eq_some_iff.1 he).1
                        obtain ⟨q1, q2⟩ := hre j e he
                        have hc : ces[j]? = some (ces[j]'(by omega)) := by simp
                        rw [Array.getD_eq_getD_getElem?, hc] at q1 q2
                        exact ⟨_, by simp, q1, q2⟩
                      have hblt : b < w.heap.size := (Array.getElem?_eq_some_iff.1 hw).1
                      have turn : ∀ ces' clock', ces'.size = es'.length → (∀ j e, es'[j]? = some e → Rel F (cl w) β e.1 (ces'.getD j default).key ∧ Rel F (cl w) β e.2 (ces'.getD j default).val) → (∀ e ∈ es', e ∈ es ∨ e = (k, x)) →
                          Inv B β F (H.put i (some (.mp es' (p && !x.hasIds)))) { w with heap := w.heap.setIfInBounds b (.map ces' clock') } ∧ Ext β β F F w { w with heap := w.heap.setIfInBounds b (.map ces' clock') } := by
                        intro ces' clock' q1 q2 q3
                        have hset := MapKept.heap_set (w := w) (r := b) (o' := .map ces' clock') hw
                        have hnoF : ∀ o, F b o → cl { w with heap := w.heap.setIfInBounds b (.map ces' clock') } b o = cl w b o := fun o _ => by
                          unfold cl World.cell?
                          simp only [hset.1, hw]
                        refine hI.turn (w' := { w with heap := w.heap.setIfInBounds b (.map ces' clock') }) hb hob rfl hset.2 (by simp) rfl rfl rfl hnoF (fun hx' => ?_) (fun _ _ _ _ e => by cases e)
                        refine .mp b es' _ ces' clock' hset.1 q1 (fun hp e he => ?_) fun j e he => ⟨hx'.rel (q2 j e he).1, hx'.rel (q2 j e he).2⟩
                        simp only [Bool.and_eq_true, Bool.not_eq_true'] at hp
                        rcases q3 e he with h | rfl
                        · exact hpure hp.1 e h
                        · refine ⟨?_, hp.2⟩
                          unfold isKey at hkey
                          split at hkey
                          · split at hkey <;> first | rfl | cases hkey
                          · cases hkey
                      rcases setKey_ok (d := d) (x := x) hk hisk es es' ces.toList 0 (by simp [hs]) hre' hes with ⟨j, ce, g1, g2, g3, g4, g5⟩ | ⟨g1, g2⟩
                      · have hcj : ces[j]? = some ce := by simpa using g2
                        have hjlt : j < ces.size := by omega
                        obtain ⟨t1, t2⟩ := turn (ces.modify j fun e => { e with key := ck, val := cx }) clock (by rw [g4]; simp [hs]) (fun r e he => by
                            rw [g4, List.getElem?_set] at he
                            rw [Array.getD_eq_getD_getElem?, Array.getElem?_modify]
                            by_cases e1 : j = r
                            · subst e1
                              rw [if_pos rfl, if_pos g5] at he
                              cases he
                              rw [if_pos rfl, hcj]
                              exact ⟨hk, hx⟩
                            · rw [if_neg e1] at he
                              rw [if_neg e1]
                              have := hre r e he
                              rwa [Array.getD_eq_getD_getElem?] at this) (fun e he => by
                            rw [g4] at he
                            exact List.mem_or_eq_of_mem_set he)
                        refine ⟨_, β, F, ?_, ⟨.undef _ _, t1, t2, fun i h => absurd rfl h⟩⟩
                        have hks : ((ces[j]?).map (·.key)).getD ck = ck := by simp [hcj, g3]
                        simp [Instr.mapUpdate, run_underlying hu, MapKept.run_getObj_map hw, MapKept.run_checkKey hd hisk, MapKept.run_findKey hd g1, hks, MapKept.run_keyThatStays hisk, MapKept.run_setObj_map _ hw]
                      · obtain ⟨t1, t2⟩ := turn (ces.push { key := ck, val := cx, born := clock }) (clock + 1) (by rw [g2]; simp [hs]) (fun r e he => by
                            rw [g2] at he
                            rw [Array.getD_eq_getD_getElem?, Array.getElem?_push]
                            by_cases e1 : r = ces.size
                            · subst e1
                              rw [if_pos rfl]
                              rw [List.getElem?_append_right (by omega)] at he
                              simp [hs] at he
                              subst he
                              exact ⟨hk, hx⟩
                            · rw [if_neg e1]
                              have hr : r < es.length := by
                                have := (List.getElem?_eq_some_iff.1 he).1
                                simp at this
                                omega
                              rw [List.getElem?_append_left hr] at he
                              have := hre r e he
                              rwa [Array.getD_eq_getD_getElem?] at this) (fun e he => by
                            rw [g2] at he
                            simp only [List.mem_append, List.mem_singleton] at he
                            exact he)
                        refine ⟨_, β, F, ?_, ⟨.undef _ _, t1, t2, fun i h => absurd rfl h⟩⟩
                        simp [Instr.mapUpdate, run_underlying hu, MapKept.run_getObj_map hw, MapKept.run_checkKey hd hisk, MapKept.run_findKey hd g1, MapKept.run_setObj_map _ hw]
                · simp [Rd.run] at h
              · simp [Rd.run] at h
            · simp at h
          · simp [Rd.run] at h
        · simp [Rd.run] at h
      · simp [Rd.run] at h
    · simp [Rd.run] at h
  · simp [Rd.run] at h
end

end Go.Proofs.YteookeenkjpemaaGreat.R
/- append. -/
namespace Go.Proofs.YteookeenkjpemaaGreat.R
set_option linter.unusedVariables false
set_option linter.unusedSimpArgs false
open Go Go.RowKit

section
variable {P : Program} {T : TT} (hT : TOK P T) {B : Base} {F : Froz} {w : World} {β : Place} {H : Heap} {l l' : List Nat} {v : V} {u : Upd}

/-- Rows that are appended: what they are in memory. -/
structure New (P : Program) (F : Froz) (w : World) (β : Place) (st : Nat) (tx : TypeId) (cx : Value) (new : List (List V)) (p : Bool) (news : List Value) : Prop where
  src : Src P st tx cx new.length news w
  at_ : RowsAt F (cl w) β st new (fun k => news.getD k undef)
  len : ∀ row ∈ new, row.length = st
  cell : ∀ row ∈ new, ∀ v ∈ row, v.isCell = true
  pure : p = true → ∀ row ∈ new, ∀ v ∈ row, v.hasIds = false
  first : ∀ m, m ≤ new.length → (Builtin.firstCells st m cx).run P w = .ok (news.take (m * st)).toArray w

theorem getD_map_range {n k : Nat} (f : Nat → Value) (h : k < n) : ((List.range n).map f).getD k undef = f k := by
  simp [h]

theorem idx_lt {r j n st : Nat} (hr : r < n) (hj : j < st) : r * st + j < n * st := by
  have : (r + 1) * st ≤ n * st := Nat.mul_le_mul_right _ hr
  rw [Nat.add_mul] at this
  omega

/-- Rows out of memory. -/
theorem new_of {st : Nat} {tx e' : TypeId} (hk : P.underlying tx = some (.slice e')) (h0 : 0 < st) {b o cap : Nat} {rows : List (List V)} (f : Nat → Value) (hc : ∀ k, k < rows.length * st → cl w b (o + k) = some (f k)) (hr : RowsAt F (cl w) β st rows f)
    (hlen : ∀ row ∈ rows, row.length = st) (hcell : ∀ row ∈ rows, ∀ v ∈ row, v.isCell = true) {p : Bool} (hpure : p = true → ∀ row ∈ rows, ∀ v ∈ row, v.hasIds = false) :
    New P F w β st tx (.slice (some ⟨b, o, none⟩) rows.length cap) rows p ((List.range (rows.length * st)).map f) := by
  refine ⟨Src.ofSlice w hk ⟨b, o, none⟩ rows.length cap _ (by simp) (fun j u hu => ?_) (fun u hu => ?_), fun r j row v hrow hv => ?_, hlen, hcell, hpure, fun m hm => ?_⟩
  · have hj : j < rows.length * st := by simpa using (List.getElem?_eq_some_iff.1 hu).1
    have : f j = u := by simpa [hj] using hu
    rw [Addr.add_mid]
    have := hc j hj
    unfold cl at this
    rw [this]
    simp_all
  · obtain ⟨k, hk, rfl⟩ := List.mem_map.1 hu
    have hk' : k < rows.length * st := by simpa using hk
    have hr' : k / st < rows.length := Nat.div_lt_of_lt_mul (by rw [Nat.mul_comm]; exact hk')
    have hj' : k % st < st := Nat.mod_lt _ h0
    have hm : rows[k / st] ∈ rows := List.getElem_mem _
    have hl := hlen _ hm
    have := hr (k / st) (k % st) rows[k / st] (rows[k / st][k % st]'(by omega)) (by simp) (by simp)
    rw [Nat.div_add_mod' k st] at this
    exact cell_of this (hcell _ hm _ (List.getElem_mem _))
  · have h1 := (List.getElem?_eq_some_iff.1 hrow).1
    have h2 := (List.getElem?_eq_some_iff.1 hv).1
    have h3 := hlen _ (List.mem_of_getElem? hrow)
    show Rel F (cl w) β v (List.getD _ _ _)
    rw [getD_map_range f (idx_lt h1 (by omega))]
    exact hr r j row v hrow hv
  · have hle : m * st ≤ rows.length * st := Nat.mul_le_mul_right _ hm
    refine run_firstCells_some w st m ⟨b, o, none⟩ rows.length cap _ (by simp only [List.length_take, List.length_map, List.length_range]; omega) fun j u hu => ?_
    have hj : j < rows.length * st := by
      have := (List.getElem?_eq_some_iff.1 hu).1
      simp only [List.length_take, List.length_map, List.length_range] at this
      omega
    have hj2 : j < m * st := by
      have := (List.getElem?_eq_some_iff.1 hu).1
      simp only [List.length_take, List.length_map, List.length_range] at this
      omega
    rw [List.getElem?_take, if_pos hj2] at hu
    have : f j = u := by simpa [hj] using hu
    rw [Addr.add_mid]
    have := hc j hj
    unfold cl at this
    rw [this]
    simp_all

theorem rows_ok {α : Type} {st : Nat} {tx e' : TypeId} (hI : Inv B β F H w) (hk : P.underlying tx = some (.slice e')) (h0 : 0 < st) {x : V} {cx : Value} {k : List (List V) → Bool → Rd α} {res : α × List Nat} (h : (rows? st x k).run H l = some res) (hx : Rel F (cl w) β x cx) :
    ∃ new p l1 news, (k new p).run H l1 = some res ∧ New P F w β st tx cx new p news := by
  have nil : ∀ (a : Option Addr) (cap : Nat) (p : Bool), New P F w β st tx (.slice a 0 cap) [] p [] := fun a cap p =>
    ⟨by
      cases a with
      | none => exact Src.ofNil w hk cap
      | some a => exact Src.ofSlice w hk a 0 cap [] (by simp) (by simp) (by simp), fun r j row v hr => by simp at hr, by simp, by simp, by simp, fun m hm => by
      have : m = 0 := by simpa using hm
      subst this
      cases a with
      | none => simpa using run_firstCells_none (P := P) w st 0 0 cap
      | some a => simpa using run_firstCells_some (P := P) w st 0 a 0 cap [] (by simp) (by simp)⟩
  unfold rows? at h
  split at h
  · cases hx
    exact ⟨[], true, l, [], h, nil _ _ _⟩
  · rename_i rows
    split at h
    · rename_i hall
      have hall' : ∀ r ∈ rows, r.length = st := by simpa using hall
      cases hx with
      | fz0 _ a cap => exact ⟨[], true, l, [], h, nil _ _ _⟩
      | fz _ _ b o st' cap g hl hst hcell hF hr =>
        have hst' : rows ≠ [] → st' = st := fun hne => by
          obtain ⟨r, hm⟩ := List.exists_mem_of_ne_nil rows hne
          rw [← hst r hm, hall' r hm]
        by_cases hne : rows = []
        · subst hne
          exact ⟨[], true, l, [], h, nil _ _ _⟩
        · obtain rfl := hst' hne
          refine ⟨rows, true, l, _, h, new_of hk h0 (fun k => g (k / st') (k % st')) (fun k hk => ?_) (fun r j row v hrow hv => ?_) hall' (fun row hm v hv => (hcell row hm v hv).1) (fun _ row hm v hv => (hcell row hm v hv).2)⟩
          · have := (hF (k / st') (k % st') (Nat.div_lt_of_lt_mul (by rw [Nat.mul_comm]; exact hk)) (Nat.mod_lt _ h0)).2
            rwa [Nat.add_assoc, Nat.div_add_mod' k st'] at this
          · have hj := (List.getElem?_eq_some_iff.1 hv).1
            have hl' := hall' row (List.mem_of_getElem? hrow)
            have e1 : (r * st' + j) / st' = r := by rw [Nat.add_comm, Nat.add_mul_div_right _ _ h0, Nat.div_eq_of_lt (by omega), Nat.zero_add]
            have e2 : (r * st' + j) % st' = j := by rw [Nat.add_comm, Nat.add_mul_mod_self_right]; exact Nat.mod_eq_of_lt (by omega)
            show Rel F (cl w) β v (g ((r * st' + j) / st') ((r * st' + j) % st'))
            rw [e1, e2]
            exact (hr r j row v hrow hv).mono (fun b o h => ⟨h, rfl⟩) (by simp [none0])
    · simp [Rd.run] at h
  · rename_i i st' o n c
    split at h
    · rename_i hst
      subst hst
      simp only [Rd.run] at h
      split at h
      · rename_i ob hob
        split at h
        · rename_i st2 rows frz pure
          split at h
          · rename_i hc
            obtain ⟨rfl, hon⟩ := hc
            cases hx with
            | ms0 => exact ⟨_, _, _, [], h, by simpa using nil none 0 pure⟩
            | ms _ _ _ _ _ _ b C cc o' hb hcC hlen hcap hnone ho =>
              obtain ⟨lc, hl, ho'⟩ := hI.obs _ _ hob
              rw [hb] at hl
              cases hl
              cases ho' with
              | buf _ _ _ _ _ _ hst hthere hC hrl hcell hpure hr =>
                have hlen' : ((rows.drop o).take n).length = n := by simp; omega
                have hget : ∀ r, r < n → ((rows.drop o).take n)[r]? = rows[o + r]? := fun r hr => by
                  rw [List.getElem?_take, if_pos hr, List.getElem?_drop]
                refine ⟨_, _, _, (List.range (n * st2)).map (fun k => (cl w b (o' + k)).getD undef), h, ?_⟩
                by_cases hn : n = 0
                · subst hn
                  simpa using nil (some ⟨b, o', none⟩) cc pure
                · have ho2 : o' = o * st2 := by rcases ho with h | h <;> omega
                  have hcell1 : ∀ r j row v, ((rows.drop o).take n)[r]? = some row → row[j]? = some v → ∃ cv, cl w b (o' + (r * st2 + j)) = some cv ∧ Rel F (cl w) β v cv := by
                    intro r j row v hrow hv
                    have hr' : r < n := by have := (List.getElem?_eq_some_iff.1 hrow).1; omega
                    rw [hget r hr'] at hrow
                    obtain ⟨cv, h1, h2⟩ := hr (o + r) j row v hrow hv
                    exact ⟨cv, by rw [ho2, ← h1, Nat.add_mul]; congr 1; omega, h2⟩
                  have hmem : ∀ row ∈ (rows.drop o).take n, row ∈ rows := fun row hm => List.mem_of_mem_drop (List.mem_of_mem_take hm)
                  have key := new_of (P := P) (F := F) (w := w) (β := β) hk h0 (b := b) (o := o') (cap := cc) (rows := (rows.drop o).take n) (p := pure) (fun k => (cl w b (o' + k)).getD undef) (fun k hk' => by
                      rw [hlen'] at hk'
                      have hr' : k / st2 < n := Nat.div_lt_of_lt_mul (by rw [Nat.mul_comm]; exact hk')
                      have hj' : k % st2 < st2 := Nat.mod_lt _ h0
                      have hm : ((rows.drop o).take n)[k / st2]'(by omega) ∈ (rows.drop o).take n := List.getElem_mem _
                      have hl2 := hrl _ (hmem _ hm)
                      obtain ⟨cv, h1, _⟩ := hcell1 (k / st2) (k % st2) _ (((rows.drop o).take n)[k / st2]'(by omega))[k % st2] (List.getElem?_eq_getElem (by omega)) (List.getElem?_eq_getElem (by omega))
                      rw [Nat.div_add_mod' k st2] at h1
                      rw [h1]; rfl) (fun r j row v hrow hv => by
                      obtain ⟨cv, h1, h2⟩ := hcell1 r j row v hrow hv
                      simp only [h1]
                      exact h2) (fun row hm => hrl row (hmem row hm)) (fun row hm => hcell row (hmem row hm)) (fun hp row hm => hpure hp row (hmem row hm))
                  rwa [hlen'] at key
          · simp [Rd.run] at h
        · simp [Rd.run] at h
      · simp at h
    · simp [Rd.run] at h
  · simp [Rd.run] at h

theorem RowsAt.mono {F' : Froz} {w' : World} {β' : Place} (hx : Ext β β' F F' w w') {st : Nat} {rows : List (List V)} {f : Nat → Value} (h : RowsAt F (cl w) β st rows f) : RowsAt F' (cl w') β' st rows f := fun r j row v hr hv => hx.rel (h r j row v hr hv)

/-- Two lists of rows in a row. -/
theorem RowsAt.app {F : Froz} {c : Nat → Nat → Option Value} {β : Place} {st : Nat} {a b : List (List V)} {la lb : List Value} (ha : RowsAt F c β st a (fun k => la.getD k undef)) (hb : RowsAt F c β st b (fun k => lb.getD k undef)) (hl : la.length = a.length * st) (hra : ∀ row ∈ a, row.length = st) (hrb : ∀ row ∈ b, row.length = st) :
    RowsAt F c β st (a ++ b) (fun k => (la ++ lb).getD k undef) := by
  intro r j row v hr hv
  have hj := (List.getElem?_eq_some_iff.1 hv).1
  show Rel F c β v (List.getD _ _ _)
  rw [List.getD_eq_getElem?_getD]
  by_cases h : r < a.length
  · rw [List.getElem?_append_left h] at hr
    have hl' := hra row (List.mem_of_getElem? hr)
    have := idx_lt (st := st) h (show j < st by omega)
    rw [List.getElem?_append_left (by omega)]
    have := ha r j row v hr hv
    simp only [List.getD_eq_getElem?_getD] at this
    exact this
  · rw [List.getElem?_append_right (by omega)] at hr
    have hl' := hrb row (List.mem_of_getElem? hr)
    have hm : a.length * st ≤ r * st := Nat.mul_le_mul_right _ (by omega)
    rw [List.getElem?_append_right (by omega), hl]
    have := hb (r - a.length) j row v hr hv
    simp only [List.getD_eq_getElem?_getD] at this
    rwa [show (r - a.length) * st + j = r * st + j - a.length * st by rw [Nat.sub_mul]; omega] at this

/-- What is appended, as a run of Go's append takes it. -/
structure SrcA (P : Program) (e : TypeId) (size : Nat) (tx : TypeId) (cx : Value) (n : Nat) (news : List Value) (w : World) : Prop where
  newsLen : news.length = n * size
  grow : ∀ (t ty : TypeId) (i : TypeInfo) (z : Value), P.underlying t = some (.slice e) → P.info? e = some i → i.size = size → i.zero = some z → ∀ (base : Option Addr) (sLen sCap : Nat) (olds : List Value),
    (Builtin.firstCells i.size sLen (.slice base sLen sCap)).run P w.drew = .ok olds.toArray w.drew → sCap < sLen + n → ((sLen + n : Nat) : Int) ≤ 9223372036854775807 → Builtin.nextslicecap (sLen + n) sCap * i.bytes ≤ 281474976710656 →
    (Builtin.append_ #[t, tx] ty #[.slice base sLen sCap, cx]).run P w = .ok (.slice (some ⟨w.heap.size, 0, none⟩) (sLen + n) (grownCap w (sLen + n) sCap e)) (w.drew.alloc (.cells ((olds ++ news).toArray ++ Builtin.zeroCells z.cells (grownCap w (sLen + n) sCap e - (sLen + n))) e))
  room : ∀ (t ty : TypeId) (i : TypeInfo), P.underlying t = some (.slice e) → P.info? e = some i → i.size = size → ∀ (b off sLen sCap : Nat), sLen + n ≤ sCap → (∀ j, j < news.length → (w.cell? ⟨b, off + sLen * i.size + j, none⟩).isSome = true) → (∀ j, j < news.length → w.frozen? ⟨b, off + sLen * i.size + j, none⟩ = false) →
    (Builtin.append_ #[t, tx] ty #[.slice (some ⟨b, off, none⟩) sLen sCap, cx]).run P w = .ok (.slice (some ⟨b, off, none⟩) (sLen + n) sCap) (w.setCells b (off + sLen * i.size) news)
  zero : n = 0 → ∀ (t ty : TypeId), P.underlying t = some (.slice e) → ∀ (base : Option Addr) (sLen sCap : Nat), sLen ≤ sCap → (Builtin.append_ #[t, tx] ty #[.slice base sLen sCap, cx]).run P w = .ok (.slice base sLen sCap) w

theorem SrcA.of {e : TypeId} {ti : TI} (hti : Told P e ti) {tx : TypeId} {cx : Value} {n : Nat} {news : List Value} (h : Src P ti.size tx cx n news w) : SrcA P e ti.size tx cx n news w := by
  refine ⟨h.newsLen, fun t ty i z ht hi hs hz base sLen sCap olds hold hg h63 hfit => run_append_grow_src (P := P) w t tx ty e i z ht hi hz base sLen sCap olds hold cx n news (by rw [hs]; exact h) hg h63 hfit,
    fun t ty i ht hi hs b off sLen sCap hroom hc hf => run_append_room_src (P := P) w t tx ty e i ht hi b off sLen sCap cx n news (by rw [hs]; exact h) hroom hc hf, fun h0 t ty ht base sLen sCap hl => ?_⟩
  have h1 := h.len
  have h2 := h.cells
  have h3 := h.newsLen
  subst h0
  have h4 : news = [] := by simpa using h3
  subst h4
  obtain ⟨i, z, hi, hs, hby, hz, hzok⟩ := hti.info
  rcases h.kind with ⟨e', hk⟩ | hk <;> cases base <;> simp [Builtin.append_, run_underlying ht, run_underlying hk, hti.sizeOf w, h1, h2, hl, storeCells]

/-- Rows that are appended. -/
structure NewA (P : Program) (e : TypeId) (F : Froz) (w : World) (β : Place) (st : Nat) (tx : TypeId) (cx : Value) (new : List (List V)) (p : Bool) (news : List Value) : Prop where
  src : SrcA P e st tx cx new.length news w
  at_ : RowsAt F (cl w) β st new (fun k => news.getD k undef)
  len : ∀ row ∈ new, row.length = st
  cell : ∀ row ∈ new, ∀ v ∈ row, v.isCell = true
  pure : p = true → ∀ row ∈ new, ∀ v ∈ row, v.hasIds = false
theorem New.toA {e : TypeId} {ti : TI} (hti : Told P e ti) {tx : TypeId} {cx : Value} {new : List (List V)} {p : Bool} {news : List Value} (h : New P F w β ti.size tx cx new p news) : NewA P e F w β ti.size tx cx new p news :=
  ⟨.of hti h.src, h.at_, h.len, h.cell, h.pure⟩

theorem zeroCells_size (z : Array Value) (n : Nat) : (Builtin.zeroCells z n).size = n * z.size := by simp [Builtin.zeroCells]

/-- A grown slice: a new object. -/
theorem grow_ok {e : TypeId} {ti : TI} (hti : Told P e ti) (h0 : 0 < ti.size) {t tx ty : TypeId} (ht : P.underlying t = some (.slice e)) {n : Nat} (hI : Inv B β F H w) (hn : β n = none) {cx : Value} {new : List (List V)} {np : Bool} {news : List Value} (hnew : NewA P e F w β ti.size tx cx new np news)
    {base : Option Addr} {sLen sCap : Nat} {old : List (List V)} {olds : List Value} {op : Bool} (hol : old.length = sLen) (hold : (Builtin.firstCells ti.size sLen (.slice base sLen sCap)).run P w.drew = .ok olds.toArray w.drew)
    (ho : RowsAt F (cl w) β ti.size old (fun k => olds.getD k undef)) (hos : olds.length = old.length * ti.size) (hor : ∀ row ∈ old, row.length = ti.size) (hoc : ∀ row ∈ old, ∀ v ∈ row, v.isCell = true) (hop : op = true → ∀ row ∈ old, ∀ v ∈ row, v.hasIds = false)
    (hg : sCap < sLen + new.length) (hb : (sLen + new.length) * ti.bytes ≤ 140737488355328) (hl : sLen + new.length ≤ 140737488355328) (frz : Bool) :
    ∃ cv w' β', (Builtin.append_ #[t, tx] ty #[.slice base sLen sCap, cx]).run P w = .ok cv w' ∧ Rel F (cl w') β' (.ms n ti.size 0 (sLen + new.length) none) cv ∧ Inv B β' F (H.put n (some (.buf ti.size (old ++ new) frz (op && np)))) w' ∧ Ext β β' F F w w' ∧ (∀ i, i ≠ n → β' i = β i) := by
  obtain ⟨i, z, hi, hs, hby, hz, hzok⟩ := hti.info
  obtain ⟨hzr, hzc, _⟩ := zOK_rel hzok F (cl w) β
  have hzs : z.cells.size = ti.size := by rw [(hzr.cells hzc).size, hti.zlen]
  have hrun := hnew.src.grow t ty i z ht hi hs hz base sLen sCap olds (by rw [hs]; exact hold) hg (by omega) (by rw [hby]; exact growslice_fits hg hb)
  have hge := grownCap_ge w (sLen + new.length) sCap e
  have hgm : grownCap w (sLen + new.length) sCap e ≤ 9223372036854775807 := grownCap_le_maxLen w _ _ _ (by simp only [maxLen]; omega)
  generalize hgc : grownCap w (sLen + new.length) sCap e = g at *
  have hId := hI.drew
  have hF : ∀ b o, F b o → b < w.drew.heap.size := fun b o hf => (hId.froz b o hf).1
  let cells : Array Value := (olds ++ news).toArray ++ Builtin.zeroCells z.cells (g - (sLen + new.length))
  have hx1 : Ext β β F F w w.drew := ⟨fun _ _ h => h, fun _ _ h => ⟨h, rfl⟩⟩
  have hext : Ext β (β.set n (.at w.heap.size ti.size g)) F F w (w.drew.alloc (.cells cells e)) := hx1.trans (alloc_ext hn hF)
  have hnl := hnew.src.newsLen
  have happ : RowsAt F (cl w) β ti.size (old ++ new) (fun k => (olds ++ news).getD k undef) := ho.app hnew.at_ hos hor hnew.len
  have hrow : ∀ row ∈ old ++ new, row.length = ti.size := fun row hm => by
    rcases List.mem_append.1 hm with h | h
    · exact hor row h
    · exact hnew.len row h
  refine ⟨_, _, β.set n (.at w.heap.size ti.size g), hrun, ?_, ?_, hext, fun i hi => by unfold Place.set; rw [if_neg hi]⟩
  · exact .ms _ _ _ _ _ _ w.heap.size g g 0 (by simp [Place.set]) (by omega) hge (by simp) (by simp) (by simp)
  · refine hId.alloc hn rfl (new_rel (w := w.drew) (cells := cells) (e := e) h0 ?_ (by simp; omega) hrow (fun row hm => ?_) (fun hp row hm => ?_) (fun r j row v hr hv => ?_) frz hgm)
    · simp only [cells, Array.size_append, List.size_toArray, List.length_append, zeroCells_size, hzs, hos, hnl, hol, ← Nat.add_mul]
      exact Nat.mul_le_mul_right _ (by omega)
    · rcases List.mem_append.1 hm with h | h
      · exact hoc row h
      · exact hnew.cell row h
    · simp only [Bool.and_eq_true] at hp
      rcases List.mem_append.1 hm with h | h
      · exact hop hp.1 row h
      · exact hnew.pure hp.2 row h
    · have hk := idx_lt (st := ti.size) (List.getElem?_eq_some_iff.1 hr).1 (by have := (List.getElem?_eq_some_iff.1 hv).1; rw [hrow row (List.mem_of_getElem? hr)] at this; exact this)
      have hlen : (olds ++ news).length = (old ++ new).length * ti.size := by simp [hos, hnl, Nat.add_mul]
      have e1 : cells.getD (r * ti.size + j) undef = (olds ++ news).getD (r * ti.size + j) undef := by
        simp only [cells]
        rw [Array.getD_eq_getD_getElem?, Array.getElem?_append_left (by simp only [List.size_toArray]; omega)]
        simp [List.getD_eq_getElem?_getD]
      rw [e1]
      exact hext.rel (happ r j row v hr hv)

/-- Appended in place. -/
theorem inplace_ok {e : TypeId} {ti : TI} (hti : Told P e ti) {t tx ty : TypeId} (ht : P.underlying t = some (.slice e)) (hI : Inv B β F H w) {cx : Value} {new : List (List V)} {np : Bool} {news : List Value} (hnew : NewA P e F w β ti.size tx cx new np news)
    {i b C o l cc o' : Nat} {rows rows' : List (List V)} {fz fz' pu : Bool} (hb : β i = some (.at b ti.size C)) (hob : H.at? i = some (.buf ti.size rows fz pu)) (hadr : o' = o * ti.size) (hroom : l + new.length ≤ cc) (hcC : o + cc ≤ C)
    (hF : ∀ q, F b q → q < (o + l) * ti.size) (hF' : fz' = true ∨ fz = false) (hol : o + l ≤ rows.length) (hC' : rows'.length ≤ C) (hmin : rows'.length ≥ o + l)
    (hrows' : ∀ r, rows'[r]? = if o + l ≤ r ∧ r < o + l + new.length then new[r - (o + l)]? else if r < rows'.length then rows[r]? else none) (hsub : ∀ row ∈ rows', row ∈ rows ∨ row ∈ new) :
    ∃ w', (Builtin.append_ #[t, tx] ty #[.slice (some ⟨b, o', none⟩) l cc, cx]).run P w = .ok (.slice (some ⟨b, o', none⟩) (l + new.length) cc) w' ∧ Inv B β F (H.put i (some (.buf ti.size rows' fz' (pu && np)))) w' ∧ Ext β β F F w w' := by
  obtain ⟨ii, z, hi, hs, hby, hz, hzok⟩ := hti.info
  obtain ⟨lc, hl, ho⟩ := hI.obs _ _ hob
  rw [hb] at hl
  cases hl
  have ho' := ho
  cases ho with
  | buf _ _ _ _ _ _ hst hthere hC hrl hcell hpure hr =>
    have hnl := hnew.src.newsLen
    have hq : o' + l * ti.size = (o + l) * ti.size := by rw [hadr, Nat.add_mul]
    have hin : (o + l) * ti.size + news.length ≤ C * ti.size := by
      rw [hnl, ← Nat.add_mul]
      exact Nat.mul_le_mul_right _ (by omega)
    have hrun := hnew.src.room t ty ii ht hi hs b o' l cc hroom (fun j hj => by
        rw [hs, hq]
        have := (there_sub hthere.t hin j (by omega)).1
        exact this) (fun j hj => by
        rw [hs, hq]
        exact (there_sub hthere.t hin j (by omega)).2)
    rw [hs, hq] at hrun
    obtain ⟨s1, s2, s3, s4, s5⟩ := setCells_heap b news ((o + l) * ti.size) w
    obtain ⟨g1, g2⟩ := hI.turn hb hob rfl s2 s1 s3 s4 s5 (fun q hf => cl_setCells_out (.inl (hF q hf))) (ob := .buf ti.size rows' fz' (pu && np)) (fun hx' => by
      refine ObRel.write ho' hin hx' hC' (fun row hm => ?_) (fun row hm => ?_) (fun hp row hm => ?_) (fun r j row v hr' hv => ?_)
      · rcases hsub row hm with h | h
        · exact hrl row h
        · exact hnew.len row h
      · rcases hsub row hm with h | h
        · exact hcell row h
        · exact hnew.cell row h
      · simp only [Bool.and_eq_true] at hp
        rcases hsub row hm with h | h
        · exact hpure hp.1 row h
        · exact hnew.pure hp.2 row h
      · have hr2 := hr'
        have hjl := (List.getElem?_eq_some_iff.1 hv).1
        have hrw : row.length = ti.size := by
          rcases hsub row (List.mem_of_getElem? hr2) with h | h
          · exact hrl row h
          · exact hnew.len row h
        rw [hrows' r] at hr'
        by_cases hcase : o + l ≤ r ∧ r < o + l + new.length
        · rw [if_pos hcase] at hr'
          have h1 : (o + l) * ti.size ≤ r * ti.size := Nat.mul_le_mul_right _ hcase.1
          have h2 := idx_lt (st := ti.size) hcase.2 (show j < ti.size by omega)
          rw [Nat.add_mul (o + l)] at h2
          rw [if_pos (by omega)]
          have := hnew.at_ _ j row v hr' hv
          rwa [show (r - (o + l)) * ti.size + j = r * ti.size + j - (o + l) * ti.size by rw [Nat.sub_mul]; omega] at this
        · rw [if_neg hcase] at hr'
          have hne : ¬ ((o + l) * ti.size ≤ r * ti.size + j ∧ r * ti.size + j < (o + l) * ti.size + news.length) := by
            rw [hnl, ← Nat.add_mul]
            rcases Nat.lt_or_ge r (o + l) with hlt | hge
            · have := idx_lt (st := ti.size) hlt (show j < ti.size by omega)
              omega
            · have : (o + l + new.length) * ti.size ≤ r * ti.size := Nat.mul_le_mul_right _ (by omega)
              omega
          rw [if_neg hne]
          split at hr'
          · exact ⟨row, hr', hv⟩
          · cases hr') (fun st rows0 frz pure e1 q hf => by
        cases e1
        rcases hF' with h | h
        · refine ⟨h, ?_⟩
          have := hF q hf
          have h3 : (o + l) * ti.size ≤ rows'.length * ti.size := Nat.mul_le_mul_right _ hmin
          omega
        · have := (hI.prot _ _ _ _ _ _ _ _ hb hob q hf).1
          rw [h] at this
          cases this)
    exact ⟨_, hrun, g1, g2⟩

theorem Inv.congr {H' : Heap} (h : Inv B β F H w) (e : ∀ j, H'.at? j = H.at? j) : Inv B β F H' w :=
  ⟨h.os, h.tape, h.output, h.size, h.keep, h.kin, fun i j oi oj l l' b hi hj => h.inj i j oi oj l l' b (by rw [← e]; exact hi) (by rw [← e]; exact hj), h.fresh, fun i o ho => h.obs i o (by rw [← e]; exact ho), h.froz,
    fun i b st C st' rows frz pure hl ho => h.prot i b st C st' rows frz pure hl (by rw [← e]; exact ho)⟩

/-- An object under another number. -/
theorem Inv.move (h : Inv B β F H w) {i n : Nat} {ob : Ob} {lc : Loc} (hob : H.at? i = some ob) (hb : β i = some lc) (hn : β n = none) : Inv B (β.set n lc) F ((H.put i none).put n (some ob)) w := by
  have hne : i ≠ n := by rintro rfl; rw [hn] at hb; cases hb
  have hx : Ext β (β.set n lc) F F w w := ⟨set_ext hn, fun _ _ h => ⟨h, rfl⟩⟩
  have at_ : ∀ j, ((H.put i none).put n (some ob)).at? j = if j = n then some ob else if j = i then none else H.at? j := fun j => by rw [at?_put, at?_put]
  refine ⟨h.os, h.tape, h.output, h.size, h.keep, h.kin, ?_, ?_, ?_, h.froz, ?_⟩
  · intro j k oj ok l l' b hj hk hl hl' hlb hlb'
    rw [at_] at hj hk
    unfold Place.set at hl hl'
    by_cases e1 : j = n <;> by_cases e2 : k = n
    · rw [e1, e2]
    · rw [if_pos e1] at hl; rw [if_neg e2] at hl' hk
      cases hl
      split at hk
      · cases hk
      · rename_i e3
        exact absurd (h.inj i k ob ok lc l' b hob hk hb hl' hlb hlb').symm e3
    · rw [if_neg e1] at hl hj; rw [if_pos e2] at hl'
      cases hl'
      split at hj
      · cases hj
      · rename_i e3
        exact absurd (h.inj i j ob oj lc l b hob hj hb hl hlb' hlb).symm e3
    · rw [if_neg e1] at hl hj; rw [if_neg e2] at hl' hk
      split at hj
      · cases hj
      · split at hk
        · cases hk
        · exact h.inj j k oj ok l l' b hj hk hl hl' hlb hlb'
  · intro j l b hl hlb
    unfold Place.set at hl
    split at hl
    · cases hl; exact h.fresh i lc b hb hlb
    · exact h.fresh j l b hl hlb
  · intro j o ho
    rw [at_] at ho
    by_cases e1 : j = n
    · rw [if_pos e1] at ho
      cases ho
      obtain ⟨l, h1, h2⟩ := h.obs i ob hob
      rw [hb] at h1
      cases h1
      exact ⟨lc, by unfold Place.set; rw [if_pos e1], h2.keep hx fun _ _ => rfl⟩
    · rw [if_neg e1] at ho
      split at ho
      · cases ho
      · obtain ⟨l, h1, h2⟩ := h.obs j o ho
        exact ⟨l, hx.place _ _ h1, h2.keep hx fun _ _ => rfl⟩
  · intro j b st C st' rows frz pure hl ho o hf
    rw [at_] at ho
    unfold Place.set at hl
    by_cases e1 : j = n
    · rw [if_pos e1] at ho hl
      cases ho; cases hl
      exact h.prot i b st C st' rows frz pure hb hob o hf
    · rw [if_neg e1] at ho hl
      split at ho
      · cases ho
      · exact h.prot j b st C st' rows frz pure hl ho o hf

theorem append_zero {e : TypeId} {ti : TI} (hti : Told P e ti) {t tx ty : TypeId} (ht : P.underlying t = some (.slice e)) {cx : Value} {new : List (List V)} {np : Bool} {news : List Value} (hnew : NewA P e F w β ti.size tx cx new np news) (h0 : new.length = 0)
    {base : Option Addr} {sLen sCap : Nat} (hl : sLen ≤ sCap) : (Builtin.append_ #[t, tx] ty #[.slice base sLen sCap, cx]).run P w = .ok (.slice base sLen sCap) w := by
  exact hnew.src.zero h0 t ty ht base sLen sCap hl

theorem only_mem {u : Upd} {i n : Nat} {ob : Ob} (h : i = n) (hm : (n, some ob) ∈ u) : ∃ o, (i, o) ∈ u := ⟨some ob, h ▸ hm⟩

include hT in
theorem append_ok {e : TypeId} {ti : TI} (hte : T e = some ti) (h0 : 0 < ti.size) {t tx ty : TypeId} (ht : P.underlying t = some (.slice e)) {n : Nat} (hI : Inv B β F H w) (hn : β n = none) {s : V} {cs cx : Value} {new : List (List V)} {np : Bool} {news : List Value} (hnew : NewA P e F w β ti.size tx cx new np news)
    (h : (appendR ti n s new np).run H l = some ((v, u), l')) (hs : Rel F (cl w) β s cs) :
    ∃ cv w' β' F', (Builtin.append_ #[t, tx] ty #[cs, cx]).run P w = .ok cv w' ∧ Left n B β F H w v u cv w' β' F' := by
  have hti := hT.told hte
  unfold appendR at h
  split at h
  · -- nil
    cases hs
    split at h
    · rename_i hz
      simp only [Rd.run, Option.some.injEq, Prod.mk.injEq] at h
      obtain ⟨⟨rfl, rfl⟩, _⟩ := h
      exact ⟨_, w, β, F, append_zero hti ht hnew hz (Nat.le_refl _), Left.quiet hI (.nils _)⟩
    · rename_i hz
      split at h
      · rename_i hb
        simp only [Rd.run, Option.some.injEq, Prod.mk.injEq] at h
        obtain ⟨⟨rfl, rfl⟩, _⟩ := h
        obtain ⟨cv, w', β', g1, g2, g3, g4, g5⟩ := grow_ok (ty := ty) hti h0 ht hI hn hnew (base := none) (sLen := 0) (sCap := 0) (old := []) (olds := []) (op := true) rfl (by simpa using run_firstCells_none (P := P) w.drew ti.size 0 0 0) (fun r j row v hr => by simp at hr) (by simp) (by simp) (by simp) (by simp) (by omega) (by simpa using hb.1) (by simpa using hb.2) false
        refine ⟨cv, w', β', F, g1, ⟨by simpa using g2, by simpa [Heap.puts] using g3, g4, fun i hi => ?_⟩⟩
        by_cases e1 : i = n
        · subst e1; exact ⟨Nat.le_refl _, hn, some _, .head _⟩
        · exact absurd (g5 i e1) hi
      · simp [Rd.run] at h
  · -- frozen
    split at h
    · rename_i hz
      simp only [Rd.run, Option.some.injEq, Prod.mk.injEq] at h
      obtain ⟨⟨rfl, rfl⟩, _⟩ := h
      have hs' := hs
      cases hs with
      | fz0 _ a cap => exact ⟨_, w, β, F, append_zero hti ht hnew hz (Nat.zero_le _), Left.quiet hI hs'⟩
      | fz _ _ b o st cap g hl => exact ⟨_, w, β, F, append_zero hti ht hnew hz hl, Left.quiet hI hs'⟩
    · simp [Rd.run] at h
  · rename_i i st o ln c
    split at h
    · rename_i hz
      simp only [Rd.run, Option.some.injEq, Prod.mk.injEq] at h
      obtain ⟨⟨rfl, rfl⟩, _⟩ := h
      have hs' := hs
      cases hs with
      | ms0 => exact ⟨_, w, β, F, append_zero hti ht hnew hz (Nat.le_refl _), Left.quiet hI hs'⟩
      | ms _ _ _ _ _ _ b C cc o' hb hcC hlen => exact ⟨_, w, β, F, append_zero hti ht hnew hz hlen, Left.quiet hI hs'⟩
    · rename_i hz
      split at h
      · rename_i hst
        subst hst
        simp only [Rd.run] at h
        split at h
        · rename_i ob hob
          split at h
          · rename_i st2 rows fz pu
            split at h
            · rename_i hc
              obtain ⟨rfl, hol, hby, hlt⟩ := hc
              obtain ⟨lc, hl, ho⟩ := hI.obs _ _ hob
              -- a new object, and what becomes of the old one
              have grown : ∀ (base : Option Addr) (sCap : Nat) (olds : List Value) (frz : Bool), (Builtin.firstCells ti.size ln (.slice base ln sCap)).run P w.drew = .ok olds.toArray w.drew →
                  RowsAt F (cl w) β ti.size ((rows.drop o).take ln) (fun k => olds.getD k undef) → olds.length = ln * ti.size → (∀ row ∈ rows, row.length = ti.size) → (∀ row ∈ rows, ∀ v ∈ row, v.isCell = true) → (pu = true → ∀ row ∈ rows, ∀ v ∈ row, v.hasIds = false) → sCap < ln + new.length →
                  ∃ cv w' β', (Builtin.append_ #[t, tx] ty #[.slice base ln sCap, cx]).run P w = .ok cv w' ∧ Rel F (cl w') β' (.ms n ti.size 0 (ln + new.length) none) cv ∧ Inv B β' F (H.put n (some (.buf ti.size ((rows.drop o).take ln ++ new) frz (pu && np)))) w' ∧ Ext β β' F F w w' ∧ (∀ i, i ≠ n → β' i = β i) := by
                intro base sCap olds frz q1 q2 q3 q4 q5 q6 q7
                have hl' : ((rows.drop o).take ln).length = ln := by simp; omega
                have hm : ∀ row ∈ (rows.drop o).take ln, row ∈ rows := fun row hm => List.mem_of_mem_drop (List.mem_of_mem_take hm)
                exact grow_ok (ty := ty) hti h0 ht hI hn hnew hl' q1 q2 (by rw [hl']; exact q3) (fun row h => q4 row (hm row h)) (fun row h => q5 row (hm row h)) (fun hp row h => q6 hp row (hm row h)) q7 hby hlt frz
              have hin : ∀ (i' : Nat), i ≠ n := fun _ => by rintro rfl; rw [hn] at hl; cases hl
              have hne : i ≠ n := hin 0
              cases hs with
              | ms0 _ _ _ _ hb hc0 =>
                rw [hb] at hl
                cases hl
                cases ho with
                | nil =>
                  have only : ∀ {β' : Place}, (∀ i, i ≠ n → β' i = β i) → ∀ i', β' i' ≠ β i' → β i' = none ∧ i' = n := fun {β'} g5 i' hi => by
                    by_cases e1 : i' = n
                    · exact ⟨e1 ▸ hn, e1⟩
                    · exact absurd (g5 i' e1) hi
                  have grow0 := fun frz => grown none 0 [] frz (by simpa using run_firstCells_none (P := P) w.drew ti.size 0 0 0) (fun r j row v hr => by simp at hr) (by simp) (by simp) (by simp) (by simp) (by omega)
                  unfold appendM at h
                  cases c with
                  | some c =>
                    have := hc0 c rfl
                    subst this
                    simp only at h
                    rw [if_pos (by omega)] at h
                    simp only [Rd.run, Option.some.injEq, Prod.mk.injEq] at h
                    obtain ⟨⟨rfl, rfl⟩, _⟩ := h
                    obtain ⟨cv, w', β', g1, g2, g3, g4, g5⟩ := grow0 false
                    exact ⟨cv, w', β', F, g1, ⟨g2, by simpa [Heap.puts] using g3, g4, fun i' hi => ⟨Nat.le_of_eq (only g5 i' hi).2.symm, (only g5 i' hi).1, only_mem (only g5 i' hi).2 (.head _)⟩⟩⟩
                  | none =>
                    simp only at h
                    rw [if_neg (show ¬ (0 + 0 + new.length ≤ ([] : List (List V)).length) by simp only [List.length_nil]; omega), if_pos ⟨trivial, .inl rfl⟩] at h
                    simp only [Rd.run, Option.some.injEq, Prod.mk.injEq] at h
                    obtain ⟨⟨rfl, rfl⟩, _⟩ := h
                    obtain ⟨cv, w', β', g1, g2, g3, g4, g5⟩ := grow0 fz
                    refine ⟨cv, w', β', F, g1, ⟨g2, ?_, g4, fun i' hi => ⟨Nat.le_of_eq (only g5 i' hi).2.symm, (only g5 i' hi).1, only_mem (only g5 i' hi).2 (.tail _ (.head _))⟩⟩⟩
                    refine (g3.gone i).congr fun j => ?_
                    simp only [Heap.puts, at?_put]
                    by_cases e1 : j = n
                    · subst e1; simp [hne.symm]
                    · simp [e1]
              | ms _ _ _ _ _ _ b C cc o' hb hcC hlen hcap hnone hadr =>
                rw [hb] at hl
                cases hl
                have ho' := ho
                cases ho with
                | buf _ _ _ _ _ _ hst hthere hC hrl hcell hpure hr =>
                  have hlen' : ((rows.drop o).take ln).length = ln := by simp; omega
                  have hget : ∀ r, r < ln → ((rows.drop o).take ln)[r]? = rows[o + r]? := fun r hr => by
                    rw [List.getElem?_take, if_pos hr, List.getElem?_drop]
                  -- the old cells
                  have olds : ∃ olds : List Value, (Builtin.firstCells ti.size ln (.slice (some ⟨b, o', none⟩) ln cc)).run P w.drew = .ok olds.toArray w.drew ∧ RowsAt F (cl w) β ti.size ((rows.drop o).take ln) (fun k => olds.getD k undef) ∧ olds.length = ln * ti.size := by
                    refine ⟨(List.range (ln * ti.size)).map fun k => (cl w b (o' + k)).getD undef, ?_, ?_, by simp⟩
                    · refine run_firstCells_some w.drew ti.size ln ⟨b, o', none⟩ ln cc _ (by simp) fun j v hv => ?_
                      have hj : j < ln * ti.size := by simpa using (List.getElem?_eq_some_iff.1 hv).1
                      have hv' : (cl w b (o' + j)).getD undef = v := by simpa [hj] using hv
                      have hln : 0 < ln := by
                        rcases Nat.eq_zero_or_pos ln with h | h
                        · subst h; simp at hj
                        · exact h
                      have ho2 : o' = o * ti.size := by rcases hadr with h | h <;> omega
                      have hr' : j / ti.size < ln := Nat.div_lt_of_lt_mul (by rw [Nat.mul_comm]; exact hj)
                      have hj' : j % ti.size < ti.size := Nat.mod_lt _ h0
                      have hrow : rows[o + j / ti.size]? = some (rows[o + j / ti.size]'(by omega)) := by simp
                      have hl2 := hrl _ (List.mem_of_getElem? hrow)
                      obtain ⟨cv, h1, _⟩ := hr _ (j % ti.size) _ ((rows[o + j / ti.size]'(by omega))[j % ti.size]'(by omega)) hrow (List.getElem?_eq_getElem (by omega))
                      have e1 : (o + j / ti.size) * ti.size + j % ti.size = o' + j := by
                        rw [Nat.add_mul, ← ho2, Nat.add_assoc, Nat.div_add_mod' j ti.size]
                      rw [e1] at h1
                      rw [Addr.add_mid]
                      rw [h1] at hv'
                      simp only [Option.getD_some] at hv'
                      subst hv'
                      exact h1
                    · intro r j row v hrow hv
                      have hr' : r < ln := by have := (List.getElem?_eq_some_iff.1 hrow).1; omega
                      rw [hget r hr'] at hrow
                      have hjl := (List.getElem?_eq_some_iff.1 hv).1
                      have hl2 := hrl _ (List.mem_of_getElem? hrow)
                      have ho2 : o' = o * ti.size := by rcases hadr with h | h <;> omega
                      obtain ⟨cv, h1, h2⟩ := hr (o + r) j row v hrow hv
                      show Rel F (cl w) β v (List.getD _ _ _)
                      rw [getD_map_range _ (idx_lt hr' (by omega))]
                      rw [show o' + (r * ti.size + j) = (o + r) * ti.size + j by rw [ho2, Nat.add_mul]; omega, h1]
                      exact h2
                  obtain ⟨olds, q1, q2, q3⟩ := olds
                  have grow := fun frz hg => grown (some ⟨b, o', none⟩) cc olds frz q1 q2 q3 hrl hcell hpure hg
                  have only : ∀ {β' : Place}, (∀ i, i ≠ n → β' i = β i) → ∀ i', β' i' ≠ β i' → β i' = none ∧ i' = n := fun {β'} g5 i' hi => by
                    by_cases e1 : i' = n
                    · exact ⟨e1 ▸ hn, e1⟩
                    · exact absurd (g5 i' e1) hi
                  have over : o + ln + new.length ≤ rows.length → (∀ r, (rows.take (o + ln) ++ new ++ rows.drop (o + ln + new.length))[r]? = if o + ln ≤ r ∧ r < o + ln + new.length then new[r - (o + ln)]? else if r < (rows.take (o + ln) ++ new ++ rows.drop (o + ln + new.length)).length then rows[r]? else none) ∧
                      (rows.take (o + ln) ++ new ++ rows.drop (o + ln + new.length)).length = rows.length ∧ ∀ row ∈ rows.take (o + ln) ++ new ++ rows.drop (o + ln + new.length), row ∈ rows ∨ row ∈ new := by
                    intro hfit
                    have hL : (rows.take (o + ln) ++ new ++ rows.drop (o + ln + new.length)).length = rows.length := by simp; omega
                    refine ⟨fun r => ?_, hL, fun row hm => ?_⟩
                    · rw [hL]
                      by_cases h1 : r < o + ln
                      · rw [if_neg (by omega), if_pos (by omega), List.append_assoc, List.getElem?_append_left (by simp; omega), List.getElem?_take, if_pos h1]
                      · by_cases h2 : r < o + ln + new.length
                        · rw [if_pos (by omega), List.getElem?_append_left (by simp; omega), List.getElem?_append_right (by simp; omega)]
                          simp [Nat.min_eq_left hol]
                        · rw [if_neg (by omega), List.getElem?_append_right (by simp; omega), List.getElem?_drop]
                          by_cases h3 : r < rows.length
                          · rw [if_pos h3]
                            congr 1
                            simp
                            omega
                          · rw [if_neg h3, List.getElem?_eq_none]
                            simp
                            omega
                    · simp only [List.mem_append] at hm
                      rcases hm with (h | h) | h
                      · exact .inl (List.mem_of_mem_take h)
                      · exact .inr h
                      · exact .inl (List.mem_of_mem_drop h)
                  have noF : fz = false → ∀ q, ¬ F b q := fun hf q hq => by
                    have := (hI.prot _ _ _ _ _ _ _ _ hb hob q hq).1
                    rw [hf] at this
                    cases this
                  -- in place, over what was there
                  have within : ∀ cap', o + ln + new.length ≤ rows.length → fz = false → ln + new.length ≤ cc → (∀ k, cap' = some k → cc = k) → (cap' = none → o + cc = C) →
                      ∃ cv w' β' F', (Builtin.append_ #[t, tx] ty #[.slice (some ⟨b, o', none⟩) ln cc, cx]).run P w = .ok cv w' ∧ Left n B β F H w (.ms i ti.size o (ln + new.length) cap') [(i, some (.buf ti.size (rows.take (o + ln) ++ new ++ rows.drop (o + ln + new.length)) false (pu && np)))] cv w' β' F' := by
                    intro cap' hfit hfz hroom hk1 hk2
                    obtain ⟨o1, o2, o3⟩ := over hfit
                    have ho2 : o' = o * ti.size := by rcases hadr with h | h <;> omega
                    obtain ⟨w', g1, g2, g3⟩ := inplace_ok (ty := ty) (fz' := false) hti ht hI hnew hb hob ho2 hroom hcC (fun q hq => absurd hq (noF hfz q)) (.inr hfz) hol (by omega) (by omega) o1 o3
                    exact ⟨_, w', β, F, g1, ⟨.ms _ _ _ _ _ _ b C cc o' hb hcC hroom hk1 hk2 hadr, by simpa [Heap.puts] using g2, g3, fun i' hi => absurd rfl hi⟩⟩
                  unfold appendM at h
                  cases c with
                  | some c =>
                    have hcc := hcap c rfl
                    subst hcc
                    simp only at h
                    split at h
                    · rename_i hlt2
                      simp only [Rd.run, Option.some.injEq, Prod.mk.injEq] at h
                      obtain ⟨⟨rfl, rfl⟩, _⟩ := h
                      obtain ⟨cv, w', β', g1, g2, g3, g4, g5⟩ := grow false hlt2
                      exact ⟨cv, w', β', F, g1, ⟨g2, by simpa [Heap.puts] using g3, g4, fun i' hi => ⟨Nat.le_of_eq (only g5 i' hi).2.symm, (only g5 i' hi).1, only_mem (only g5 i' hi).2 (.head _)⟩⟩⟩
                    · split at h
                      · rename_i hlt2 hfit
                        simp only [Rd.run, Option.some.injEq, Prod.mk.injEq] at h
                        obtain ⟨⟨rfl, rfl⟩, _⟩ := h
                        exact within (some cc) hfit.1 hfit.2 (by omega) (fun k hk => by cases hk; rfl) (fun hk => by cases hk)
                      · simp [Rd.run] at h
                  | none =>
                    have hcc := hnone rfl
                    simp only at h
                    split at h
                    · rename_i hfit
                      split at h
                      · rename_i hfz
                        simp only [Rd.run, Option.some.injEq, Prod.mk.injEq] at h
                        obtain ⟨⟨rfl, rfl⟩, _⟩ := h
                        exact within none hfit hfz (by omega) (fun k hk => by cases hk) (fun _ => hcc)
                      · simp [Rd.run] at h
                    · split at h
                      · rename_i hnfit htip
                        obtain ⟨rfl, htip⟩ := htip
                        simp only [Rd.run, Option.some.injEq, Prod.mk.injEq] at h
                        obtain ⟨⟨rfl, rfl⟩, _⟩ := h
                        simp only [Nat.zero_add, List.drop_zero] at *
                        by_cases hroom : ln + new.length ≤ cc
                        · -- there is room
                          have ho2 : o' = 0 * ti.size := by rcases hadr with h | h <;> omega
                          have hL : (rows.take ln ++ new).length = ln + new.length := by simp; omega
                          obtain ⟨w', g1, g2, g3⟩ := inplace_ok (ty := ty) (fz' := fz) (rows' := rows.take ln ++ new) (o := 0) (l := ln) hti ht hI hnew hb hob ho2 hroom (by omega) (fun q hq => by
                              have := hI.prot _ _ _ _ _ _ _ _ hb hob q hq
                              rcases htip with h | h
                              · rw [Nat.zero_add, h]; exact this.2
                              · rw [h] at this; cases this.1) (by cases fz <;> simp) (by omega) (by omega) (by omega) (fun r => by
                              rw [hL]
                              by_cases h1 : r < ln
                              · rw [if_neg (by omega), if_pos (by omega), List.getElem?_append_left (by simp; omega), List.getElem?_take, if_pos h1]
                              · by_cases h2 : r < ln + new.length
                                · rw [if_pos (by omega), List.getElem?_append_right (by simp; omega)]
                                  simp [Nat.min_eq_left hol]
                                · rw [if_neg (by omega), if_neg (by omega), List.getElem?_eq_none (by omega)]) (fun row hm => by
                              rcases List.mem_append.1 hm with h | h
                              · exact .inl (List.mem_of_mem_take h)
                              · exact .inr h)
                          have hat : (H.put i (some (.buf ti.size (rows.take ln ++ new) fz (pu && np)))).at? i = some (.buf ti.size (rows.take ln ++ new) fz (pu && np)) := by rw [at?_put, if_pos rfl]
                          have hx : Ext β (β.set n (.at b ti.size C)) F F w' w' := ⟨set_ext hn, fun _ _ h => ⟨h, rfl⟩⟩
                          refine ⟨_, w', β.set n (.at b ti.size C), F, g1, ⟨?_, ?_, g3.trans hx, fun i' hi => ?_⟩⟩
                          · exact .ms _ _ _ _ _ _ b C cc o' (by simp [Place.set]) (by omega) hroom (by simp) (fun _ => by omega) (by omega)
                          · refine (g2.move hat hb hn).congr fun j => ?_
                            simp only [Heap.puts, at?_put]
                            by_cases e1 : j = n
                            · simp [e1]
                            · by_cases e2 : j = i <;> simp [e1, e2]
                          · unfold Place.set at hi
                            split at hi
                            · rename_i e1; exact ⟨Nat.le_of_eq e1.symm, e1 ▸ hn, only_mem e1 (.tail _ (.head _))⟩
                            · exact absurd rfl hi
                        · obtain ⟨cv, w', β', g1, g2, g3, g4, g5⟩ := grow fz (by omega)
                          refine ⟨cv, w', β', F, g1, ⟨g2, ?_, g4, fun i' hi => ⟨Nat.le_of_eq (only g5 i' hi).2.symm, (only g5 i' hi).1, only_mem (only g5 i' hi).2 (.tail _ (.head _))⟩⟩⟩
                          refine (g3.gone i).congr fun j => ?_
                          simp only [Heap.puts, at?_put]
                          by_cases e1 : j = n
                          · subst e1; simp [hne.symm]
                          · simp [e1]
                      · simp [Rd.run] at h
            · simp [Rd.run] at h
          · simp [Rd.run] at h
        · simp at h
      · simp [Rd.run] at h
  · simp [Rd.run] at h
end

end Go.Proofs.YteookeenkjpemaaGreat.R
/- copy, clear, and zeros appended. -/
namespace Go.Proofs.YteookeenkjpemaaGreat.R
set_option linter.unusedVariables false
set_option linter.unusedSimpArgs false
open Go Go.RowKit

section
variable {P : Program} {B : Base} {F : Froz} {w : World} {β : Place} {H : Heap} {l l' : List Nat} {v : V} {u : Upd}

theorem zeroCells_at {z : Value} {ti : TI} {e : TypeId} (hti : Told P e ti) (hz : zOK ti.zero z = true) (h0 : 0 < ti.size) (m : Nat) : RowsAt F (cl w) β ti.size (List.replicate m ti.zero.cells) (fun k => (Builtin.zeroCells z.cells m).toList.getD k undef) ∧
    (∀ row ∈ List.replicate m ti.zero.cells, row.length = ti.size) ∧ (∀ row ∈ List.replicate m ti.zero.cells, ∀ v ∈ row, v.isCell = true ∧ v.hasIds = false) ∧ (Builtin.zeroCells z.cells m).toList.length = m * ti.size ∧ (∀ u ∈ (Builtin.zeroCells z.cells m).toList, u.oneCell' = true) := by
  obtain ⟨hzr, hzc, hzi⟩ := zOK_rel hz F (cl w) β
  have hzcells := hzr.cells hzc
  have hzl := hti.zlen
  have hzsz : z.cells.size = ti.size := by rw [hzcells.size, hzl]
  have at_ : RowsAt F (cl w) β ti.size (List.replicate m ti.zero.cells) (fun k => (Builtin.zeroCells z.cells m).toList.getD k undef) := by
    intro r j row v hrow hv
    have hm := List.mem_of_getElem? hrow
    have hlt := (List.getElem?_eq_some_iff.1 hrow).1
    simp only [List.length_replicate] at hlt
    have := List.eq_of_mem_replicate hm
    subst this
    have hj := (List.getElem?_eq_some_iff.1 hv).1
    have hb : (r + 1) * ti.size ≤ m * ti.size := Nat.mul_le_mul_right _ (by omega)
    rw [Nat.add_mul] at hb
    have hmod : (r * ti.size + j) % ti.size = j := by rw [Nat.add_comm, Nat.add_mul_mod_self_right]; exact Nat.mod_eq_of_lt (by omega)
    have := hzcells.at_ j v hv
    show Rel F (cl w) β v (List.getD _ _ _)
    rw [List.getD_eq_getElem?_getD, Array.getElem?_toList]
    unfold Builtin.zeroCells
    rw [Array.getElem?_map, Array.getElem?_eq_getElem (by simp [hzsz]; omega)]
    simp only [Array.getElem_range, Option.map_some, Option.getD_some, hzsz, hmod]
    rw [Array.getElem!_eq_getD, Array.getD_eq_getD_getElem?, Array.getElem?_eq_getElem (by omega)]
    rw [Array.getD_eq_getD_getElem?, Array.getElem?_eq_getElem (by omega)] at this
    exact this
  have hlen : (Builtin.zeroCells z.cells m).toList.length = m * ti.size := by rw [Array.length_toList, zeroCells_size, hzsz]
  have hcell : ∀ row ∈ List.replicate m ti.zero.cells, ∀ v ∈ row, v.isCell = true ∧ v.hasIds = false := fun row hm v hv => by
    rw [List.eq_of_mem_replicate hm] at hv
    exact ⟨List.all_eq_true.1 hzc v hv, anyIds_mem.1 hzi v hv⟩
  refine ⟨at_, fun row hm => by rw [List.eq_of_mem_replicate hm, hzl], hcell, hlen, fun u hu => ?_⟩
  obtain ⟨k, hk, rfl⟩ := List.mem_iff_getElem.1 hu
  have hk' : k < m * ti.size := by rw [← hlen]; exact hk
  have hr' : k / ti.size < m := Nat.div_lt_of_lt_mul (by rw [Nat.mul_comm]; exact hk')
  have hj' : k % ti.size < ti.size := Nat.mod_lt _ h0
  have hrow : (List.replicate m ti.zero.cells)[k / ti.size]? = some ti.zero.cells := by rw [List.getElem?_replicate, if_pos hr']
  have := at_ (k / ti.size) (k % ti.size) _ (ti.zero.cells[k % ti.size]'(by omega)) hrow (List.getElem?_eq_getElem (by omega))
  rw [Nat.div_add_mod' k ti.size] at this
  have h2 : (Builtin.zeroCells z.cells m).toList.getD k undef = (Builtin.zeroCells z.cells m).toList[k] := by rw [List.getD_eq_getElem?_getD, List.getElem?_eq_getElem hk]; rfl
  simp only [h2] at this
  exact cell_of this (List.all_eq_true.1 hzc _ (List.getElem_mem _))

theorem zeros_new {e : TypeId} {ti : TI} (hti : Told P e ti) (h0 : 0 < ti.size) {tx : TypeId} {kk : IntKind} (hu : P.underlying tx = some (.int kk)) (k : IntKind) (m : Nat) (hb : m * ti.bytes ≤ 140737488355328) (hm : m ≤ 140737488355328) :
    ∃ news, NewA P e F w β ti.size tx (.int k m) (List.replicate m ti.zero.cells) true news := by
  obtain ⟨ii, z, hi, hs, hby, hz, hzok⟩ := hti.info
  obtain ⟨q1, q2, q3, q4, q5⟩ := zeroCells_at (F := F) (w := w) (β := β) hti hzok h0 m
  have hzsz : z.cells.size = ti.size := by
    have := q4
    rw [Array.length_toList, zeroCells_size] at this
    obtain ⟨hzr, hzc, hzi⟩ := zOK_rel hzok F (cl w) β
    rw [(hzr.cells hzc).size, hti.zlen]
  have hw : IntKind.i64.wrap (m : Int) = m := by rw [IntKind.wrap_i64]; omega
  have hby48 : ¬ ((281474976710656 : Int) < (m : Int) * (ti.bytes : Int)) := by
    have : ((m * ti.bytes : Nat) : Int) ≤ 140737488355328 := Int.ofNat_le.2 hb
    rw [Int.natCast_mul] at this
    omega
  have hneg : ¬ ((m : Int) < 0) := by omega
  refine ⟨(Builtin.zeroCells z.cells m).toList, ⟨⟨by simpa using q4, ?_, ?_, ?_⟩, q1, q2, fun row hm v hv => (q3 row hm v hv).1, fun _ row hm v hv => (q3 row hm v hv).2⟩⟩
  · intro t ty i z' ht hi' hs' hz' base sLen sCap olds hold hg h63 hfit
    rw [hi] at hi'
    cases hi'
    rw [hz] at hz'
    cases hz'
    simp only [List.length_replicate] at hg h63 hfit ⊢
    have hn : ¬ (sLen + m ≤ sCap) := by omega
    have h63' : ¬ (9223372036854775807 < ((sLen : Int) + (m : Int))) := by omega
    have h48' : ¬ (281474976710656 < Builtin.nextslicecap (sLen + m) sCap * ii.bytes) := by omega
    have happ : ∀ w', (if m * ii.size = 0 then (pure #[] : Sem (Array Value)) else do pure (Builtin.zeroCells (← zeroValue e).cells m)).run P w' = .ok (Builtin.zeroCells z.cells m) w' := fun w' => by
      by_cases e0 : m * ii.size = 0
      · rw [if_pos e0]
        have : m = 0 := by
          rcases Nat.mul_eq_zero.1 e0 with h | h
          · exact h
          · omega
        subst this
        simp [Builtin.zeroCells]
      · rw [if_neg e0]
        simp [zeroValue, typeInfo, hi, hz]
    simp [Builtin.append_, run_underlying ht, run_underlying hu, sizeOf, typeInfo, zeroValue, asInt, asIntOf, hi, hz, hw, hneg, hby, hby48, hn, h63', h48', Question.forced, hold, newRow, grownCap]
    have hne : ¬ (281474976710656 < Builtin.nextslicecap (sLen + m) sCap * ti.bytes) := by rw [← hby]; exact h48'
    rw [if_neg hne]
    by_cases e0 : m * ii.size = 0
    · rw [if_pos e0]
      have : m = 0 := by
        rcases Nat.mul_eq_zero.1 e0 with h | h
        · exact h
        · omega
      subst this
      simp [Builtin.zeroCells]
    · rw [if_neg e0]
      congr 3
      rw [← Array.append_assoc]
      congr 1
      apply Array.ext'
      simp
  · intro t ty i ht hi' hs' b off sLen sCap hroom hc hf
    rw [hi] at hi'
    cases hi'
    simp only [List.length_replicate] at hroom ⊢
    have hst := run_storeCells_cells (P := P) b (off + sLen * ii.size) (Builtin.zeroCells z.cells m).toList 0 w (by simpa using hc) (by simpa using hf) q5
    simp only [Nat.add_zero] at hst
    by_cases e0 : m * ii.size = 0
    · have : m = 0 := by
        rcases Nat.mul_eq_zero.1 e0 with h | h
        · exact h
        · omega
      subst this
      have hz0 : (Builtin.zeroCells z.cells 0).toList = [] := by simp [Builtin.zeroCells]
      rw [hz0] at hst ⊢
      have hroom' : sLen ≤ sCap := by omega
      simp [Builtin.append_, run_underlying ht, run_underlying hu, sizeOf, typeInfo, zeroValue, asInt, asIntOf, hi, hz, hroom', Addr.add_lit, hst, World.setCells, IntKind.wrap_i64, storeCells]
    · simp [Builtin.append_, run_underlying ht, run_underlying hu, sizeOf, typeInfo, zeroValue, asInt, asIntOf, hi, hz, hw, hneg, hby, hby48, hroom, Addr.add_lit, e0]
      rw [hst]
      rfl
  · intro hm0 t ty ht base sLen sCap hl
    simp only [List.length_replicate] at hm0
    subst hm0
    cases base <;> simp [Builtin.append_, run_underlying ht, run_underlying hu, sizeOf, typeInfo, zeroValue, asInt, asIntOf, hi, hz, hl, IntKind.wrap_i64, storeCells]

/-- Rows written over, in an object that is not frozen. -/
theorem over_ok {i b C st q n : Nat} {rows new : List (List V)} {p np : Bool} {news : List Value} (hI : Inv B β F H w) (hb : β i = some (.at b st C)) (hob : H.at? i = some (.buf st rows false p)) (hnl : news.length = new.length * st) (hnew : RowsAt F (cl w) β st new (fun k => news.getD k undef))
    (hlen : ∀ row ∈ new, row.length = st) (hcell : ∀ row ∈ new, ∀ v ∈ row, v.isCell = true) (hpure : np = true → ∀ row ∈ new, ∀ v ∈ row, v.hasIds = false) (hq : q + new.length ≤ rows.length) (hn : n = q + new.length) :
    Inv B β F (H.put i (some (.buf st (rows.take q ++ new ++ rows.drop n) false (p && np)))) (w.setCells b (q * st) news) ∧ Ext β β F F w (w.setCells b (q * st) news) := by
  subst hn
  obtain ⟨lc, hl, ho⟩ := hI.obs _ _ hob
  rw [hb] at hl
  cases hl
  have ho' := ho
  cases ho with
  | buf _ _ _ _ _ _ hst hthere hC hrl hcl hpu hr =>
    obtain ⟨s1, s2, s3, s4, s5⟩ := setCells_heap b news (q * st) w
    have hin : q * st + news.length ≤ C * st := by
      rw [hnl, ← Nat.add_mul]
      exact Nat.mul_le_mul_right _ (by omega)
    have hL : (rows.take q ++ new ++ rows.drop (q + new.length)).length = rows.length := by simp; omega
    have hsub : ∀ row ∈ rows.take q ++ new ++ rows.drop (q + new.length), row ∈ rows ∨ row ∈ new := fun row hm => by
      simp only [List.mem_append] at hm
      rcases hm with (h | h) | h
      · exact .inl (List.mem_of_mem_take h)
      · exact .inr h
      · exact .inl (List.mem_of_mem_drop h)
    have noF : ∀ k, ¬ F b k := fun k hk => by
      have := (hI.prot _ _ _ _ _ _ _ _ hb hob k hk).1
      cases this
    refine hI.turn hb hob rfl s2 s1 s3 s4 s5 (fun k hk => absurd hk (noF k)) (fun hx' => ?_) (fun st2 rows2 frz2 pure2 e1 k hk => absurd hk (noF k))
    refine ObRel.write ho' hin hx' (by omega) (fun row hm => ?_) (fun row hm => ?_) (fun hp row hm => ?_) (fun r j row v hr' hv => ?_)
    · rcases hsub row hm with h | h
      · exact hrl row h
      · exact hlen row h
    · rcases hsub row hm with h | h
      · exact hcl row h
      · exact hcell row h
    · simp only [Bool.and_eq_true] at hp
      rcases hsub row hm with h | h
      · exact hpu hp.1 row h
      · exact hpure hp.2 row h
    · have hrw : row.length = st := by
        rcases hsub row (List.mem_of_getElem? hr') with h | h
        · exact hrl row h
        · exact hlen row h
      have hj := (List.getElem?_eq_some_iff.1 hv).1
      rw [hrw] at hj
      by_cases c1 : r < q
      · have := idx_lt (st := st) c1 hj
        rw [if_neg (by omega)]
        rw [List.append_assoc, List.getElem?_append_left (by simp; omega), List.getElem?_take, if_pos c1] at hr'
        exact ⟨row, hr', hv⟩
      · by_cases c2 : r < q + new.length
        · have k1 : q * st ≤ r * st := Nat.mul_le_mul_right _ (by omega)
          have k2 := idx_lt (st := st) c2 hj
          rw [Nat.add_mul] at k2
          rw [if_pos (by omega)]
          rw [List.getElem?_append_left (by simp; omega), List.getElem?_append_right (by simp; omega)] at hr'
          simp only [List.length_take, Nat.min_eq_left (show q ≤ rows.length by omega)] at hr'
          have := hnew _ j row v hr' hv
          rwa [show (r - q) * st + j = r * st + j - q * st by rw [Nat.sub_mul]; omega] at this
        · have k1 : (q + new.length) * st ≤ r * st := Nat.mul_le_mul_right _ (by omega)
          rw [Nat.add_mul] at k1
          rw [if_neg (by omega)]
          rw [List.getElem?_append_right (by simp; omega), List.getElem?_drop] at hr'
          refine ⟨row, ?_, hv⟩
          rw [← hr']
          congr 1
          simp
          omega

theorem take_rows {st : Nat} {new : List (List V)} {news : List Value} (n : Nat) (hl : ∀ row ∈ new, row.length = st) (h : RowsAt F (cl w) β st new (fun k => news.getD k undef)) (hnl : news.length = new.length * st) : RowsAt F (cl w) β st (new.take n) (fun k => (news.take (min new.length n * st)).getD k undef) := by
  intro r j row v hr hv
  have hr1 := (List.getElem?_eq_some_iff.1 hr).1
  simp only [List.length_take] at hr1
  rw [List.getElem?_take, if_pos (by omega)] at hr
  have hj := (List.getElem?_eq_some_iff.1 hv).1
  rw [hl row (List.mem_of_getElem? hr)] at hj
  have k := idx_lt (st := st) (show r < min new.length n by omega) hj
  have := h r j row v hr hv
  show Rel F (cl w) β v (List.getD _ _ _)
  rw [List.getD_eq_getElem?_getD, List.getElem?_take, if_pos k, ← List.getD_eq_getElem?_getD]
  exact this

theorem lenOf_slice (a : Option Addr) (n c : Nat) (w : World) : (Builtin.lenOf (.slice a n c)).run P w = .ok n w := rfl

theorem copy_ok {e e' : TypeId} {ti : TI} (hti : Told P e ti) (h0 : 0 < ti.size) {t t' ty : TypeId} (ht : P.underlying t = some (.slice e)) (ht' : P.underlying t' = some (.slice e')) {n : Nat} (hI : Inv B β F H w) {d x : V} {cd cx : Value}
    (h : (copyR ti d x).run H l = some ((v, u), l')) (hd : Rel F (cl w) β d cd) (hx : Rel F (cl w) β x cx) :
    ∃ cv w' β' F', (Builtin.copy_ #[t, t'] ty #[cd, cx]).run P w = .ok cv w' ∧ Left n B β F H w v u cv w' β' F' := by
  obtain ⟨ii, z, hi, hs, hby, hz, hzok⟩ := hti.info
  have hsz : (sizeOf e).run P w = .ok ti.size w := hti.sizeOf w
  unfold copyR at h
  split at h
  · obtain ⟨new, p, l1, news, h1, hn⟩ := rows_ok hI ht' h0 h hx
    simp only [Rd.run, Option.some.injEq, Prod.mk.injEq] at h1
    obtain ⟨⟨rfl, rfl⟩, _⟩ := h1
    cases hd
    have hfc := hn.first 0 (Nat.zero_le _)
    simp only [Nat.zero_mul, List.take_zero] at hfc
    exact ⟨_, w, β, F, by simp [Builtin.copy_, run_underlying ht, hn.src.len, hsz, hfc, goInt], Left.quiet hI (.int _ _ _)⟩
  · rename_i i st o ln c
    split at h
    · rename_i hst
      subst hst
      obtain ⟨new, p, l1, news, h1, hn⟩ := rows_ok hI ht' h0 h hx
      simp only [Rd.run] at h1
      split at h1
      · rename_i ob hob
        split at h1
        · rename_i st2 rows pu
          split at h1
          · rename_i hc
            obtain ⟨rfl, hol⟩ := hc
            simp only [Rd.run, Option.some.injEq, Prod.mk.injEq] at h1
            obtain ⟨⟨rfl, rfl⟩, _⟩ := h1
            obtain ⟨lc, hl, ho⟩ := hI.obs _ _ hob
            have hfc := hn.first (min new.length ln) (Nat.min_le_left _ _)
            have hnl := hn.src.newsLen
            have hmin : Nat.min new.length ln = min new.length ln := rfl
            cases hd with
            | ms0 _ _ _ _ hb hc0 =>
              rw [hb] at hl
              cases hl
              cases ho with
              | nil =>
                simp only [Nat.min_zero, Nat.zero_mul, List.take_zero] at hfc
                refine ⟨_, w, β, F, by simp [Builtin.copy_, run_underlying ht, hn.src.len, hsz, hfc, goInt], .int _ _ _, ?_, .refl _ _ _, fun i hi => absurd rfl hi⟩
                simp only [Heap.puts, List.take_nil, List.drop_nil, List.take_zero, List.append_nil]
                have hx' : H.at? i = some (.buf ti.size [] false pu) := hob
                refine ⟨hI.os, hI.tape, hI.output, hI.size, hI.keep, hI.kin, ?_, hI.fresh, ?_, hI.froz, ?_⟩
                · intro a b oa ob la lb blk ha hb1 hla hlb hla' hlb'
                  rw [at?_put] at ha hb1
                  split at ha
                  · rename_i e1; subst e1; rw [hb] at hla; cases hla; cases hla'
                  · split at hb1
                    · rename_i e1; subst e1; rw [hb] at hlb; cases hlb; cases hlb'
                    · exact hI.inj a b oa ob la lb blk ha hb1 hla hlb hla' hlb'
                · intro a oa ha
                  rw [at?_put] at ha
                  split at ha
                  · rename_i e1; subst e1; cases ha; exact ⟨.nil, hb, .nil _ _ _⟩
                  · exact hI.obs a oa ha
                · intro a b st C st' rows frz pure hla ha o hf
                  rw [at?_put] at ha
                  split at ha
                  · rename_i e1; subst e1; rw [hb] at hla; cases hla
                  · exact hI.prot a b st C st' rows frz pure hla ha o hf
            | ms _ _ _ _ _ _ b C cc o' hb hcC hlen hcap hnone hadr =>
              rw [hb] at hl
              cases hl
              have ho' := ho
              cases ho with
              | buf _ _ _ _ _ _ hst hthere hC hrl hcell hpure hr =>
                have hlm : (new.take ln).length = min new.length ln := by simp [Nat.min_comm]
                have hnews : (news.take (min new.length ln * ti.size)).length = (new.take ln).length * ti.size := by
                  rw [hlm, List.length_take, hnl]
                  exact Nat.min_eq_left (Nat.mul_le_mul_right _ (Nat.min_le_left _ _))
                obtain ⟨g1, g2⟩ := over_ok (q := o) (n := o + min new.length ln) (np := p) hI hb hob hnews (take_rows ln hn.len hn.at_ hnl) (fun row hm => hn.len row (List.mem_of_mem_take hm)) (fun row hm => hn.cell row (List.mem_of_mem_take hm)) (fun hp row hm => hn.pure hp row (List.mem_of_mem_take hm)) (by omega) (by omega)
                by_cases hz0 : min new.length ln = 0
                · -- nothing
                  have e0 : news.take (min new.length ln * ti.size) = [] := by rw [hz0]; simp
                  rw [e0] at hfc g1 g2
                  rw [hz0] at hfc
                  refine ⟨.int .i64 0, w, β, F, ?_, by rw [hz0]; exact .int _ _ _, by simpa [Heap.puts, World.setCells] using g1, .refl _ _ _, fun i hi => absurd rfl hi⟩
                  simp [Builtin.copy_, run_underlying ht, hn.src.len, lenOf_slice, hsz, hmin, hz0, hfc, goInt, storeCells]
                · have ho2 : o' = o * ti.size := by rcases hadr with h | h <;> omega
                  have hin : o * ti.size + (news.take (min new.length ln * ti.size)).length ≤ C * ti.size := by
                    rw [hnews, ← Nat.add_mul]
                    exact Nat.mul_le_mul_right _ (by omega)
                  have hst := run_storeCells_cells (P := P) b o' (news.take (min new.length ln * ti.size)) 0 w (fun j hj => by
                      rw [Nat.add_zero, ho2]
                      exact (there_sub hthere.t hin j (by omega)).1) (fun j hj => by
                      rw [Nat.add_zero, ho2]
                      exact (there_sub hthere.t hin j (by omega)).2) (fun u hu => hn.src.one u (List.mem_of_mem_take hu))
                  rw [Nat.add_zero] at hst
                  refine ⟨.int .i64 (min new.length ln : Nat), w.setCells b (o * ti.size) (news.take (min new.length ln * ti.size)), β, F, ?_, .int _ _ _, by simpa [Heap.puts] using g1, g2, fun i hi => absurd rfl hi⟩
                  rw [← ho2]
                  simp [Builtin.copy_, run_underlying ht, hn.src.len, lenOf_slice, hsz, hmin, hfc, goInt, hst]
          · simp [Rd.run] at h1
        · simp [Rd.run] at h1
      · simp at h1
    · simp [Rd.run] at h
  · simp [Rd.run] at h

/-- An empty object in the place of an empty one. -/
theorem Inv.nilAgain {i : Nat} {st : Nat} {f f' p p' : Bool} (hI : Inv B β F H w) (hb : β i = some .nil) : Inv B β F (H.put i (some (.buf st [] f' p'))) w := by
  refine ⟨hI.os, hI.tape, hI.output, hI.size, hI.keep, hI.kin, ?_, hI.fresh, ?_, hI.froz, ?_⟩
  · intro a b oa ob la lb blk ha hb1 hla hlb hla' hlb'
    rw [at?_put] at ha hb1
    split at ha
    · rename_i e1; subst e1; rw [hb] at hla; cases hla; cases hla'
    · split at hb1
      · rename_i e1; subst e1; rw [hb] at hlb; cases hlb; cases hlb'
      · exact hI.inj a b oa ob la lb blk ha hb1 hla hlb hla' hlb'
  · intro a oa ha
    rw [at?_put] at ha
    split at ha
    · rename_i e1; subst e1; cases ha; exact ⟨.nil, hb, .nil _ _ _⟩
    · exact hI.obs a oa ha
  · intro a b st C st' rows frz pure hla ha o hf
    rw [at?_put] at ha
    split at ha
    · rename_i e1; subst e1; rw [hb] at hla; cases hla
    · exact hI.prot a b st C st' rows frz pure hla ha o hf

theorem clear_ok {e : TypeId} {ti : TI} (hti : Told P e ti) (h0 : 0 < ti.size) {t ty : TypeId} (ht : P.underlying t = some (.slice e)) {n : Nat} (hI : Inv B β F H w) {d : V} {cd : Value}
    (h : (clearR ti d).run H l = some ((v, u), l')) (hd : Rel F (cl w) β d cd) :
    ∃ cv w' β' F', (Builtin.clear_ #[t] ty #[cd]).run P w = .ok cv w' ∧ Left n B β F H w v u cv w' β' F' := by
  obtain ⟨ii, z, hi, hs, hby, hz, hzok⟩ := hti.info
  have hzv : (zeroValue e).run P w = .ok z w := by simp [zeroValue, typeInfo, hi, hz]
  unfold clearR at h
  split at h
  · simp only [Rd.run, Option.some.injEq, Prod.mk.injEq] at h
    obtain ⟨⟨rfl, rfl⟩, _⟩ := h
    cases hd
    exact ⟨.tuple #[], w, β, F, by simp [Builtin.clear_, run_underlying ht], Left.quiet hI (.undef _ _)⟩
  · rename_i i st o ln c
    split at h
    · rename_i hst
      subst hst
      simp only [Rd.run] at h
      split at h
      · rename_i ob hob
        split at h
        · rename_i st2 rows pu
          split at h
          · rename_i hc
            obtain ⟨rfl, hol⟩ := hc
            simp only [Rd.run, Option.some.injEq, Prod.mk.injEq] at h
            obtain ⟨⟨rfl, rfl⟩, _⟩ := h
            obtain ⟨lc, hl, ho⟩ := hI.obs _ _ hob
            cases hd with
            | ms0 _ _ _ _ hb hc0 =>
              rw [hb] at hl
              cases hl
              cases ho with
              | nil =>
                refine ⟨.tuple #[], w, β, F, by simp [Builtin.clear_, run_underlying ht], .undef _ _, ?_, .refl _ _ _, fun i hi => absurd rfl hi⟩
                simpa [Heap.puts] using hI.nilAgain (f := false) (p := pu) hb
            | ms _ _ _ _ _ _ b C cc o' hb hcC hlen hcap hnone hadr =>
              rw [hb] at hl
              cases hl
              cases ho with
              | buf _ _ _ _ _ _ hst hthere hC hrl hcell hpure hr =>
                obtain ⟨q1, q2, q3, q4, q5⟩ := zeroCells_at (F := F) (w := w) (β := β) hti hzok h0 ln
                obtain ⟨g1, g2⟩ := over_ok (q := o) (n := o + ln) (np := true) hI hb hob (by rw [q4, List.length_replicate]) q1 q2 (fun row hm v hv => (q3 row hm v hv).1) (fun _ row hm v hv => (q3 row hm v hv).2) (by simpa using hol) (by simp)
                simp only [Bool.and_true] at g1
                by_cases hz0 : ln = 0
                · subst hz0
                  have e0 : (Builtin.zeroCells z.cells 0).toList = [] := by simp [Builtin.zeroCells]
                  rw [e0] at g1 g2
                  exact ⟨.tuple #[], w, β, F, by simp [Builtin.clear_, run_underlying ht], .undef _ _, by simpa [Heap.puts, World.setCells] using g1, .refl _ _ _, fun i hi => absurd rfl hi⟩
                · have ho2 : o' = o * ti.size := by rcases hadr with h | h <;> omega
                  have hin : o * ti.size + (Builtin.zeroCells z.cells ln).toList.length ≤ C * ti.size := by
                    rw [q4, ← Nat.add_mul]
                    exact Nat.mul_le_mul_right _ (by omega)
                  have hst := run_storeCells_cells (P := P) b o' (Builtin.zeroCells z.cells ln).toList 0 w (fun j hj => by
                      rw [Nat.add_zero, ho2]
                      exact (there_sub hthere.t hin j (by omega)).1) (fun j hj => by
                      rw [Nat.add_zero, ho2]
                      exact (there_sub hthere.t hin j (by omega)).2) q5
                  rw [Nat.add_zero] at hst
                  refine ⟨.tuple #[], w.setCells b (o * ti.size) (Builtin.zeroCells z.cells ln).toList, β, F, ?_, .undef _ _, by simpa [Heap.puts] using g1, g2, fun i hi => absurd rfl hi⟩
                  rw [← ho2]
                  obtain ⟨m, rfl⟩ : ∃ m, ln = m + 1 := ⟨ln - 1, by omega⟩
                  simp [Builtin.clear_, run_underlying ht, hzv, hst]
          · simp [Rd.run] at h
        · simp [Rd.run] at h
      · simp at h
    · simp [Rd.run] at h
  · simp [Rd.run] at h
end
end Go.Proofs.YteookeenkjpemaaGreat.R
