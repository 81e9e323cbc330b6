/- How the machine's values and objects stand in Go's memory. -/
import Derived.Test.YtfdemnefkfkghaaRA
import Derived.Below
import Derived.Deep.MidRow
import Derived.Deep.AppendSrc
import Derived.MapKept
namespace Go.Proofs.Ytfdemnefkfkghaa.R
open Go Go.RowKit

/-- Where an object stands: nowhere yet (a nil slice); in a block of so many rows; a map's block. -/
inductive Loc where
  | nil
  | at (b st cap : Nat)
  | mp (b : Nat)

def Loc.block : Loc → Option Nat
  | .nil => none
  | .at b _ _ => some b
  | .mp b => some b

abbrev Place := Nat → Option Loc
abbrev Froz := Nat → Nat → Prop
def none0 : Place := fun _ => none
def cl (w : World) (b o : Nat) : Option Value := w.cell? ⟨b, o, none⟩

/-- The value 'v' of the machine is Go's value 'cv'. -/
inductive Rel (F : Froz) (c : Nat → Nat → Option Value) : Place → V → Value → Prop where
  | undef (β : Place) (v : Value) : Rel F c β .undef v
  | bool (β : Place) (b : Bool) : Rel F c β (.bool b) (.bool b)
  | int (β : Place) (k : IntKind) (n : Int) : Rel F c β (.int k n) (.int k n)
  | str (β : Place) (s : ByteArray) : Rel F c β (.str s) (.string s)
  | nils (β : Place) : Rel F c β .nils (.slice none 0 0)
  | fz0 (β : Place) (a : Option Addr) (cap : Nat) : Rel F c β (.fz []) (.slice a 0 cap)
  | fz (β : Place) (rows : List (List V)) (b o st cap : Nat) (g : Nat → Nat → Value) (hl : rows.length ≤ cap) (hst : ∀ row ∈ rows, row.length = st)
      (hcell : ∀ row ∈ rows, ∀ v ∈ row, v.isCell = true ∧ v.hasIds = false)
      (hF : ∀ r j, r < rows.length → j < st → F b (o + r * st + j) ∧ c b (o + r * st + j) = some (g r j))
      (h : ∀ r j row v, rows[r]? = some row → row[j]? = some v → Rel F c none0 v (g r j)) : Rel F c β (.fz rows) (.slice (some ⟨b, o, none⟩) rows.length cap)
  | ms0 (β : Place) (i st : Nat) (cap : Option Nat) (h : β i = some .nil) (hc : ∀ k, cap = some k → k = 0) : Rel F c β (.ms i st 0 0 cap) (.slice none 0 0)
  | ms (β : Place) (i st off len : Nat) (cap : Option Nat) (b C cc o : Nat) (h : β i = some (.at b st C)) (hc : off + cc ≤ C) (hlen : len ≤ cc) (hcap : ∀ k, cap = some k → cc = k) (hnone : cap = none → off + cc = C)
      (ho : cc = 0 ∨ o = off * st) : Rel F c β (.ms i st off len cap) (.slice (some ⟨b, o, none⟩) len cc)
  | nilp (β : Place) : Rel F c β .nilp (.pointer none)
  | ptr (β : Place) (i row off b st C : Nat) (h : β i = some (.at b st C)) : Rel F c β (.ptr i row off) (.pointer (some ⟨b, row * st + off, none⟩))
  | el (β : Place) (row : List V) (off b base : Nat) (g : Nat → Value) (hcell : ∀ v ∈ row, v.isCell = true ∧ v.hasIds = false) (hF : ∀ j, j < row.length → F b (base + j) ∧ c b (base + j) = some (g j)) (h : ∀ j v, row[j]? = some v → Rel F c none0 v (g j)) :
      Rel F c β (.el row off) (.pointer (some ⟨b, base + off, none⟩))
  | nilm (β : Place) : Rel F c β .nilm (.map none)
  | map (β : Place) (i b : Nat) (h : β i = some (.mp b)) : Rel F c β (.map i) (.map (some b))
  | nilf (β : Place) : Rel F c β .nilf .nilFunc
  | clo (β : Place) (f : FuncId) (caps : List V) (cvs : Array Value) (hs : cvs.size = caps.length) (h : ∀ j v, caps[j]? = some v → Rel F c β v (cvs.getD j undef)) : Rel F c β (.clo f caps) (.func (.func f) #[] cvs)
  | nili (β : Place) : Rel F c β .nili .nilIface
  | ifc (β : Place) (t : TypeId) (v : V) (cv : Value) (h : Rel F c β v cv) : Rel F c β (.ifc t v) (.iface t cv)
  | agg (β : Place) (cs : List V) (cvs : Array Value) (hs : cvs.size = cs.length) (h : ∀ j v, cs[j]? = some v → Rel F c β v (cvs.getD j undef)) : Rel F c β (.agg cs) (.agg cvs)
  | tup (β : Place) (vs : List V) (cvs : Array Value) (hs : cvs.size = vs.length) (h : ∀ j v, vs[j]? = some v → Rel F c β v (cvs.getD j undef)) : Rel F c β (.tup vs) (.tuple cvs)

/-- Lists of values. -/
structure RelAll (F : Froz) (c : Nat → Nat → Option Value) (β : Place) (vs : List V) (cvs : Array Value) : Prop where
  size : cvs.size = vs.length
  at_ : ∀ j v, vs[j]? = some v → Rel F c β v (cvs.getD j undef)

theorem Rel.mono {F F' : Froz} {c c' : Nat → Nat → Option Value} {β : Place} {v : V} {cv : Value} (hF : ∀ b o, F b o → F' b o ∧ c' b o = c b o) (h : Rel F c β v cv) :
    ∀ {β' : Place}, (∀ i l, β i = some l → β' i = some l) → Rel F' c' β' v cv := by
  induction h with
  | undef β v => intro β' _; exact .undef _ _
  | bool β b => intro β' _; exact .bool _ _
  | int β k n => intro β' _; exact .int _ _ _
  | str β s => intro β' _; exact .str _ _
  | nils β => intro β' _; exact .nils _
  | fz0 β a cap => intro β' _; exact .fz0 _ _ _
  | fz β rows b o st cap g hl hst hcell hF' h ih =>
    intro β' _
    refine .fz _ rows b o st cap g hl hst hcell (fun r j hr hj => ?_) fun r j row v hr hv => ih r j row v hr hv fun i l h => h
    obtain ⟨h1, h2⟩ := hF' r j hr hj
    exact ⟨(hF _ _ h1).1, by rw [(hF _ _ h1).2, h2]⟩
  | ms0 β i st cap h hc => intro β' hb; exact .ms0 _ _ _ _ (hb _ _ h) hc
  | ms β i st off len cap b C cc o h hc hlen hcap hnone ho => intro β' hb; exact .ms _ i st off len cap b C cc o (hb _ _ h) hc hlen hcap hnone ho
  | nilp β => intro β' _; exact .nilp _
  | ptr β i row off b st C h => intro β' hb; exact .ptr _ _ _ _ _ _ C (hb _ _ h)
  | el β row off b base g hcell hF' h ih =>
    intro β' _
    refine .el _ row off b base g hcell (fun j hj => ?_) fun j v hv => ih j v hv fun i l h => h
    obtain ⟨h1, h2⟩ := hF' j hj
    exact ⟨(hF _ _ h1).1, by rw [(hF _ _ h1).2, h2]⟩
  | nilm β => intro β' _; exact .nilm _
  | map β i b h => intro β' hb; exact .map _ _ _ (hb _ _ h)
  | nilf β => intro β' _; exact .nilf _
  | clo β f caps cvs hs h ih => intro β' hb; exact .clo _ _ _ _ hs fun j v hv => ih j v hv hb
  | nili β => intro β' _; exact .nili _
  | ifc β t v cv h ih => intro β' hb; exact .ifc _ _ _ _ (ih hb)
  | agg β cs cvs hs h ih => intro β' hb; exact .agg _ _ _ hs fun j v hv => ih j v hv hb
  | tup β vs cvs hs h ih => intro β' hb; exact .tup _ _ _ hs fun j v hv => ih j v hv hb

theorem RelAll.mono {F F' : Froz} {c c' : Nat → Nat → Option Value} {β β' : Place} {vs : List V} {cvs : Array Value} (hF : ∀ b o, F b o → F' b o ∧ c' b o = c b o) (hb : ∀ i l, β i = some l → β' i = some l) (h : RelAll F c β vs cvs) :
    RelAll F' c' β' vs cvs := ⟨h.size, fun j v hv => (h.at_ j v hv).mono hF hb⟩

/-! Numbers turned. -/
theorem reAll_get {f : Nat → Option Nat} : ∀ {l l' : List V}, V.reAll f l = some l' → l'.length = l.length ∧ ∀ (j : Nat) (v' : V), l'[j]? = some v' → ∃ v, l[j]? = some v ∧ V.re f v = some v'
  | [], l', h => by
    simp only [V.reAll, Option.some.injEq] at h
    subst h
    exact ⟨rfl, by simp⟩
  | v :: r, l', h => by
    simp only [V.reAll, Option.bind_eq_some_iff, Option.map_eq_some_iff] at h
    obtain ⟨v', hv, r', hr, rfl⟩ := h
    obtain ⟨hl, hg⟩ := reAll_get hr
    refine ⟨by simp [hl], fun j u hu => ?_⟩
    cases j with
    | zero => exact ⟨v, rfl, by simpa using hu ▸ hv⟩
    | succ j => exact hg j u (by simpa using hu)

theorem Rel.re {F : Froz} {c : Nat → Nat → Option Value} {f : Nat → Option Nat} {β : Place} {v : V} {cv : Value} (h : Rel F c β v cv) :
    ∀ {β' : Place} {v' : V}, (∀ i j, f i = some j → β' j = β i) → V.re f v = some v' → Rel F c β' v' cv := by
  induction h with
  | ms0 β i st cap h hc =>
    intro β' v' hb hv
    simp only [V.re, Option.map_eq_some_iff] at hv
    obtain ⟨j, hj, rfl⟩ := hv
    exact .ms0 _ _ _ _ (by rw [hb _ _ hj, h]) hc
  | ms β i st off len cap b C cc o h hc hlen hcap hnone ho =>
    intro β' v' hb hv
    simp only [V.re, Option.map_eq_some_iff] at hv
    obtain ⟨j, hj, rfl⟩ := hv
    exact .ms _ j st off len cap b C cc o (by rw [hb _ _ hj, h]) hc hlen hcap hnone ho
  | ptr β i row off b st C h =>
    intro β' v' hb hv
    simp only [V.re, Option.map_eq_some_iff] at hv
    obtain ⟨j, hj, rfl⟩ := hv
    exact .ptr _ _ _ _ _ _ C (by rw [hb _ _ hj, h])
  | map β i b h =>
    intro β' v' hb hv
    simp only [V.re, Option.map_eq_some_iff] at hv
    obtain ⟨j, hj, rfl⟩ := hv
    exact .map _ _ _ (by rw [hb _ _ hj, h])
  | clo β g caps cvs hs h ih =>
    intro β' v' hb hv
    simp only [V.re, Option.map_eq_some_iff] at hv
    obtain ⟨l, hl, rfl⟩ := hv
    obtain ⟨hlen, hget⟩ := reAll_get hl
    exact .clo _ _ _ _ (by omega) fun j v hv => by
      obtain ⟨u, hu, hre⟩ := hget j v hv
      exact ih j u hu hb hre
  | agg β cs cvs hs h ih =>
    intro β' v' hb hv
    simp only [V.re, Option.map_eq_some_iff] at hv
    obtain ⟨l, hl, rfl⟩ := hv
    obtain ⟨hlen, hget⟩ := reAll_get hl
    exact .agg _ _ _ (by omega) fun j v hv => by
      obtain ⟨u, hu, hre⟩ := hget j v hv
      exact ih j u hu hb hre
  | tup β cs cvs hs h ih =>
    intro β' v' hb hv
    simp only [V.re, Option.map_eq_some_iff] at hv
    obtain ⟨l, hl, rfl⟩ := hv
    obtain ⟨hlen, hget⟩ := reAll_get hl
    exact .tup _ _ _ (by omega) fun j v hv => by
      obtain ⟨u, hu, hre⟩ := hget j v hv
      exact ih j u hu hb hre
  | ifc β t v cv h ih =>
    intro β' v' hb hv
    simp only [V.re, Option.map_eq_some_iff] at hv
    obtain ⟨u, hu, rfl⟩ := hv
    exact .ifc _ _ _ _ (ih hb hu)
  | undef β v => intro β' v' _ hv; cases hv; exact .undef _ _
  | bool β b => intro β' v' _ hv; cases hv; exact .bool _ _
  | int β k n => intro β' v' _ hv; cases hv; exact .int _ _ _
  | str β s => intro β' v' _ hv; cases hv; exact .str _ _
  | nils β => intro β' v' _ hv; cases hv; exact .nils _
  | fz0 β a cap => intro β' v' _ hv; cases hv; exact .fz0 _ _ _
  | fz β rows b o st cap g hl hst hcell hF' h ih => intro β' v' _ hv; cases hv; exact .fz _ rows b o st cap g hl hst hcell hF' h
  | nilp β => intro β' v' _ hv; cases hv; exact .nilp _
  | el β row off b base g hcell hF' h ih => intro β' v' _ hv; cases hv; exact .el _ row off b base g hcell hF' h
  | nilm β => intro β' v' _ hv; cases hv; exact .nilm _
  | nilf β => intro β' v' _ hv; cases hv; exact .nilf _
  | nili β => intro β' v' _ hv; cases hv; exact .nili _

/-- What leads to no object does not hang on where objects stand. -/
theorem anyIds_get : ∀ {l : List V}, V.anyIds l = false → ∀ (j : Nat) (v : V), l[j]? = some v → v.hasIds = false
  | [], _, j, v, hv => by simp at hv
  | x :: r, h, j, v, hv => by
    simp only [V.anyIds, Bool.or_eq_false_iff] at h
    cases j with
    | zero => simp only [List.getElem?_cons_zero, Option.some.injEq] at hv; exact hv ▸ h.1
    | succ j => exact anyIds_get h.2 j v (by simpa using hv)

theorem Rel.pure {F : Froz} {c : Nat → Nat → Option Value} {β : Place} {v : V} {cv : Value} (h : Rel F c β v cv) : v.hasIds = false → ∀ β', Rel F c β' v cv := by
  induction h with
  | ms0 β i st cap h hc => intro hi; simp [V.hasIds] at hi
  | ms β i st off len cap b C cc o h hc hlen hcap hnone ho => intro hi; simp [V.hasIds] at hi
  | ptr β i row off b st C h => intro hi; simp [V.hasIds] at hi
  | map β i b h => intro hi; simp [V.hasIds] at hi
  | clo β g caps cvs hs h ih => intro hi β'; exact .clo _ _ _ _ hs fun j v hv => ih j v hv (anyIds_get (by simpa [V.hasIds] using hi) j v hv) β'
  | agg β cs cvs hs h ih => intro hi β'; exact .agg _ _ _ hs fun j v hv => ih j v hv (anyIds_get (by simpa [V.hasIds] using hi) j v hv) β'
  | tup β cs cvs hs h ih => intro hi β'; exact .tup _ _ _ hs fun j v hv => ih j v hv (anyIds_get (by simpa [V.hasIds] using hi) j v hv) β'
  | ifc β t v cv h ih => intro hi β'; exact .ifc _ _ _ _ (ih (by simpa [V.hasIds] using hi) β')
  | undef β v => intro _ _; exact .undef _ _
  | bool β b => intro _ _; exact .bool _ _
  | int β k n => intro _ _; exact .int _ _ _
  | str β s => intro _ _; exact .str _ _
  | nils β => intro _ _; exact .nils _
  | fz0 β a cap => intro _ _; exact .fz0 _ _ _
  | fz β rows b o st cap g hl hst hcell hF' h ih => intro _ _; exact .fz _ rows b o st cap g hl hst hcell hF' h
  | nilp β => intro _ _; exact .nilp _
  | el β row off b base g hcell hF' h ih => intro _ _; exact .el _ row off b base g hcell hF' h
  | nilm β => intro _ _; exact .nilm _
  | nilf β => intro _ _; exact .nilf _
  | nili β => intro _ _; exact .nili _

/-- A cell's value is one of a cell. -/
def oneCell : Value → Bool
  | .agg _ | .tuple _ => false
  | _ => true

theorem Rel.one {F : Froz} {c : Nat → Nat → Option Value} {β : Place} {v : V} {cv : Value} (h : Rel F c β v cv) (hv : v.isCell = true) : oneCell cv = true := by
  cases h <;> simp_all [V.isCell, oneCell]

theorem Rel.cells {F : Froz} {c : Nat → Nat → Option Value} {β : Place} {v : V} {cv : Value} (h : Rel F c β v cv) (hv : v.cells.all V.isCell = true) :
    RelAll F c β v.cells cv.cells := by
  cases h with
  | agg _ cs cvs hs h => exact ⟨hs, h⟩
  | undef => simp [V.cells, V.isCell] at hv
  | tup => simp [V.cells, V.isCell] at hv
  | _ =>
    refine ⟨rfl, fun j v hj => ?_⟩
    cases j with
    | zero =>
      simp only [V.cells, List.getElem?_cons_zero, Option.some.injEq] at hj
      subst hj
      constructor <;> assumption
    | succ j => simp [V.cells] at hj

/-! The heap of the machine. -/
theorem at?_put : ∀ (h : Heap) (i : Nat) (o : Option Ob) (j : Nat), (h.put i o).at? j = if j = i then o else h.at? j
  | [], 0, o, 0 => rfl
  | [], 0, o, j + 1 => by simp [Heap.put, Heap.at?]
  | [], i + 1, o, 0 => by simp [Heap.put, Heap.at?]
  | [], i + 1, o, j + 1 => by simp [Heap.put, Heap.at?, at?_put [] i o j]
  | x :: h, 0, o, 0 => rfl
  | x :: h, 0, o, j + 1 => by simp [Heap.put, Heap.at?]
  | x :: h, i + 1, o, 0 => by simp [Heap.put, Heap.at?]
  | x :: h, i + 1, o, j + 1 => by simp [Heap.put, Heap.at?, at?_put h i o j]

theorem at?_lt : ∀ {h : Heap} {i : Nat} {o : Ob}, h.at? i = some o → i < h.length
  | [], i, o, h => by simp [Heap.at?] at h
  | x :: h, 0, o, _ => by simp
  | x :: h, i + 1, o, hh => by simp [Heap.at?] at hh; have := at?_lt hh; simp; omega

theorem at?_eq : ∀ (h : Heap) (i : Nat), h.at? i = (h[i]?).join
  | [], i => by simp [Heap.at?]
  | x :: h, 0 => by simp [Heap.at?]
  | x :: h, i + 1 => by simp [Heap.at?, at?_eq h i]

/-- What an object is in memory. -/
inductive ObRel (F : Froz) (w : World) (β : Place) : Loc → Ob → Prop where
  | nil (st : Nat) (frz pure : Bool) : ObRel F w β .nil (.buf st [] frz pure)
  | buf (b st C : Nat) (rows : List (List V)) (frz pure : Bool) (hst : 0 < st) (ht : w.there b 0 (C * st)) (hC : rows.length ≤ C)
      (hlen : ∀ row ∈ rows, row.length = st) (hcell : ∀ row ∈ rows, ∀ v ∈ row, v.isCell = true)
      (hpure : pure = true → ∀ row ∈ rows, ∀ v ∈ row, v.hasIds = false)
      (h : ∀ r j row v, rows[r]? = some row → row[j]? = some v → ∃ cv, cl w b (r * st + j) = some cv ∧ Rel F (cl w) β v cv) : ObRel F w β (.at b st C) (.buf st rows frz pure)
  | mp (b : Nat) (es : List (V × V)) (pure : Bool) (ces : Array MapEntry) (clock : Nat) (hw : w.heap[b]? = some (.map ces clock)) (hs : ces.size = es.length)
      (hpure : pure = true → ∀ e ∈ es, e.1.hasIds = false ∧ e.2.hasIds = false)
      (h : ∀ j e, es[j]? = some e → Rel F (cl w) β e.1 (ces.getD j default).key ∧ Rel F (cl w) β e.2 (ces.getD j default).val) : ObRel F w β (.mp b) (.mp es pure)

/-- Where a call began: the world; the blocks that stay as they are; what was frozen. -/
structure Base where
  w0 : World
  K : Nat → Prop
  F0 : Froz

/-- The world 'w' in a call that began at 'B': the objects of 'H' stand where 'β' says; what 'F' holds is never written again. -/
structure Inv (B : Base) (β : Place) (F : Froz) (H : Heap) (w : World) : Prop where
  os : w.os = B.w0.os
  tape : w.tape = B.w0.tape
  output : w.output = B.w0.output
  size : B.w0.heap.size ≤ w.heap.size
  keep : ∀ b, B.K b → w.heap[b]? = B.w0.heap[b]?
  kin : ∀ b, B.K b → b < B.w0.heap.size
  inj : ∀ i j oi oj l l' b, H.at? i = some oi → H.at? j = some oj → β i = some l → β j = some l' → l.block = some b → l'.block = some b → i = j
  fresh : ∀ i l b, β i = some l → l.block = some b → b < w.heap.size ∧ ¬ B.K b
  obs : ∀ i o, H.at? i = some o → ∃ l, β i = some l ∧ ObRel F w β l o
  froz : ∀ b o, F b o → b < w.heap.size ∧ (B.K b → B.F0 b o)
  prot : ∀ i b st C st' rows frz pure, β i = some (.at b st C) → H.at? i = some (.buf st' rows frz pure) → ∀ o, F b o → frz = true ∧ o < rows.length * st'

/-- One world behind another one, as far as values are concerned: nothing frozen has turned. -/
structure Ext (β β' : Place) (F F' : Froz) (w w' : World) : Prop where
  place : ∀ i l, β i = some l → β' i = some l
  froz : ∀ b o, F b o → F' b o ∧ cl w' b o = cl w b o

theorem Ext.refl (β : Place) (F : Froz) (w : World) : Ext β β F F w w := ⟨fun _ _ h => h, fun _ _ h => ⟨h, rfl⟩⟩
theorem Ext.trans {β β' β'' : Place} {F F' F'' : Froz} {w w' w'' : World} (h : Ext β β' F F' w w') (k : Ext β' β'' F' F'' w' w'') : Ext β β'' F F'' w w'' :=
  ⟨fun i l hl => k.place i l (h.place i l hl), fun b o hf => ⟨(k.froz b o (h.froz b o hf).1).1, by rw [(k.froz b o (h.froz b o hf).1).2, (h.froz b o hf).2]⟩⟩
theorem Ext.rel {β β' : Place} {F F' : Froz} {w w' : World} (h : Ext β β' F F' w w') {v : V} {cv : Value} (hr : Rel F (cl w) β v cv) : Rel F' (cl w') β' v cv := hr.mono h.froz h.place
theorem Ext.all {β β' : Place} {F F' : Froz} {w w' : World} (h : Ext β β' F F' w w') {vs : List V} {cvs : Array Value} (hr : RelAll F (cl w) β vs cvs) : RelAll F' (cl w') β' vs cvs := hr.mono h.froz h.place

/-- The slots. -/
def EnvRel (F : Froz) (w : World) (β : Place) (e : Env) (tmps : Array Value) : Prop := ∀ t, Rel F (cl w) β (lk e t) (tmps.getD t undef)

theorem Ext.env {β β' : Place} {F F' : Froz} {w w' : World} (h : Ext β β' F F' w w') {e : Env} {tmps : Array Value} (hr : EnvRel F w β e tmps) : EnvRel F' w' β' e tmps := fun t => h.rel (hr t)

theorem lk_cons (t u : Nat) (v : V) (e : Env) : lk ((t, v) :: e) u = if t = u then v else lk e u := by
  show (bif Nat.beq t u then v else lk e u) = _
  by_cases h : t = u
  · subst h; simp
  · have hb : Nat.beq t u = false := by
      cases hb : Nat.beq t u
      · rfl
      · exact absurd (Nat.eq_of_beq_eq_true hb) h
    simp [h, hb]

end Go.Proofs.Ytfdemnefkfkghaa.R
