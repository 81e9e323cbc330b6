/- What a call's arguments read as, as Lean values: whatever the row reads as data of a type is of the print's kind, well formed, and no greater than the row's weights and bulk allow. -/
import Derived.Test.YtfdemnefkfkghaaRows
import Derived.Test.YtfdemnefkfkghaaWWords
import Derived.WalkKit
import Derived.ProofKit
import Derived.OpenShut
import Derived.ShutString
import Derived.ChangeOld
import Derived.Below
import Derived.SizedLaws
import Derived.DataElems
import Derived.Laws.Strings
import Derived.Laws.Cover1
import Derived.Test.YtfdemnefkfkghaaProg
import Derived.Deep.Draws
import Derived.Deep.AppendLies
import Derived.Maps.AppendAt
import Derived.OwnWalk
import Derived.Laws.BytesArg
import Derived.Laws.MakeOwn
import Derived.Laws.OwnMore
import Derived.Deep.OwnRows
import Derived.Tactics
import Derived.Lib.ConvBytes
import Derived.Laws.Slices
import Derived.KernelRfl
import Derived.RowKit3
import Derived.Deep.LoopGhost
import Derived.Deep.QuietTactic
import Derived.BigQuiet
import Derived.WideLaws
import Derived.Deep.DeepCutAuto
import Derived.Deep.CutBlock
import Derived.Deep.RegionHeld3
import Derived.Laws.Rows
import Derived.Lib.AppendStr
import Derived.ArgAppend
import Derived.Laws.IdiomCopy
import Derived.OrdersHeld
import Derived.Laws.BitsLemmas
import Derived.RowKit
import Derived.Test.YtfdemnefkfkghaaWLast
import Derived.Test.YtfdemnefkfkghaaWTab
import Derived.Test.YtfdemnefkfkghaaWFour
import Derived.Test.YtfdemnefkfkghaaWQPut
import Derived.Test.YtfdemnefkfkghaaWApart
import Derived.Test.YtfdemnefkfkghaaWArr
import Derived.Test.YtfdemnefkfkghaaWZeros
import Derived.Test.YtfdemnefkfkghaaWFoot
import Derived.Test.YtfdemnefkfkghaaWKept
import Derived.Test.YtfdemnefkfkghaaWShare
import Derived.Test.YtfdemnefkfkghaaWN
import Derived.Test.YtfdemnefkfkghaaWFootNe
import Derived.Test.YtfdemnefkfkghaaWAt
import Derived.Test.YtfdemnefkfkghaaWEqStruct
import Derived.Test.YtfdemnefkfkghaaWRepsOne
import Derived.Test.YtfdemnefkfkghaaWInv
import Derived.Test.YtfdemnefkfkghaaWInvWords
import Derived.Test.YtfdemnefkfkghaaWGuard
import Derived.Test.YtfdemnefkfkghaaWNEv
import Derived.Test.YtfdemnefkfkghaaWMore
import Derived.Deep.RegionWith
import Derived.Laws.Cover3
import Derived.ChangeKeysEq
import Derived.Stop.BytesEq
import Derived.Laws.BitsAllLaws
import Derived.Lib.SlBytesConst
namespace Go.Proofs.Ytfdemnefkfkghaa.Opn
open Go.RowKit Go.Proofs.YtfdemnefkfkghaaW.PrintWords
open Go.Proofs.Ytfdemnefkfkghaa.Rows (uptoBulk uptoBulkAll)

/-- Read as data of the type t: of the kind d, good, and of no more bulk than the data. -/
def Opens {α : Type} (P : Program) (t : TypeId) (d : Kd α) (good : α → Prop) (mes : α → Nat) : Prop :=
  P.cellsOf t = d.sz ∧ ∀ (H : Type) (enc : TypeId × Value → H) (W : World) (fuel : Nat) (cs : List Value) (x : DataW H × List MemPlace),
    DataW.trod enc P W 0 (fun _ => true) true fuel t cs = some x → (∀ n ∈ x.1.weights P t, n ≤ reachBytes) → ∃ a, d.K W a cs ∧ good a ∧ mes a ≤ uptoBulk x.1

theorem opens_int {P : Program} {t : TypeId} {k : IntKind} (hu : P.underlying t = some (.int k)) (hc : P.cellsOf t = 1) : Opens P t (Kd.int k) (fun n => (Lit.int k n).wf = true) (fun _ => 1) := by
  refine ⟨hc, fun H enc W fuel cs x h _ => ?_⟩
  obtain ⟨n, rfl, rfl, hw⟩ := DataW.trod_int hu h
  exact ⟨n, rfl, hw, by simp [uptoBulk]⟩

theorem opens_bool {P : Program} {t : TypeId} (hu : P.underlying t = some .bool) (hc : P.cellsOf t = 1) : Opens P t Kd.bool (fun _ => True) (fun _ => 1) := by
  refine ⟨hc, fun H enc W fuel cs x h _ => ?_⟩
  obtain ⟨b, rfl, rfl⟩ := DataW.trod_bool hu h
  exact ⟨b, rfl, trivial, by simp [uptoBulk]⟩

theorem opens_string {P : Program} {t : TypeId} (hu : P.underlying t = some .string) (hc : P.cellsOf t = 1) : Opens P t Kd.string (fun s => s.size ≤ 140737488351232) (fun s => s.size + 1) := by
  refine ⟨hc, fun H enc W fuel cs x h hz => ?_⟩
  obtain ⟨s, rfl, rfl, hs⟩ := DataW.trod_string hu h
  have h1 := hz s.data.toList.length (by simp [DataW.weights])
  refine ⟨s, rfl, ?_, ?_⟩
  · simpa [reachBytes] using h1
  · simp [uptoBulk]

theorem bulkAll_append {H : Type} : ∀ (a b : List (DataW H)), uptoBulkAll (a ++ b) = uptoBulkAll a + uptoBulkAll b
  | [], b => by simp [uptoBulkAll]
  | x :: a, b => by simp [uptoBulkAll, bulkAll_append a b]; omega

theorem weights_all {H : Type} {P : Program} {e : TypeId} : ∀ {l : List (DataW H)} {d : DataW H}, d ∈ l → ∀ n ∈ d.weights P e, n ∈ DataW.weightsAll P e l
  | x :: l, d, h, n, hn => by
    simp only [DataW.weightsAll, List.mem_append]
    rcases List.mem_cons.1 h with rfl | h
    · exact .inl hn
    · exact .inr (weights_all h n hn)

/-- Element by element. -/
theorem all_open {α : Type} {P : Program} {e : TypeId} {d : Kd α} {good : α → Prop} {mes : α → Nat} (h : Opens P e d good mes) {H : Type} {enc : TypeId × Value → H} {W : World} {n : Nat} :
    ∀ (elems : List (DataW H × List MemPlace)) (cells : Nat → List Value),
      (∀ i y, elems[i]? = some y → DataW.trod enc P W 0 (fun _ => true) true n e (cells i) = some y) →
      (∀ m ∈ DataW.weightsAll P e (elems.map (·.1)), m ≤ reachBytes) →
      ∃ xs : List α, xs.length = elems.length ∧ (∀ i a, xs[i]? = some a → d.K W a (cells i)) ∧ (∀ a ∈ xs, good a) ∧ (xs.map mes).sum ≤ uptoBulkAll (elems.map (·.1))
  | [], _, _, _ => ⟨[], rfl, fun i a hi => by simp at hi, fun a ha => by simp at ha, by simp⟩
  | y :: elems, cells, ht, hw => by
    obtain ⟨a, hk, hg, hm⟩ := h.2 H enc W n (cells 0) y (ht 0 y rfl) (fun m hm => hw m (by simp only [List.map_cons, DataW.weightsAll, List.mem_append]; exact .inl hm))
    obtain ⟨xs, hl, hks, hgs, hms⟩ := all_open h elems (fun i => cells (i + 1)) (fun i z hz => ht (i + 1) z hz) (fun m hm => hw m (by simp only [List.map_cons, DataW.weightsAll, List.mem_append]; exact .inr hm))
    refine ⟨a :: xs, by simp [hl], ?_, ?_, ?_⟩
    · intro i b hb
      cases i with
      | zero =>
        have : a = b := by simpa using hb
        subst this
        exact hk
      | succ i => exact hks i b (by simpa using hb)
    · intro b hb
      rcases List.mem_cons.1 hb with rfl | hb
      · exact hg
      · exact hgs b hb
    · simp only [List.map_cons, List.sum_cons, uptoBulkAll]
      omega

theorem cells_at {w : World} {base : Nat} : ∀ {n : Nat} {a : Addr} {c : List Value}, w.cells? base a n = some c → c.length = n ∧ ∀ i u, c[i]? = some u → w.cell? (a.add i) = some u := by
  intro n a c h
  unfold World.cells? at h
  split at h
  · have hl := mapM_some_length h
    refine ⟨by simpa using hl, fun i u hu => ?_⟩
    have hi : i < n := by
      have := (List.getElem?_eq_some_iff.1 hu).1
      simp at hl
      omega
    have hg := mapM_some_get h i i (by simp [hi])
    rw [hu] at hg
    exact hg
  · cases h

theorem opens_slice {α : Type} {P : Program} {t e : TypeId} {d : Kd α} {good : α → Prop} {mes : α → Nat} (hu : P.underlying t = some (.slice e)) (hc : P.cellsOf t = 1) (h : Opens P e d good mes) :
    Opens P t (Kd.slice e d) (fun xs => xs.length * P.bytesOf e ≤ 140737488351232 ∧ ∀ a ∈ xs, good a) (fun xs => (xs.map mes).sum + 1) := by
  refine ⟨hc, fun H enc W fuel cs x ht hz => ?_⟩
  rcases DataW.trod_slice hu ht with ⟨rfl, rfl⟩ | ⟨a, len, cap, elems, rest, n, rfl, rfl, rfl, _, hl, hcap, hlen, he, _, _⟩
  · exact ⟨[], ⟨none, 0, rfl, Nat.le_refl _, by exact Kd.C_nil d W⟩, ⟨by simp, by simp⟩, by simp [uptoBulk]⟩
  · simp only [DataW.weights, hu] at hz
    have hw0 := hz _ (List.mem_cons_self ..)
    have hw1 : ∀ m ∈ DataW.weightsAll P e (elems.map (·.1)), m ≤ reachBytes := fun m hm => hz m (List.mem_cons_of_mem _ (List.mem_append_left _ hm))
    have hex : ∀ i, i < len → ∃ c, W.cells? 0 (a.add (i * P.cellsOf e)) (P.cellsOf e) = some c := by
      intro i hi
      have := he i hi
      rw [List.getElem?_eq_getElem (by omega)] at this
      obtain ⟨c, hc, _⟩ := Option.bind_eq_some_iff.1 this
      exact ⟨c, hc⟩
    obtain ⟨xs, hxl, hxk, hxg, hxm⟩ := all_open h (enc := enc) (W := W) (n := n) elems (fun i => (W.cells? 0 (a.add (i * P.cellsOf e)) (P.cellsOf e)).getD []) (by
      intro i y hy
      have hi : i < len := by
        have := (List.getElem?_eq_some_iff.1 hy).1
        omega
      have hh := he i hi
      rw [hy] at hh
      obtain ⟨c, hc, hr⟩ := Option.bind_eq_some_iff.1 hh
      simp only [hc, Option.getD_some]
      exact hr) hw1
    have hxlen : xs.length = len := by omega
    refine ⟨xs, ⟨some a, cap, by rw [hxlen], by omega, ⟨rfl, ?_, fun _ => ⟨a, rfl, fun j p hp => ?_⟩⟩⟩, ⟨?_, hxg⟩, ?_⟩
    · have : maxLen ≤ 9223372036854775807 := by decide
      omega
    · have hj : j < len := by
        have := (List.getElem?_eq_some_iff.1 hp).1
        omega
      obtain ⟨c, hc⟩ := hex j hj
      have hk := hxk j p hp
      simp only [hc, Option.getD_some] at hk
      obtain ⟨hcl, hcc⟩ := cells_at hc
      refine ⟨c, by rw [hcl, h.1], hk, fun i u hu => ?_⟩
      have := hcc i u hu
      rw [h.1] at this
      rw [← this, Addr.add_add]
    · have h1 : xs.length ≤ (elems.map (·.1)).length + (rest.map (·.1)).length := by simp; omega
      exact Nat.le_trans (Nat.mul_le_mul_right _ h1) hw0
    · simp only [uptoBulk]
      omega

/-- The types of fields one behind the other, each where the ones ahead of it end. -/
def offs (P : Program) : Nat → List Field → Bool
  | _, [] => true
  | o, f :: r => f.offset == o && offs P (o + P.cellsOf f.type) r
def cellsAll (P : Program) : List Field → Nat
  | [] => 0
  | f :: r => P.cellsOf f.type + cellsAll P r

/-- Fields in a row. -/
def OpensF {α : Type} (P : Program) (fs : List Field) (d : Kd α) (good : α → Prop) (mes : α → Nat) : Prop :=
  cellsAll P fs = d.sz ∧ ∀ (H : Type) (enc : TypeId × Value → H) (W : World) (fuel : Nat) (cs : List Value) (xs : List (DataW H × List MemPlace)) (o : Nat),
    offs P o fs = true → cs.length = cellsAll P fs → xs.length = fs.length →
    (∀ (i : Nat) (f : Field), fs[i]? = some f → DataW.trod enc P W 0 (fun _ => true) true fuel f.type ((cs.drop (f.offset - o)).take (P.cellsOf f.type)) = xs[i]?) →
    (∀ n ∈ DataW.weightsEach P (fs.map (·.type)) (xs.map (·.1)), n ≤ reachBytes) → ∃ a, d.K W a cs ∧ good a ∧ mes a ≤ uptoBulkAll (xs.map (·.1))

theorem offs_le {P : Program} : ∀ {fs : List Field} {o : Nat}, offs P o fs = true → ∀ (i : Nat) (f : Field), fs[i]? = some f → o ≤ f.offset
  | [], _, _, i, f, hf => by simp at hf
  | g :: r, o, h, i, f, hf => by
    simp only [offs, Bool.and_eq_true, beq_iff_eq] at h
    cases i with
    | zero =>
      have : g = f := by simpa using hf
      subst this
      omega
    | succ i =>
      have := offs_le h.2 i f (by simpa using hf)
      omega

theorem opensF_one {α : Type} {P : Program} {f : Field} {d : Kd α} {good : α → Prop} {mes : α → Nat} (h : Opens P f.type d good mes) : OpensF P [f] d good mes := by
  refine ⟨by simp [cellsAll, h.1], fun H enc W fuel cs xs o ho hl hx ht hw => ?_⟩
  obtain ⟨y, rfl⟩ : ∃ y, xs = [y] := by
    match xs, hx with
    | [y], _ => exact ⟨y, rfl⟩
  have h0 := ht 0 f rfl
  simp only [offs, Bool.and_eq_true, beq_iff_eq] at ho
  rw [ho.1, Nat.sub_self, List.drop_zero, List.take_of_length_le (by simp [cellsAll] at hl; omega)] at h0
  obtain ⟨a, hk, hg, hm⟩ := h.2 H enc W fuel cs y h0 (fun n hn => hw n (by simp [DataW.weightsEach]; exact hn))
  exact ⟨a, hk, hg, by simp [uptoBulkAll]; exact hm⟩

theorem opensF_cons {α β : Type} {P : Program} {f : Field} {fs : List Field} {d : Kd α} {d' : Kd β} {good : α → Prop} {good' : β → Prop} {mes : α → Nat} {mes' : β → Nat} (h : Opens P f.type d good mes) (h' : OpensF P fs d' good' mes') :
    OpensF P (f :: fs) (Kd.pair d d') (fun x => good x.1 ∧ good' x.2) (fun x => mes x.1 + mes' x.2) := by
  refine ⟨by simp only [cellsAll, h.1, h'.1]; rfl, fun H enc W fuel cs xs o ho hl hx ht hw => ?_⟩
  obtain ⟨y, ys, rfl⟩ : ∃ y ys, xs = y :: ys := by
    match xs, hx with
    | y :: ys, _ => exact ⟨y, ys, rfl⟩
  simp only [offs, Bool.and_eq_true, beq_iff_eq] at ho
  simp only [cellsAll] at hl
  have h0 := ht 0 f rfl
  rw [ho.1, Nat.sub_self, List.drop_zero] at h0
  obtain ⟨a, hk, hg, hm⟩ := h.2 H enc W fuel _ y h0 (fun n hn => hw n (by simp only [List.map_cons, DataW.weightsEach, List.mem_append]; exact .inl hn))
  obtain ⟨b, hk', hg', hm'⟩ := h'.2 H enc W fuel (cs.drop (P.cellsOf f.type)) ys (o + P.cellsOf f.type) ho.2 (by simp; omega) (by simpa using hx)
    (fun i g hgi => by
      have hle := offs_le ho.2 i g hgi
      have := ht (i + 1) g (by simpa using hgi)
      rw [show g.offset - o = P.cellsOf f.type + (g.offset - (o + P.cellsOf f.type)) by omega, ← List.drop_drop] at this
      simpa using this)
    (fun n hn => hw n (by simp only [List.map_cons, DataW.weightsEach, List.mem_append]; exact .inr hn))
  refine ⟨(a, b), ⟨cs.take (P.cellsOf f.type), cs.drop (P.cellsOf f.type), (List.take_append_drop _ _).symm, hk, hk'⟩, ⟨hg, hg'⟩, ?_⟩
  simp only [List.map_cons, uptoBulkAll]
  omega

theorem opens_struct {α β : Type} {P : Program} {t : TypeId} {fs : Array Field} {d : Kd α} {good : α → Prop} {mes : α → Nat} (f : β → α) (g : α → β) (hfg : ∀ a, f (g a) = a) (hu : P.underlying t = some (.struct fs)) (hc : P.cellsOf t = d.sz) (ho : offs P 0 fs.toList = true)
    (h : OpensF P fs.toList d good mes) : Opens P t (Kd.iso d f) (fun b => good (f b)) (fun b => mes (f b)) := by
  refine ⟨hc, fun H enc W fuel cs x ht hz => ?_⟩
  obtain ⟨xs, n, rfl, rfl, hl, hx, hi⟩ := DataW.trod_struct hu ht
  simp only [DataW.weights, hu] at hz
  obtain ⟨a, hk, hg, hm⟩ := h.2 H enc W n cs xs 0 ho (by rw [hl, hc, h.1]) (by simpa using hx) (fun i fd hfd => by
    have := hi i fd (by simpa using hfd)
    simpa using this) hz
  refine ⟨g a, ?_, ?_, ?_⟩
  · show d.K W (f (g a)) cs
    rw [hfg]
    exact hk
  · show good (f (g a))
    rw [hfg]
    exact hg
  · show mes (f (g a)) ≤ _
    rw [hfg]
    simp only [uptoBulk]
    omega

/-- What is told of a type by another number of it. -/
theorem opens_imp {α : Type} {P : Program} {t : TypeId} {d : Kd α} {good good' : α → Prop} {mes mes' : α → Nat} (h : Opens P t d good mes) (hg : ∀ a, good a → good' a) (hm : ∀ a, mes' a ≤ mes a) : Opens P t d good' mes' :=
  ⟨h.1, fun H enc W fuel cs x ht hz => by
    obtain ⟨a, hk, hga, hma⟩ := h.2 H enc W fuel cs x ht hz
    exact ⟨a, hk, hg a hga, Nat.le_trans (hm a) hma⟩⟩

/-- One argument of a row. -/
theorem arg_opens {α : Type} {P : Program} {t : TypeId} {d : Kd α} {good : α → Prop} {mes : α → Nat} (h : Opens P t d good mes) {H : Type} {enc : TypeId × Value → H} {W : World} {v : Value} {dat : DataW H} {ps : List MemPlace} (ht : DataW.Trod enc P W 0 (fun _ => true) true t v dat ps)
    {ts : List TypeId} {ds : List (DataW H)} (hsz : (DataW.weightsEach P ts ds).all (· ≤ reachBytes) = true) {j : Nat} (hj : ts[j]? = some t) (hd : ds[j]? = some dat) : ∃ a, d.K W a v.cells.toList ∧ good a ∧ mes a ≤ uptoBulk dat := by
  obtain ⟨fuel, hf⟩ := ht
  exact h.2 H enc W fuel _ (dat, ps) hf (fun n hn => by
    have := List.all_eq_true.1 hsz n (DataW.weights_mem_each hj hd n hn)
    simpa using this)

theorem agg_of_struct {P : Program} {t : TypeId} {fs : Array Field} {W : World} {base : Nat} {v : Value} (hu : P.underlying t = some (.struct fs)) (h : Value.okWide P W .any base t v) : ∃ cs, v = .agg cs := by
  unfold Value.okWide at h
  rw [hu] at h
  obtain ⟨cs, rfl, _⟩ := h
  exact ⟨cs, rfl⟩
open Go.ChangeShapes Go.WideShapes in
theorem int_of {P : Program} {H : Type} {enc : TypeId × Value → H} {W : World} {base : Nat} {t : TypeId} {k : IntKind} {v : Value} {d : DataW H} {p : List MemPlace} (hu : P.underlying t = some (.int k)) (hv : Value.okWide P W .any base t v) (h : DataW.Trod enc P W 0 (fun _ => true) true t v d p) : ∃ x, v = .int k x := by
  obtain ⟨x, rfl, _⟩ := open_int hu hv h
  exact ⟨x, rfl⟩
open Go.ChangeShapes Go.WideShapes in
theorem bool_of {P : Program} {H : Type} {enc : TypeId × Value → H} {W : World} {base : Nat} {t : TypeId} {v : Value} {d : DataW H} {p : List MemPlace} (hu : P.underlying t = some .bool) (hv : Value.okWide P W .any base t v) (h : DataW.Trod enc P W 0 (fun _ => true) true t v d p) : ∃ x, v = .bool x := by
  obtain ⟨x, rfl, _⟩ := open_bool hu hv h
  exact ⟨x, rfl⟩
open Go.ChangeShapes Go.WideShapes Go.ChangeMaps in
theorem string_of {P : Program} {H : Type} {enc : TypeId × Value → H} {W : World} {base : Nat} {t : TypeId} {v : Value} {d : DataW H} {p : List MemPlace} (hu : P.underlying t = some .string) (hv : Value.okWide P W .any base t v) (h : DataW.Trod enc P W 0 (fun _ => true) true t v d p) : ∃ x, v = .string x := by
  obtain ⟨x, rfl, _⟩ := open_string hu hv h
  exact ⟨x, rfl⟩
theorem int_cells {k : IntKind} {w : World} {x y : Int} (h : (Kd.int k).K w x (Value.int k y).cells.toList) : x = y := by
  have h' : [Value.int k y] = [Value.int k x] := h
  injection h' with h' _
  injection h' with _ h'
  exact h'.symm
theorem bool_cells {w : World} {x y : Bool} (h : Kd.bool.K w x (Value.bool y).cells.toList) : x = y := by
  have h' : [Value.bool y] = [Value.bool x] := h
  injection h' with h' _
  injection h' with h'
  exact h'.symm
theorem string_cells {w : World} {x y : ByteArray} (h : Kd.string.K w x (Value.string y).cells.toList) : x = y := by
  have h' : [Value.string y] = [Value.string x] := h
  injection h' with h' _
  injection h' with h'
  exact h'.symm
theorem slice_cells {a a' : Option Addr} {l l' c c' : Nat} (h : (Value.slice a l c).cells.toList = [Value.slice a' l' c']) : a = a' ∧ l = l' ∧ c = c' := by
  have h' : [Value.slice a l c] = [Value.slice a' l' c'] := h
  injection h' with h' _
  injection h' with h1 h2 h3
  exact ⟨h1, h2, h3⟩
end Go.Proofs.Ytfdemnefkfkghaa.Opn
/- Laws that the printed walks lack: strings held against each other by ≤ and >. -/
namespace Go.Proofs.Ytfdemnefkfkghaa.XW
open Go.RowKit

theorem less_or_eq : ∀ x y : List UInt8, (Op.bytesLess x y || x == y) = !(Op.bytesLess y x)
  | [], [] => by simp [Op.bytesLess]
  | [], _ :: _ => by simp [Op.bytesLess]
  | _ :: _, [] => by simp [Op.bytesLess]
  | a :: x, b :: y => by
    have ih := less_or_eq x y
    rw [Op.bytesLess, Op.bytesLess, Bool.eq_iff_iff]
    simp only [Bool.or_eq_true, Bool.and_eq_true, decide_eq_true_eq, beq_iff_eq, List.cons.injEq, Bool.not_eq_true', Bool.or_eq_false_iff, decide_eq_false_iff_not, Bool.and_eq_false_iff, beq_eq_false_iff_ne]
    have h : (Op.bytesLess x y = true ∨ x = y) ↔ Op.bytesLess y x = false := by
      rw [Bool.eq_iff_iff] at ih
      simpa using ih
    rcases Nat.lt_trichotomy a.toNat b.toNat with h1 | h1 | h1
    · have h2 : a < b := UInt8.lt_iff_toNat_lt.2 h1
      have h3 : ¬ b < a := fun h => by have := UInt8.lt_iff_toNat_lt.1 h; omega
      have h4 : ¬ b = a := fun h => by rw [h] at h1; omega
      simp [h2, h3, h4]
    · have h2 : a = b := UInt8.toNat_inj.1 h1
      subst h2
      have h3 : ¬ a < a := fun h => by have := UInt8.lt_iff_toNat_lt.1 h; omega
      simp only [h3, true_and, false_or, not_false_eq_true, ne_eq, not_true_eq_false, false_or]
      exact h
    · have h2 : b < a := UInt8.lt_iff_toNat_lt.2 h1
      have h3 : ¬ a < b := fun h => by have := UInt8.lt_iff_toNat_lt.1 h; omega
      have h4 : ¬ a = b := fun h => by rw [h] at h1; omega
      simp [h2, h3, h4]

theorem leq (t : TypeId) (a b : ByteArray) : binOp .leq t (.string a) (.string b) = pure (.bool (!(Op.bytesLess b.toList a.toList))) := by
  rw [binOp_string_leq, less_or_eq]
theorem gtr (t : TypeId) (a b : ByteArray) : binOp .gtr t (.string a) (.string b) = pure (.bool (Op.bytesLess b.toList a.toList)) := by
  rw [binOp_string_gtr, less_or_eq, Bool.not_not]
theorem geq (t : TypeId) (a b : ByteArray) : binOp .geq t (.string a) (.string b) = pure (.bool (!(Op.bytesLess a.toList b.toList))) := binOp_string_geq t a b
end Go.Proofs.Ytfdemnefkfkghaa.XW
/- Functions of the program as Lean functions, and that their calls come to them: written by xprint.py of this session, out of the kit's print program. -/
namespace Go.Proofs.Ytfdemnefkfkghaa.X
open Go.RowKit Go.Proofs.YtfdemnefkfkghaaW.PrintWords Go.Proofs.YtfdemnefkfkghaaW.PrintLast Go.Proofs.YtfdemnefkfkghaaW.PrintMore
attribute [local go_sem] max2_int min2_int max_two min_two max_three min_three max_four min_four   -- for this text's walks alone
attribute [local go_sem high] Go.Proofs.Ytfdemnefkfkghaa.XW.leq Go.Proofs.Ytfdemnefkfkghaa.XW.gtr Go.Proofs.Ytfdemnefkfkghaa.XW.geq
set_option linter.unusedVariables false
set_option linter.unusedSimpArgs false



def errW : Option Int → Value
  | none => .nilIface
  | some c => .iface 0 (.int .i64 c)
theorem errW_none : errW none = .nilIface := rfl
theorem errW_some (c : Int) : errW (some c) = .iface 0 (.int .i64 c) := rfl

theorem info3 : (Try.prog.info? 3).map (fun i => (i.zero, i.size, i.bytes)) = some (some (.int .i64 0), 1, 8) := by kernel_rfl
theorem info5 : (Try.prog.info? 5).map (fun i => (i.zero, i.size, i.bytes)) = some (some (.int .u8 0), 1, 1) := by kernel_rfl
theorem info9 : (Try.prog.info? 9).map (fun i => (i.zero, i.size, i.bytes)) = some (some (.string ⟨#[]⟩), 1, 16) := by kernel_rfl
theorem info42 : (Try.prog.info? 42).map (fun i => (i.zero, i.size, i.bytes)) = some (some (.int .u32 0), 1, 4) := by kernel_rfl
theorem info100 : (Try.prog.info? 100).map (fun i => (i.zero, i.size, i.bytes)) = some (some (.agg #[(.int .u32 0), (.int .u16 0), (.string ⟨#[]⟩), (.string ⟨#[]⟩)]), 4, 40) := by kernel_rfl
theorem info121 : (Try.prog.info? 121).map (fun i => (i.zero, i.size, i.bytes)) = some (some (.agg #[(.int .u8 0), (.string ⟨#[]⟩), (.string ⟨#[]⟩), (.int .u32 0), (.int .u16 0), (.string ⟨#[]⟩)]), 6, 64) := by kernel_rfl
theorem info136 : (Try.prog.info? 136).map (fun i => (i.zero, i.size, i.bytes)) = some (some (.agg #[(.string ⟨#[]⟩), (.slice none 0 0)]), 2, 40) := by kernel_rfl
theorem info145 : (Try.prog.info? 145).map (fun i => (i.zero, i.size, i.bytes)) = some (some (.agg #[(.string ⟨#[]⟩), (.string ⟨#[]⟩)]), 2, 32) := by kernel_rfl
theorem info149 : (Try.prog.info? 149).map (fun i => (i.zero, i.size, i.bytes)) = some (some (.agg #[(.int .u8 0), (.string ⟨#[]⟩), (.string ⟨#[]⟩), (.string ⟨#[]⟩), (.string ⟨#[]⟩), (.string ⟨#[]⟩)]), 6, 88) := by kernel_rfl
theorem info151 : (Try.prog.info? 151).map (fun i => (i.zero, i.size, i.bytes)) = some (some (.agg #[(.string ⟨#[]⟩), (.bool false), (.bool false), (.string ⟨#[]⟩), (.string ⟨#[]⟩)]), 5, 56) := by kernel_rfl
theorem info184 : (Try.prog.info? 184).map (fun i => (i.zero, i.size, i.bytes)) = some (some (.agg #[(.int .u32 0), (.int .u32 0)]), 2, 8) := by kernel_rfl
-- the values' own types
/-! #### struct type 145 -/
structure S145 where
  f0 : ByteArray
  f1 : ByteArray
def z145 : S145 := ⟨(⟨#[]⟩ : ByteArray), (⟨#[]⟩ : ByteArray)⟩
def k145 : Kd S145 := Kd.iso (Kd.pair Kd.string Kd.string) (fun x : S145 => (x.f0, x.f1))
theorem k145_heap : Kd.Heap k145 := Kd.heap_iso _ (Kd.heap_pair Kd.heap_string Kd.heap_string)
theorem k145_open {w : World} {x : S145} {cs : List Value} (h : k145.K w x cs) : cs = [.string x.f0, .string x.f1] := by
  obtain ⟨_, _, rfl, rfl, rfl⟩ := h
  exact rfl
theorem k145_openM {w : World} {base : Nat} {ok : Nat → Prop} {x : S145} {cs : List Value} (h : k145.M w base ok x cs) : cs = [.string x.f0, .string x.f1] := by
  obtain ⟨_, _, rfl, rfl, rfl⟩ := h
  exact rfl
theorem k145_mk (w : World) (x : S145)  : k145.K w x [.string x.f0, .string x.f1] := ⟨[.string x.f0], [.string x.f1], rfl, rfl, rfl⟩
theorem k145_mkM (w : World) (base : Nat) (ok : Nat → Prop) (x : S145)  : k145.M w base ok x [.string x.f0, .string x.f1] := ⟨[.string x.f0], [.string x.f1], rfl, rfl, rfl⟩
theorem k145_mkF (W : World) (ok : Nat → Prop) (x : S145) : Kd.FK k145 W ok x [.string x.f0, .string x.f1] := fun W2 _ => k145_mk W2 x
def rd_T145 (xs : List S145) (i : Int) : S145 := xs.getD i.toNat z145
theorem at_T145 {w : World} {A : Option Addr} {n : Nat} {xs : List S145} (h : Kd.C k145 w A n xs) (i : Int) (h0 : 0 ≤ i) (h1 : i < n) : ∃ ad , A = some ad ∧ w.cell? (ad.add (i.toNat * 2)) = some (.string (rd_T145 xs i).f0) ∧ w.cell? ⟨(ad.add (i.toNat * 2)).block, (ad.add (i.toNat * 2)).off + 1, none⟩ = some (.string (rd_T145 xs i).f1) := by
  obtain ⟨ad, c, e, _, hK, hc0⟩ := Kd.C_get h z145 i h0 h1
  have hc : ∀ j u, c[j]? = some u → w.cell? (ad.add (i.toNat * 2 + j)) = some u := hc0
  obtain rfl := k145_open hK
  exact ⟨ad, e, hc 0 _ rfl, by rw [← add_field _ _ 1 (by omega)]; exact hc 1 _ rfl⟩

/-! #### struct type 121 -/
structure S121 where
  f0 : Int
  f1 : ByteArray
  f2 : ByteArray
  f3 : Int
  f4 : Int
  f5 : ByteArray
def z121 : S121 := ⟨(0 : Int), (⟨#[]⟩ : ByteArray), (⟨#[]⟩ : ByteArray), (0 : Int), (0 : Int), (⟨#[]⟩ : ByteArray)⟩
def k121 : Kd S121 := Kd.iso (Kd.pair (Kd.int .u8) (Kd.pair Kd.string (Kd.pair Kd.string (Kd.pair (Kd.int .u32) (Kd.pair (Kd.int .u16) Kd.string))))) (fun x : S121 => (x.f0, x.f1, x.f2, x.f3, x.f4, x.f5))
theorem k121_heap : Kd.Heap k121 := Kd.heap_iso _ (Kd.heap_pair (Kd.heap_int .u8) (Kd.heap_pair Kd.heap_string (Kd.heap_pair Kd.heap_string (Kd.heap_pair (Kd.heap_int .u32) (Kd.heap_pair (Kd.heap_int .u16) Kd.heap_string)))))
theorem k121_open {w : World} {x : S121} {cs : List Value} (h : k121.K w x cs) : cs = [.int .u8 x.f0, .string x.f1, .string x.f2, .int .u32 x.f3, .int .u16 x.f4, .string x.f5] := by
  obtain ⟨_, _, rfl, rfl, ⟨_, _, rfl, rfl, ⟨_, _, rfl, rfl, ⟨_, _, rfl, rfl, ⟨_, _, rfl, rfl, rfl⟩⟩⟩⟩⟩ := h
  exact rfl
theorem k121_openM {w : World} {base : Nat} {ok : Nat → Prop} {x : S121} {cs : List Value} (h : k121.M w base ok x cs) : cs = [.int .u8 x.f0, .string x.f1, .string x.f2, .int .u32 x.f3, .int .u16 x.f4, .string x.f5] := by
  obtain ⟨_, _, rfl, rfl, ⟨_, _, rfl, rfl, ⟨_, _, rfl, rfl, ⟨_, _, rfl, rfl, ⟨_, _, rfl, rfl, rfl⟩⟩⟩⟩⟩ := h
  exact rfl
theorem k121_mk (w : World) (x : S121)  : k121.K w x [.int .u8 x.f0, .string x.f1, .string x.f2, .int .u32 x.f3, .int .u16 x.f4, .string x.f5] := ⟨[.int .u8 x.f0], [.string x.f1, .string x.f2, .int .u32 x.f3, .int .u16 x.f4, .string x.f5], rfl, rfl, ⟨[.string x.f1], [.string x.f2, .int .u32 x.f3, .int .u16 x.f4, .string x.f5], rfl, rfl, ⟨[.string x.f2], [.int .u32 x.f3, .int .u16 x.f4, .string x.f5], rfl, rfl, ⟨[.int .u32 x.f3], [.int .u16 x.f4, .string x.f5], rfl, rfl, ⟨[.int .u16 x.f4], [.string x.f5], rfl, rfl, rfl⟩⟩⟩⟩⟩
theorem k121_mkM (w : World) (base : Nat) (ok : Nat → Prop) (x : S121)  : k121.M w base ok x [.int .u8 x.f0, .string x.f1, .string x.f2, .int .u32 x.f3, .int .u16 x.f4, .string x.f5] := ⟨[.int .u8 x.f0], [.string x.f1, .string x.f2, .int .u32 x.f3, .int .u16 x.f4, .string x.f5], rfl, rfl, ⟨[.string x.f1], [.string x.f2, .int .u32 x.f3, .int .u16 x.f4, .string x.f5], rfl, rfl, ⟨[.string x.f2], [.int .u32 x.f3, .int .u16 x.f4, .string x.f5], rfl, rfl, ⟨[.int .u32 x.f3], [.int .u16 x.f4, .string x.f5], rfl, rfl, ⟨[.int .u16 x.f4], [.string x.f5], rfl, rfl, rfl⟩⟩⟩⟩⟩
theorem k121_mkF (W : World) (ok : Nat → Prop) (x : S121) : Kd.FK k121 W ok x [.int .u8 x.f0, .string x.f1, .string x.f2, .int .u32 x.f3, .int .u16 x.f4, .string x.f5] := fun W2 _ => k121_mk W2 x
def rd_T121 (xs : List S121) (i : Int) : S121 := xs.getD i.toNat z121
theorem at_T121 {w : World} {A : Option Addr} {n : Nat} {xs : List S121} (h : Kd.C k121 w A n xs) (i : Int) (h0 : 0 ≤ i) (h1 : i < n) : ∃ ad , A = some ad ∧ w.cell? (ad.add (i.toNat * 6)) = some (.int .u8 (rd_T121 xs i).f0) ∧ w.cell? ⟨(ad.add (i.toNat * 6)).block, (ad.add (i.toNat * 6)).off + 1, none⟩ = some (.string (rd_T121 xs i).f1) ∧ w.cell? ⟨(ad.add (i.toNat * 6)).block, (ad.add (i.toNat * 6)).off + 2, none⟩ = some (.string (rd_T121 xs i).f2) ∧ w.cell? ⟨(ad.add (i.toNat * 6)).block, (ad.add (i.toNat * 6)).off + 3, none⟩ = some (.int .u32 (rd_T121 xs i).f3) ∧ w.cell? ⟨(ad.add (i.toNat * 6)).block, (ad.add (i.toNat * 6)).off + 4, none⟩ = some (.int .u16 (rd_T121 xs i).f4) ∧ w.cell? ⟨(ad.add (i.toNat * 6)).block, (ad.add (i.toNat * 6)).off + 5, none⟩ = some (.string (rd_T121 xs i).f5) := by
  obtain ⟨ad, c, e, _, hK, hc0⟩ := Kd.C_get h z121 i h0 h1
  have hc : ∀ j u, c[j]? = some u → w.cell? (ad.add (i.toNat * 6 + j)) = some u := hc0
  obtain rfl := k121_open hK
  exact ⟨ad, e, hc 0 _ rfl, by rw [← add_field _ _ 1 (by omega)]; exact hc 1 _ rfl, by rw [← add_field _ _ 2 (by omega)]; exact hc 2 _ rfl, by rw [← add_field _ _ 3 (by omega)]; exact hc 3 _ rfl, by rw [← add_field _ _ 4 (by omega)]; exact hc 4 _ rfl, by rw [← add_field _ _ 5 (by omega)]; exact hc 5 _ rfl⟩

/-! #### struct type 98 -/
structure S98 where
  f0 : ByteArray
  f1 : ByteArray
def z98 : S98 := ⟨(⟨#[]⟩ : ByteArray), (⟨#[]⟩ : ByteArray)⟩
def k98 : Kd S98 := Kd.iso (Kd.pair Kd.string Kd.string) (fun x : S98 => (x.f0, x.f1))
theorem k98_heap : Kd.Heap k98 := Kd.heap_iso _ (Kd.heap_pair Kd.heap_string Kd.heap_string)
theorem k98_open {w : World} {x : S98} {cs : List Value} (h : k98.K w x cs) : cs = [.string x.f0, .string x.f1] := by
  obtain ⟨_, _, rfl, rfl, rfl⟩ := h
  exact rfl
theorem k98_openM {w : World} {base : Nat} {ok : Nat → Prop} {x : S98} {cs : List Value} (h : k98.M w base ok x cs) : cs = [.string x.f0, .string x.f1] := by
  obtain ⟨_, _, rfl, rfl, rfl⟩ := h
  exact rfl
theorem k98_mk (w : World) (x : S98)  : k98.K w x [.string x.f0, .string x.f1] := ⟨[.string x.f0], [.string x.f1], rfl, rfl, rfl⟩
theorem k98_mkM (w : World) (base : Nat) (ok : Nat → Prop) (x : S98)  : k98.M w base ok x [.string x.f0, .string x.f1] := ⟨[.string x.f0], [.string x.f1], rfl, rfl, rfl⟩
theorem k98_mkF (W : World) (ok : Nat → Prop) (x : S98) : Kd.FK k98 W ok x [.string x.f0, .string x.f1] := fun W2 _ => k98_mk W2 x
def rd_T98 (xs : List S98) (i : Int) : S98 := xs.getD i.toNat z98
theorem at_T98 {w : World} {A : Option Addr} {n : Nat} {xs : List S98} (h : Kd.C k98 w A n xs) (i : Int) (h0 : 0 ≤ i) (h1 : i < n) : ∃ ad , A = some ad ∧ w.cell? (ad.add (i.toNat * 2)) = some (.string (rd_T98 xs i).f0) ∧ w.cell? ⟨(ad.add (i.toNat * 2)).block, (ad.add (i.toNat * 2)).off + 1, none⟩ = some (.string (rd_T98 xs i).f1) := by
  obtain ⟨ad, c, e, _, hK, hc0⟩ := Kd.C_get h z98 i h0 h1
  have hc : ∀ j u, c[j]? = some u → w.cell? (ad.add (i.toNat * 2 + j)) = some u := hc0
  obtain rfl := k98_open hK
  exact ⟨ad, e, hc 0 _ rfl, by rw [← add_field _ _ 1 (by omega)]; exact hc 1 _ rfl⟩

/-! #### struct type 100 -/
structure S100 where
  f0 : Int
  f1 : Int
  f2 : S98
def z100 : S100 := ⟨(0 : Int), (0 : Int), z98⟩
def k100 : Kd S100 := Kd.iso (Kd.pair (Kd.int .u32) (Kd.pair (Kd.int .u16) k98)) (fun x : S100 => (x.f0, x.f1, x.f2))
theorem k100_heap : Kd.Heap k100 := Kd.heap_iso _ (Kd.heap_pair (Kd.heap_int .u32) (Kd.heap_pair (Kd.heap_int .u16) k98_heap))
theorem k100_open {w : World} {x : S100} {cs : List Value} (h : k100.K w x cs) : cs = [.int .u32 x.f0, .int .u16 x.f1, .string x.f2.f0, .string x.f2.f1] := by
  obtain ⟨_, _, rfl, rfl, ⟨_, _, rfl, rfl, s2⟩⟩ := h
  obtain rfl := k98_open s2
  exact rfl
theorem k100_openM {w : World} {base : Nat} {ok : Nat → Prop} {x : S100} {cs : List Value} (h : k100.M w base ok x cs) : cs = [.int .u32 x.f0, .int .u16 x.f1, .string x.f2.f0, .string x.f2.f1] := by
  obtain ⟨_, _, rfl, rfl, ⟨_, _, rfl, rfl, s2⟩⟩ := h
  obtain rfl := k98_openM s2
  exact rfl
theorem k100_mk (w : World) (x : S100)  : k100.K w x [.int .u32 x.f0, .int .u16 x.f1, .string x.f2.f0, .string x.f2.f1] := ⟨[.int .u32 x.f0], [.int .u16 x.f1, .string x.f2.f0, .string x.f2.f1], rfl, rfl, ⟨[.int .u16 x.f1], [.string x.f2.f0, .string x.f2.f1], rfl, rfl, (k98_mk w x.f2 )⟩⟩
theorem k100_mkM (w : World) (base : Nat) (ok : Nat → Prop) (x : S100)  : k100.M w base ok x [.int .u32 x.f0, .int .u16 x.f1, .string x.f2.f0, .string x.f2.f1] := ⟨[.int .u32 x.f0], [.int .u16 x.f1, .string x.f2.f0, .string x.f2.f1], rfl, rfl, ⟨[.int .u16 x.f1], [.string x.f2.f0, .string x.f2.f1], rfl, rfl, (k98_mkM w base ok x.f2 )⟩⟩
theorem k100_mkF (W : World) (ok : Nat → Prop) (x : S100) : Kd.FK k100 W ok x [.int .u32 x.f0, .int .u16 x.f1, .string x.f2.f0, .string x.f2.f1] := fun W2 _ => k100_mk W2 x
def rd_T100 (xs : List S100) (i : Int) : S100 := xs.getD i.toNat z100
theorem at_T100 {w : World} {A : Option Addr} {n : Nat} {xs : List S100} (h : Kd.C k100 w A n xs) (i : Int) (h0 : 0 ≤ i) (h1 : i < n) : ∃ ad , A = some ad ∧ w.cell? (ad.add (i.toNat * 4)) = some (.int .u32 (rd_T100 xs i).f0) ∧ w.cell? ⟨(ad.add (i.toNat * 4)).block, (ad.add (i.toNat * 4)).off + 1, none⟩ = some (.int .u16 (rd_T100 xs i).f1) ∧ w.cell? ⟨(ad.add (i.toNat * 4)).block, (ad.add (i.toNat * 4)).off + 2, none⟩ = some (.string (rd_T100 xs i).f2.f0) ∧ w.cell? ⟨(ad.add (i.toNat * 4)).block, (ad.add (i.toNat * 4)).off + 3, none⟩ = some (.string (rd_T100 xs i).f2.f1) := by
  obtain ⟨ad, c, e, _, hK, hc0⟩ := Kd.C_get h z100 i h0 h1
  have hc : ∀ j u, c[j]? = some u → w.cell? (ad.add (i.toNat * 4 + j)) = some u := hc0
  obtain rfl := k100_open hK
  exact ⟨ad, e, hc 0 _ rfl, by rw [← add_field _ _ 1 (by omega)]; exact hc 1 _ rfl, by rw [← add_field _ _ 2 (by omega)]; exact hc 2 _ rfl, by rw [← add_field _ _ 3 (by omega)]; exact hc 3 _ rfl⟩

def rd_L9 (xs : List (List S145)) (i : Int) : (List S145) := xs.getD i.toNat ([] : List S145)
theorem at_L9 {w : World} {A : Option Addr} {n : Nat} {xs : List (List S145)} (h : Kd.C (Kd.slice 145 k145) w A n xs) (i : Int) (h0 : 0 ≤ i) (h1 : i < n) : ∃ ad A0 c0, A = some ad ∧ w.cell? (ad.add i.toNat) = some (.slice A0 (rd_L9 xs i).length c0) ∧ (rd_L9 xs i).length ≤ c0 ∧ k145.C w A0 (rd_L9 xs i).length (rd_L9 xs i) := by
  obtain ⟨ad, c, e, _, hK, hc0⟩ := Kd.C_get h ([] : List S145) i h0 h1
  have hc : ∀ j u, c[j]? = some u → w.cell? (ad.add (i.toNat * 1 + j)) = some u := hc0
  obtain ⟨A0, c0, rfl, l0, g0⟩ := hK
  exact ⟨ad, A0, c0, e, by have hq := hc 0 _ rfl; rwa [Nat.mul_one, Nat.add_zero] at hq, l0, g0⟩

def rd_L10 (xs : List (List ByteArray)) (i : Int) : (List ByteArray) := xs.getD i.toNat ([] : List ByteArray)
theorem at_L10 {w : World} {A : Option Addr} {n : Nat} {xs : List (List ByteArray)} (h : Kd.C (Kd.slice 9 Kd.string) w A n xs) (i : Int) (h0 : 0 ≤ i) (h1 : i < n) : ∃ ad A0 c0, A = some ad ∧ w.cell? (ad.add i.toNat) = some (.slice A0 (rd_L10 xs i).length c0) ∧ (rd_L10 xs i).length ≤ c0 ∧ Kd.string.C w A0 (rd_L10 xs i).length (rd_L10 xs i) := by
  obtain ⟨ad, c, e, _, hK, hc0⟩ := Kd.C_get h ([] : List ByteArray) i h0 h1
  have hc : ∀ j u, c[j]? = some u → w.cell? (ad.add (i.toNat * 1 + j)) = some u := hc0
  obtain ⟨A0, c0, rfl, l0, g0⟩ := hK
  exact ⟨ad, A0, c0, e, by have hq := hc 0 _ rfl; rwa [Nat.mul_one, Nat.add_zero] at hq, l0, g0⟩

def rd_L11 (xs : List (List S100)) (i : Int) : (List S100) := xs.getD i.toNat ([] : List S100)
theorem at_L11 {w : World} {A : Option Addr} {n : Nat} {xs : List (List S100)} (h : Kd.C (Kd.slice 100 k100) w A n xs) (i : Int) (h0 : 0 ≤ i) (h1 : i < n) : ∃ ad A0 c0, A = some ad ∧ w.cell? (ad.add i.toNat) = some (.slice A0 (rd_L11 xs i).length c0) ∧ (rd_L11 xs i).length ≤ c0 ∧ k100.C w A0 (rd_L11 xs i).length (rd_L11 xs i) := by
  obtain ⟨ad, c, e, _, hK, hc0⟩ := Kd.C_get h ([] : List S100) i h0 h1
  have hc : ∀ j u, c[j]? = some u → w.cell? (ad.add (i.toNat * 1 + j)) = some u := hc0
  obtain ⟨A0, c0, rfl, l0, g0⟩ := hK
  exact ⟨ad, A0, c0, e, by have hq := hc 0 _ rfl; rwa [Nat.mul_one, Nat.add_zero] at hq, l0, g0⟩

def rd_L12 (xs : List (List S121)) (i : Int) : (List S121) := xs.getD i.toNat ([] : List S121)
theorem at_L12 {w : World} {A : Option Addr} {n : Nat} {xs : List (List S121)} (h : Kd.C (Kd.slice 121 k121) w A n xs) (i : Int) (h0 : 0 ≤ i) (h1 : i < n) : ∃ ad A0 c0, A = some ad ∧ w.cell? (ad.add i.toNat) = some (.slice A0 (rd_L12 xs i).length c0) ∧ (rd_L12 xs i).length ≤ c0 ∧ k121.C w A0 (rd_L12 xs i).length (rd_L12 xs i) := by
  obtain ⟨ad, c, e, _, hK, hc0⟩ := Kd.C_get h ([] : List S121) i h0 h1
  have hc : ∀ j u, c[j]? = some u → w.cell? (ad.add (i.toNat * 1 + j)) = some u := hc0
  obtain ⟨A0, c0, rfl, l0, g0⟩ := hK
  exact ⟨ad, A0, c0, e, by have hq := hc 0 _ rfl; rwa [Nat.mul_one, Nat.add_zero] at hq, l0, g0⟩

/-! #### struct type 93 -/
structure S93 where
  f0 : Bool
  f1 : (List S145)
  f2 : (List ByteArray)
  f3 : (List S100)
  f4 : (List S121)
def z93 : S93 := ⟨false, ([] : List S145), ([] : List ByteArray), ([] : List S100), ([] : List S121)⟩
def k93 : Kd S93 := Kd.iso (Kd.pair Kd.bool (Kd.pair (Kd.slice 145 k145) (Kd.pair (Kd.slice 9 Kd.string) (Kd.pair (Kd.slice 100 k100) (Kd.slice 121 k121))))) (fun x : S93 => (x.f0, x.f1, x.f2, x.f3, x.f4))
theorem k93_heap : Kd.Heap k93 := Kd.heap_iso _ (Kd.heap_pair Kd.heap_bool (Kd.heap_pair (Kd.heap_slice 145 k145_heap) (Kd.heap_pair (Kd.heap_slice 9 Kd.heap_string) (Kd.heap_pair (Kd.heap_slice 100 k100_heap) (Kd.heap_slice 121 k121_heap)))))
theorem k93_open {w : World} {x : S93} {cs : List Value} (h : k93.K w x cs) : ∃ A1 c1 A2 c2 A3 c3 A4 c4, cs = [.bool x.f0, .slice A1 x.f1.length c1, .slice A2 x.f2.length c2, .slice A3 x.f3.length c3, .slice A4 x.f4.length c4] ∧ x.f1.length ≤ c1 ∧ k145.C w A1 x.f1.length x.f1 ∧ x.f2.length ≤ c2 ∧ Kd.string.C w A2 x.f2.length x.f2 ∧ x.f3.length ≤ c3 ∧ k100.C w A3 x.f3.length x.f3 ∧ x.f4.length ≤ c4 ∧ k121.C w A4 x.f4.length x.f4 := by
  obtain ⟨_, _, rfl, rfl, ⟨_, _, rfl, ⟨A1, c1, rfl, l1, g1⟩, ⟨_, _, rfl, ⟨A2, c2, rfl, l2, g2⟩, ⟨_, _, rfl, ⟨A3, c3, rfl, l3, g3⟩, ⟨A4, c4, rfl, l4, g4⟩⟩⟩⟩⟩ := h
  exact ⟨A1, c1, A2, c2, A3, c3, A4, c4, rfl, l1, g1, l2, g2, l3, g3, l4, g4⟩
theorem k93_openM {w : World} {base : Nat} {ok : Nat → Prop} {x : S93} {cs : List Value} (h : k93.M w base ok x cs) : ∃ v1 v2 v3 v4, cs = [.bool x.f0, v1, v2, v3, v4] ∧ k145.R 145 w base ok v1 x.f1 ∧ Kd.string.R 9 w base ok v2 x.f2 ∧ k100.R 100 w base ok v3 x.f3 ∧ k121.R 121 w base ok v4 x.f4 := by
  obtain ⟨_, _, rfl, rfl, ⟨_, _, rfl, ⟨v1, rfl, g1⟩, ⟨_, _, rfl, ⟨v2, rfl, g2⟩, ⟨_, _, rfl, ⟨v3, rfl, g3⟩, ⟨v4, rfl, g4⟩⟩⟩⟩⟩ := h
  exact ⟨v1, v2, v3, v4, rfl, g1, g2, g3, g4⟩
theorem k93_mk (w : World) (x : S93) {A1 : Option Addr} {c1 : Nat} (l1 : x.f1.length ≤ c1) (g1 : k145.C w A1 x.f1.length x.f1) {A2 : Option Addr} {c2 : Nat} (l2 : x.f2.length ≤ c2) (g2 : Kd.string.C w A2 x.f2.length x.f2) {A3 : Option Addr} {c3 : Nat} (l3 : x.f3.length ≤ c3) (g3 : k100.C w A3 x.f3.length x.f3) {A4 : Option Addr} {c4 : Nat} (l4 : x.f4.length ≤ c4) (g4 : k121.C w A4 x.f4.length x.f4) : k93.K w x [.bool x.f0, .slice A1 x.f1.length c1, .slice A2 x.f2.length c2, .slice A3 x.f3.length c3, .slice A4 x.f4.length c4] := ⟨[.bool x.f0], [.slice A1 x.f1.length c1, .slice A2 x.f2.length c2, .slice A3 x.f3.length c3, .slice A4 x.f4.length c4], rfl, rfl, ⟨[.slice A1 x.f1.length c1], [.slice A2 x.f2.length c2, .slice A3 x.f3.length c3, .slice A4 x.f4.length c4], rfl, ⟨A1, c1, rfl, l1, g1⟩, ⟨[.slice A2 x.f2.length c2], [.slice A3 x.f3.length c3, .slice A4 x.f4.length c4], rfl, ⟨A2, c2, rfl, l2, g2⟩, ⟨[.slice A3 x.f3.length c3], [.slice A4 x.f4.length c4], rfl, ⟨A3, c3, rfl, l3, g3⟩, ⟨A4, c4, rfl, l4, g4⟩⟩⟩⟩⟩
theorem k93_mkM (w : World) (base : Nat) (ok : Nat → Prop) (x : S93) {v1 : Value} (g1 : k145.R 145 w base ok v1 x.f1) {v2 : Value} (g2 : Kd.string.R 9 w base ok v2 x.f2) {v3 : Value} (g3 : k100.R 100 w base ok v3 x.f3) {v4 : Value} (g4 : k121.R 121 w base ok v4 x.f4) : k93.M w base ok x [.bool x.f0, v1, v2, v3, v4] := ⟨[.bool x.f0], [v1, v2, v3, v4], rfl, rfl, ⟨[v1], [v2, v3, v4], rfl, ⟨v1, rfl, g1⟩, ⟨[v2], [v3, v4], rfl, ⟨v2, rfl, g2⟩, ⟨[v3], [v4], rfl, ⟨v3, rfl, g3⟩, ⟨v4, rfl, g4⟩⟩⟩⟩⟩
theorem k93_openF {W : World} {ok : Nat → Prop} {x : S93} {cs : List Value} (h : Kd.FK k93 W ok x cs) : ∃ A1 c1 A2 c2 A3 c3 A4 c4, cs = [.bool x.f0, .slice A1 x.f1.length c1, .slice A2 x.f2.length c2, .slice A3 x.f3.length c3, .slice A4 x.f4.length c4] ∧ x.f1.length ≤ c1 ∧ Kd.F k145 W ok A1 x.f1.length x.f1 ∧ x.f2.length ≤ c2 ∧ Kd.F Kd.string W ok A2 x.f2.length x.f2 ∧ x.f3.length ≤ c3 ∧ Kd.F k100 W ok A3 x.f3.length x.f3 ∧ x.f4.length ≤ c4 ∧ Kd.F k121 W ok A4 x.f4.length x.f4 := by
  obtain ⟨A1, c1, A2, c2, A3, c3, A4, c4, rfl, l1, _, l2, _, l3, _, l4, _⟩ := k93_open (Kd.FK_now h)
  exact ⟨A1, c1, A2, c2, A3, c3, A4, c4, rfl, l1, (fun W' hW => by obtain ⟨A1_, c1_, A2_, c2_, A3_, c3_, A4_, c4_, he, l1_, g1_, l2_, g2_, l3_, g3_, l4_, g4_⟩ := k93_open (h W' hW); injection (Option.some.inj (show some (Value.slice A1 x.f1.length c1) = some (Value.slice A1_ x.f1.length c1_) from congrArg (fun l => l[1]?) he)) with ha_ _ _; rw [ha_]; exact g1_), l2, (fun W' hW => by obtain ⟨A1_, c1_, A2_, c2_, A3_, c3_, A4_, c4_, he, l1_, g1_, l2_, g2_, l3_, g3_, l4_, g4_⟩ := k93_open (h W' hW); injection (Option.some.inj (show some (Value.slice A2 x.f2.length c2) = some (Value.slice A2_ x.f2.length c2_) from congrArg (fun l => l[2]?) he)) with ha_ _ _; rw [ha_]; exact g2_), l3, (fun W' hW => by obtain ⟨A1_, c1_, A2_, c2_, A3_, c3_, A4_, c4_, he, l1_, g1_, l2_, g2_, l3_, g3_, l4_, g4_⟩ := k93_open (h W' hW); injection (Option.some.inj (show some (Value.slice A3 x.f3.length c3) = some (Value.slice A3_ x.f3.length c3_) from congrArg (fun l => l[3]?) he)) with ha_ _ _; rw [ha_]; exact g3_), l4, (fun W' hW => by obtain ⟨A1_, c1_, A2_, c2_, A3_, c3_, A4_, c4_, he, l1_, g1_, l2_, g2_, l3_, g3_, l4_, g4_⟩ := k93_open (h W' hW); injection (Option.some.inj (show some (Value.slice A4 x.f4.length c4) = some (Value.slice A4_ x.f4.length c4_) from congrArg (fun l => l[4]?) he)) with ha_ _ _; rw [ha_]; exact g4_)⟩
theorem k93_mkF (W : World) (ok : Nat → Prop) (x : S93) {A1 : Option Addr} {c1 : Nat} (l1 : x.f1.length ≤ c1) (g1 : Kd.F k145 W ok A1 x.f1.length x.f1) {A2 : Option Addr} {c2 : Nat} (l2 : x.f2.length ≤ c2) (g2 : Kd.F Kd.string W ok A2 x.f2.length x.f2) {A3 : Option Addr} {c3 : Nat} (l3 : x.f3.length ≤ c3) (g3 : Kd.F k100 W ok A3 x.f3.length x.f3) {A4 : Option Addr} {c4 : Nat} (l4 : x.f4.length ≤ c4) (g4 : Kd.F k121 W ok A4 x.f4.length x.f4) : Kd.FK k93 W ok x [.bool x.f0, .slice A1 x.f1.length c1, .slice A2 x.f2.length c2, .slice A3 x.f3.length c3, .slice A4 x.f4.length c4] := fun W2 hW => k93_mk W2 x l1 (g1 W2 hW) l2 (g2 W2 hW) l3 (g3 W2 hW) l4 (g4 W2 hW)
def rd_T93 (xs : List S93) (i : Int) : S93 := xs.getD i.toNat z93
theorem at_T93 {w : World} {A : Option Addr} {n : Nat} {xs : List S93} (h : Kd.C k93 w A n xs) (i : Int) (h0 : 0 ≤ i) (h1 : i < n) : ∃ ad A1 c1 A2 c2 A3 c3 A4 c4, A = some ad ∧ w.cell? (ad.add (i.toNat * 5)) = some (.bool (rd_T93 xs i).f0) ∧ w.cell? ⟨(ad.add (i.toNat * 5)).block, (ad.add (i.toNat * 5)).off + 1, none⟩ = some (.slice A1 (rd_T93 xs i).f1.length c1) ∧ w.cell? ⟨(ad.add (i.toNat * 5)).block, (ad.add (i.toNat * 5)).off + 2, none⟩ = some (.slice A2 (rd_T93 xs i).f2.length c2) ∧ w.cell? ⟨(ad.add (i.toNat * 5)).block, (ad.add (i.toNat * 5)).off + 3, none⟩ = some (.slice A3 (rd_T93 xs i).f3.length c3) ∧ w.cell? ⟨(ad.add (i.toNat * 5)).block, (ad.add (i.toNat * 5)).off + 4, none⟩ = some (.slice A4 (rd_T93 xs i).f4.length c4) ∧ (rd_T93 xs i).f1.length ≤ c1 ∧ k145.C w A1 (rd_T93 xs i).f1.length (rd_T93 xs i).f1 ∧ (rd_T93 xs i).f2.length ≤ c2 ∧ Kd.string.C w A2 (rd_T93 xs i).f2.length (rd_T93 xs i).f2 ∧ (rd_T93 xs i).f3.length ≤ c3 ∧ k100.C w A3 (rd_T93 xs i).f3.length (rd_T93 xs i).f3 ∧ (rd_T93 xs i).f4.length ≤ c4 ∧ k121.C w A4 (rd_T93 xs i).f4.length (rd_T93 xs i).f4 := by
  obtain ⟨ad, c, e, _, hK, hc0⟩ := Kd.C_get h z93 i h0 h1
  have hc : ∀ j u, c[j]? = some u → w.cell? (ad.add (i.toNat * 5 + j)) = some u := hc0
  obtain ⟨A1, c1, A2, c2, A3, c3, A4, c4, rfl, l1, g1, l2, g2, l3, g3, l4, g4⟩ := k93_open hK
  exact ⟨ad, A1, c1, A2, c2, A3, c3, A4, c4, e, hc 0 _ rfl, by rw [← add_field _ _ 1 (by omega)]; exact hc 1 _ rfl, by rw [← add_field _ _ 2 (by omega)]; exact hc 2 _ rfl, by rw [← add_field _ _ 3 (by omega)]; exact hc 3 _ rfl, by rw [← add_field _ _ 4 (by omega)]; exact hc 4 _ rfl, l1, g1, l2, g2, l3, g3, l4, g4⟩

/-! #### struct type 95 -/
structure S95 where
  f0 : Int
  f1 : S93
def z95 : S95 := ⟨(0 : Int), z93⟩
def k95 : Kd S95 := Kd.iso (Kd.pair (Kd.int .u32) k93) (fun x : S95 => (x.f0, x.f1))
theorem k95_heap : Kd.Heap k95 := Kd.heap_iso _ (Kd.heap_pair (Kd.heap_int .u32) k93_heap)
theorem k95_open {w : World} {x : S95} {cs : List Value} (h : k95.K w x cs) : ∃ A2 c2 A3 c3 A4 c4 A5 c5, cs = [.int .u32 x.f0, .bool x.f1.f0, .slice A2 x.f1.f1.length c2, .slice A3 x.f1.f2.length c3, .slice A4 x.f1.f3.length c4, .slice A5 x.f1.f4.length c5] ∧ x.f1.f1.length ≤ c2 ∧ k145.C w A2 x.f1.f1.length x.f1.f1 ∧ x.f1.f2.length ≤ c3 ∧ Kd.string.C w A3 x.f1.f2.length x.f1.f2 ∧ x.f1.f3.length ≤ c4 ∧ k100.C w A4 x.f1.f3.length x.f1.f3 ∧ x.f1.f4.length ≤ c5 ∧ k121.C w A5 x.f1.f4.length x.f1.f4 := by
  obtain ⟨_, _, rfl, rfl, s1⟩ := h
  obtain ⟨A2, c2, A3, c3, A4, c4, A5, c5, rfl, l2, g2, l3, g3, l4, g4, l5, g5⟩ := k93_open s1
  exact ⟨A2, c2, A3, c3, A4, c4, A5, c5, rfl, l2, g2, l3, g3, l4, g4, l5, g5⟩
theorem k95_openM {w : World} {base : Nat} {ok : Nat → Prop} {x : S95} {cs : List Value} (h : k95.M w base ok x cs) : ∃ v2 v3 v4 v5, cs = [.int .u32 x.f0, .bool x.f1.f0, v2, v3, v4, v5] ∧ k145.R 145 w base ok v2 x.f1.f1 ∧ Kd.string.R 9 w base ok v3 x.f1.f2 ∧ k100.R 100 w base ok v4 x.f1.f3 ∧ k121.R 121 w base ok v5 x.f1.f4 := by
  obtain ⟨_, _, rfl, rfl, s1⟩ := h
  obtain ⟨v2, v3, v4, v5, rfl, g2, g3, g4, g5⟩ := k93_openM s1
  exact ⟨v2, v3, v4, v5, rfl, g2, g3, g4, g5⟩
theorem k95_mk (w : World) (x : S95) {A2 : Option Addr} {c2 : Nat} (l2 : x.f1.f1.length ≤ c2) (g2 : k145.C w A2 x.f1.f1.length x.f1.f1) {A3 : Option Addr} {c3 : Nat} (l3 : x.f1.f2.length ≤ c3) (g3 : Kd.string.C w A3 x.f1.f2.length x.f1.f2) {A4 : Option Addr} {c4 : Nat} (l4 : x.f1.f3.length ≤ c4) (g4 : k100.C w A4 x.f1.f3.length x.f1.f3) {A5 : Option Addr} {c5 : Nat} (l5 : x.f1.f4.length ≤ c5) (g5 : k121.C w A5 x.f1.f4.length x.f1.f4) : k95.K w x [.int .u32 x.f0, .bool x.f1.f0, .slice A2 x.f1.f1.length c2, .slice A3 x.f1.f2.length c3, .slice A4 x.f1.f3.length c4, .slice A5 x.f1.f4.length c5] := ⟨[.int .u32 x.f0], [.bool x.f1.f0, .slice A2 x.f1.f1.length c2, .slice A3 x.f1.f2.length c3, .slice A4 x.f1.f3.length c4, .slice A5 x.f1.f4.length c5], rfl, rfl, (k93_mk w x.f1 l2 g2 l3 g3 l4 g4 l5 g5)⟩
theorem k95_mkM (w : World) (base : Nat) (ok : Nat → Prop) (x : S95) {v2 : Value} (g2 : k145.R 145 w base ok v2 x.f1.f1) {v3 : Value} (g3 : Kd.string.R 9 w base ok v3 x.f1.f2) {v4 : Value} (g4 : k100.R 100 w base ok v4 x.f1.f3) {v5 : Value} (g5 : k121.R 121 w base ok v5 x.f1.f4) : k95.M w base ok x [.int .u32 x.f0, .bool x.f1.f0, v2, v3, v4, v5] := ⟨[.int .u32 x.f0], [.bool x.f1.f0, v2, v3, v4, v5], rfl, rfl, (k93_mkM w base ok x.f1 g2 g3 g4 g5)⟩
theorem k95_openF {W : World} {ok : Nat → Prop} {x : S95} {cs : List Value} (h : Kd.FK k95 W ok x cs) : ∃ A2 c2 A3 c3 A4 c4 A5 c5, cs = [.int .u32 x.f0, .bool x.f1.f0, .slice A2 x.f1.f1.length c2, .slice A3 x.f1.f2.length c3, .slice A4 x.f1.f3.length c4, .slice A5 x.f1.f4.length c5] ∧ x.f1.f1.length ≤ c2 ∧ Kd.F k145 W ok A2 x.f1.f1.length x.f1.f1 ∧ x.f1.f2.length ≤ c3 ∧ Kd.F Kd.string W ok A3 x.f1.f2.length x.f1.f2 ∧ x.f1.f3.length ≤ c4 ∧ Kd.F k100 W ok A4 x.f1.f3.length x.f1.f3 ∧ x.f1.f4.length ≤ c5 ∧ Kd.F k121 W ok A5 x.f1.f4.length x.f1.f4 := by
  obtain ⟨A2, c2, A3, c3, A4, c4, A5, c5, rfl, l2, _, l3, _, l4, _, l5, _⟩ := k95_open (Kd.FK_now h)
  exact ⟨A2, c2, A3, c3, A4, c4, A5, c5, rfl, l2, (fun W' hW => by obtain ⟨A2_, c2_, A3_, c3_, A4_, c4_, A5_, c5_, he, l2_, g2_, l3_, g3_, l4_, g4_, l5_, g5_⟩ := k95_open (h W' hW); injection (Option.some.inj (show some (Value.slice A2 x.f1.f1.length c2) = some (Value.slice A2_ x.f1.f1.length c2_) from congrArg (fun l => l[2]?) he)) with ha_ _ _; rw [ha_]; exact g2_), l3, (fun W' hW => by obtain ⟨A2_, c2_, A3_, c3_, A4_, c4_, A5_, c5_, he, l2_, g2_, l3_, g3_, l4_, g4_, l5_, g5_⟩ := k95_open (h W' hW); injection (Option.some.inj (show some (Value.slice A3 x.f1.f2.length c3) = some (Value.slice A3_ x.f1.f2.length c3_) from congrArg (fun l => l[3]?) he)) with ha_ _ _; rw [ha_]; exact g3_), l4, (fun W' hW => by obtain ⟨A2_, c2_, A3_, c3_, A4_, c4_, A5_, c5_, he, l2_, g2_, l3_, g3_, l4_, g4_, l5_, g5_⟩ := k95_open (h W' hW); injection (Option.some.inj (show some (Value.slice A4 x.f1.f3.length c4) = some (Value.slice A4_ x.f1.f3.length c4_) from congrArg (fun l => l[4]?) he)) with ha_ _ _; rw [ha_]; exact g4_), l5, (fun W' hW => by obtain ⟨A2_, c2_, A3_, c3_, A4_, c4_, A5_, c5_, he, l2_, g2_, l3_, g3_, l4_, g4_, l5_, g5_⟩ := k95_open (h W' hW); injection (Option.some.inj (show some (Value.slice A5 x.f1.f4.length c5) = some (Value.slice A5_ x.f1.f4.length c5_) from congrArg (fun l => l[5]?) he)) with ha_ _ _; rw [ha_]; exact g5_)⟩
theorem k95_mkF (W : World) (ok : Nat → Prop) (x : S95) {A2 : Option Addr} {c2 : Nat} (l2 : x.f1.f1.length ≤ c2) (g2 : Kd.F k145 W ok A2 x.f1.f1.length x.f1.f1) {A3 : Option Addr} {c3 : Nat} (l3 : x.f1.f2.length ≤ c3) (g3 : Kd.F Kd.string W ok A3 x.f1.f2.length x.f1.f2) {A4 : Option Addr} {c4 : Nat} (l4 : x.f1.f3.length ≤ c4) (g4 : Kd.F k100 W ok A4 x.f1.f3.length x.f1.f3) {A5 : Option Addr} {c5 : Nat} (l5 : x.f1.f4.length ≤ c5) (g5 : Kd.F k121 W ok A5 x.f1.f4.length x.f1.f4) : Kd.FK k95 W ok x [.int .u32 x.f0, .bool x.f1.f0, .slice A2 x.f1.f1.length c2, .slice A3 x.f1.f2.length c3, .slice A4 x.f1.f3.length c4, .slice A5 x.f1.f4.length c5] := fun W2 hW => k95_mk W2 x l2 (g2 W2 hW) l3 (g3 W2 hW) l4 (g4 W2 hW) l5 (g5 W2 hW)
def rd_T95 (xs : List S95) (i : Int) : S95 := xs.getD i.toNat z95
theorem at_T95 {w : World} {A : Option Addr} {n : Nat} {xs : List S95} (h : Kd.C k95 w A n xs) (i : Int) (h0 : 0 ≤ i) (h1 : i < n) : ∃ ad A2 c2 A3 c3 A4 c4 A5 c5, A = some ad ∧ w.cell? (ad.add (i.toNat * 6)) = some (.int .u32 (rd_T95 xs i).f0) ∧ w.cell? ⟨(ad.add (i.toNat * 6)).block, (ad.add (i.toNat * 6)).off + 1, none⟩ = some (.bool (rd_T95 xs i).f1.f0) ∧ w.cell? ⟨(ad.add (i.toNat * 6)).block, (ad.add (i.toNat * 6)).off + 2, none⟩ = some (.slice A2 (rd_T95 xs i).f1.f1.length c2) ∧ w.cell? ⟨(ad.add (i.toNat * 6)).block, (ad.add (i.toNat * 6)).off + 3, none⟩ = some (.slice A3 (rd_T95 xs i).f1.f2.length c3) ∧ w.cell? ⟨(ad.add (i.toNat * 6)).block, (ad.add (i.toNat * 6)).off + 4, none⟩ = some (.slice A4 (rd_T95 xs i).f1.f3.length c4) ∧ w.cell? ⟨(ad.add (i.toNat * 6)).block, (ad.add (i.toNat * 6)).off + 5, none⟩ = some (.slice A5 (rd_T95 xs i).f1.f4.length c5) ∧ (rd_T95 xs i).f1.f1.length ≤ c2 ∧ k145.C w A2 (rd_T95 xs i).f1.f1.length (rd_T95 xs i).f1.f1 ∧ (rd_T95 xs i).f1.f2.length ≤ c3 ∧ Kd.string.C w A3 (rd_T95 xs i).f1.f2.length (rd_T95 xs i).f1.f2 ∧ (rd_T95 xs i).f1.f3.length ≤ c4 ∧ k100.C w A4 (rd_T95 xs i).f1.f3.length (rd_T95 xs i).f1.f3 ∧ (rd_T95 xs i).f1.f4.length ≤ c5 ∧ k121.C w A5 (rd_T95 xs i).f1.f4.length (rd_T95 xs i).f1.f4 := by
  obtain ⟨ad, c, e, _, hK, hc0⟩ := Kd.C_get h z95 i h0 h1
  have hc : ∀ j u, c[j]? = some u → w.cell? (ad.add (i.toNat * 6 + j)) = some u := hc0
  obtain ⟨A2, c2, A3, c3, A4, c4, A5, c5, rfl, l2, g2, l3, g3, l4, g4, l5, g5⟩ := k95_open hK
  exact ⟨ad, A2, c2, A3, c3, A4, c4, A5, c5, e, hc 0 _ rfl, by rw [← add_field _ _ 1 (by omega)]; exact hc 1 _ rfl, by rw [← add_field _ _ 2 (by omega)]; exact hc 2 _ rfl, by rw [← add_field _ _ 3 (by omega)]; exact hc 3 _ rfl, by rw [← add_field _ _ 4 (by omega)]; exact hc 4 _ rfl, by rw [← add_field _ _ 5 (by omega)]; exact hc 5 _ rfl, l2, g2, l3, g3, l4, g4, l5, g5⟩

/-! #### struct type 136 -/
structure S136 where
  f0 : ByteArray
  f1 : (List S145)
def z136 : S136 := ⟨(⟨#[]⟩ : ByteArray), ([] : List S145)⟩
def k136 : Kd S136 := Kd.iso (Kd.pair Kd.string (Kd.slice 145 k145)) (fun x : S136 => (x.f0, x.f1))
theorem k136_heap : Kd.Heap k136 := Kd.heap_iso _ (Kd.heap_pair Kd.heap_string (Kd.heap_slice 145 k145_heap))
theorem k136_open {w : World} {x : S136} {cs : List Value} (h : k136.K w x cs) : ∃ A1 c1, cs = [.string x.f0, .slice A1 x.f1.length c1] ∧ x.f1.length ≤ c1 ∧ k145.C w A1 x.f1.length x.f1 := by
  obtain ⟨_, _, rfl, rfl, ⟨A1, c1, rfl, l1, g1⟩⟩ := h
  exact ⟨A1, c1, rfl, l1, g1⟩
theorem k136_openM {w : World} {base : Nat} {ok : Nat → Prop} {x : S136} {cs : List Value} (h : k136.M w base ok x cs) : ∃ v1, cs = [.string x.f0, v1] ∧ k145.R 145 w base ok v1 x.f1 := by
  obtain ⟨_, _, rfl, rfl, ⟨v1, rfl, g1⟩⟩ := h
  exact ⟨v1, rfl, g1⟩
theorem k136_mk (w : World) (x : S136) {A1 : Option Addr} {c1 : Nat} (l1 : x.f1.length ≤ c1) (g1 : k145.C w A1 x.f1.length x.f1) : k136.K w x [.string x.f0, .slice A1 x.f1.length c1] := ⟨[.string x.f0], [.slice A1 x.f1.length c1], rfl, rfl, ⟨A1, c1, rfl, l1, g1⟩⟩
theorem k136_mkM (w : World) (base : Nat) (ok : Nat → Prop) (x : S136) {v1 : Value} (g1 : k145.R 145 w base ok v1 x.f1) : k136.M w base ok x [.string x.f0, v1] := ⟨[.string x.f0], [v1], rfl, rfl, ⟨v1, rfl, g1⟩⟩
theorem k136_openF {W : World} {ok : Nat → Prop} {x : S136} {cs : List Value} (h : Kd.FK k136 W ok x cs) : ∃ A1 c1, cs = [.string x.f0, .slice A1 x.f1.length c1] ∧ x.f1.length ≤ c1 ∧ Kd.F k145 W ok A1 x.f1.length x.f1 := by
  obtain ⟨A1, c1, rfl, l1, _⟩ := k136_open (Kd.FK_now h)
  exact ⟨A1, c1, rfl, l1, (fun W' hW => by obtain ⟨A1_, c1_, he, l1_, g1_⟩ := k136_open (h W' hW); injection (Option.some.inj (show some (Value.slice A1 x.f1.length c1) = some (Value.slice A1_ x.f1.length c1_) from congrArg (fun l => l[1]?) he)) with ha_ _ _; rw [ha_]; exact g1_)⟩
theorem k136_mkF (W : World) (ok : Nat → Prop) (x : S136) {A1 : Option Addr} {c1 : Nat} (l1 : x.f1.length ≤ c1) (g1 : Kd.F k145 W ok A1 x.f1.length x.f1) : Kd.FK k136 W ok x [.string x.f0, .slice A1 x.f1.length c1] := fun W2 hW => k136_mk W2 x l1 (g1 W2 hW)
def rd_T136 (xs : List S136) (i : Int) : S136 := xs.getD i.toNat z136
theorem at_T136 {w : World} {A : Option Addr} {n : Nat} {xs : List S136} (h : Kd.C k136 w A n xs) (i : Int) (h0 : 0 ≤ i) (h1 : i < n) : ∃ ad A1 c1, A = some ad ∧ w.cell? (ad.add (i.toNat * 2)) = some (.string (rd_T136 xs i).f0) ∧ w.cell? ⟨(ad.add (i.toNat * 2)).block, (ad.add (i.toNat * 2)).off + 1, none⟩ = some (.slice A1 (rd_T136 xs i).f1.length c1) ∧ (rd_T136 xs i).f1.length ≤ c1 ∧ k145.C w A1 (rd_T136 xs i).f1.length (rd_T136 xs i).f1 := by
  obtain ⟨ad, c, e, _, hK, hc0⟩ := Kd.C_get h z136 i h0 h1
  have hc : ∀ j u, c[j]? = some u → w.cell? (ad.add (i.toNat * 2 + j)) = some u := hc0
  obtain ⟨A1, c1, rfl, l1, g1⟩ := k136_open hK
  exact ⟨ad, A1, c1, e, hc 0 _ rfl, by rw [← add_field _ _ 1 (by omega)]; exact hc 1 _ rfl, l1, g1⟩

def rd_L17 (xs : List (List Int)) (i : Int) : (List Int) := xs.getD i.toNat ([] : List Int)
theorem at_L17 {w : World} {A : Option Addr} {n : Nat} {xs : List (List Int)} (h : Kd.C (Kd.slice 5 (Kd.int .u8)) w A n xs) (i : Int) (h0 : 0 ≤ i) (h1 : i < n) : ∃ ad A0 c0, A = some ad ∧ w.cell? (ad.add i.toNat) = some (.slice A0 (rd_L17 xs i).length c0) ∧ (rd_L17 xs i).length ≤ c0 ∧ (Kd.int .u8).C w A0 (rd_L17 xs i).length (rd_L17 xs i) := by
  obtain ⟨ad, c, e, _, hK, hc0⟩ := Kd.C_get h ([] : List Int) i h0 h1
  have hc : ∀ j u, c[j]? = some u → w.cell? (ad.add (i.toNat * 1 + j)) = some u := hc0
  obtain ⟨A0, c0, rfl, l0, g0⟩ := hK
  exact ⟨ad, A0, c0, e, by have hq := hc 0 _ rfl; rwa [Nat.mul_one, Nat.add_zero] at hq, l0, g0⟩

/-! #### struct type 206 -/
structure S206 where
  f0 : (List Int)
  f1 : Int
  f2 : Int
def z206 : S206 := ⟨([] : List Int), (0 : Int), (0 : Int)⟩
def k206 : Kd S206 := Kd.iso (Kd.pair (Kd.slice 5 (Kd.int .u8)) (Kd.pair (Kd.int .i64) (Kd.int .i64))) (fun x : S206 => (x.f0, x.f1, x.f2))
theorem k206_heap : Kd.Heap k206 := Kd.heap_iso _ (Kd.heap_pair (Kd.heap_slice 5 (Kd.heap_int .u8)) (Kd.heap_pair (Kd.heap_int .i64) (Kd.heap_int .i64)))
theorem k206_open {w : World} {x : S206} {cs : List Value} (h : k206.K w x cs) : ∃ A0 c0, cs = [.slice A0 x.f0.length c0, .int .i64 x.f1, .int .i64 x.f2] ∧ x.f0.length ≤ c0 ∧ (Kd.int .u8).C w A0 x.f0.length x.f0 := by
  obtain ⟨_, _, rfl, ⟨A0, c0, rfl, l0, g0⟩, ⟨_, _, rfl, rfl, rfl⟩⟩ := h
  exact ⟨A0, c0, rfl, l0, g0⟩
theorem k206_openM {w : World} {base : Nat} {ok : Nat → Prop} {x : S206} {cs : List Value} (h : k206.M w base ok x cs) : ∃ v0, cs = [v0, .int .i64 x.f1, .int .i64 x.f2] ∧ (Kd.int .u8).R 5 w base ok v0 x.f0 := by
  obtain ⟨_, _, rfl, ⟨v0, rfl, g0⟩, ⟨_, _, rfl, rfl, rfl⟩⟩ := h
  exact ⟨v0, rfl, g0⟩
theorem k206_mk (w : World) (x : S206) {A0 : Option Addr} {c0 : Nat} (l0 : x.f0.length ≤ c0) (g0 : (Kd.int .u8).C w A0 x.f0.length x.f0) : k206.K w x [.slice A0 x.f0.length c0, .int .i64 x.f1, .int .i64 x.f2] := ⟨[.slice A0 x.f0.length c0], [.int .i64 x.f1, .int .i64 x.f2], rfl, ⟨A0, c0, rfl, l0, g0⟩, ⟨[.int .i64 x.f1], [.int .i64 x.f2], rfl, rfl, rfl⟩⟩
theorem k206_mkM (w : World) (base : Nat) (ok : Nat → Prop) (x : S206) {v0 : Value} (g0 : (Kd.int .u8).R 5 w base ok v0 x.f0) : k206.M w base ok x [v0, .int .i64 x.f1, .int .i64 x.f2] := ⟨[v0], [.int .i64 x.f1, .int .i64 x.f2], rfl, ⟨v0, rfl, g0⟩, ⟨[.int .i64 x.f1], [.int .i64 x.f2], rfl, rfl, rfl⟩⟩
theorem k206_openF {W : World} {ok : Nat → Prop} {x : S206} {cs : List Value} (h : Kd.FK k206 W ok x cs) : ∃ A0 c0, cs = [.slice A0 x.f0.length c0, .int .i64 x.f1, .int .i64 x.f2] ∧ x.f0.length ≤ c0 ∧ Kd.F (Kd.int .u8) W ok A0 x.f0.length x.f0 := by
  obtain ⟨A0, c0, rfl, l0, _⟩ := k206_open (Kd.FK_now h)
  exact ⟨A0, c0, rfl, l0, (fun W' hW => by obtain ⟨A0_, c0_, he, l0_, g0_⟩ := k206_open (h W' hW); injection (Option.some.inj (show some (Value.slice A0 x.f0.length c0) = some (Value.slice A0_ x.f0.length c0_) from congrArg (fun l => l[0]?) he)) with ha_ _ _; rw [ha_]; exact g0_)⟩
theorem k206_mkF (W : World) (ok : Nat → Prop) (x : S206) {A0 : Option Addr} {c0 : Nat} (l0 : x.f0.length ≤ c0) (g0 : Kd.F (Kd.int .u8) W ok A0 x.f0.length x.f0) : Kd.FK k206 W ok x [.slice A0 x.f0.length c0, .int .i64 x.f1, .int .i64 x.f2] := fun W2 hW => k206_mk W2 x l0 (g0 W2 hW)
def rd_T206 (xs : List S206) (i : Int) : S206 := xs.getD i.toNat z206
theorem at_T206 {w : World} {A : Option Addr} {n : Nat} {xs : List S206} (h : Kd.C k206 w A n xs) (i : Int) (h0 : 0 ≤ i) (h1 : i < n) : ∃ ad A0 c0, A = some ad ∧ w.cell? (ad.add (i.toNat * 3)) = some (.slice A0 (rd_T206 xs i).f0.length c0) ∧ w.cell? ⟨(ad.add (i.toNat * 3)).block, (ad.add (i.toNat * 3)).off + 1, none⟩ = some (.int .i64 (rd_T206 xs i).f1) ∧ w.cell? ⟨(ad.add (i.toNat * 3)).block, (ad.add (i.toNat * 3)).off + 2, none⟩ = some (.int .i64 (rd_T206 xs i).f2) ∧ (rd_T206 xs i).f0.length ≤ c0 ∧ (Kd.int .u8).C w A0 (rd_T206 xs i).f0.length (rd_T206 xs i).f0 := by
  obtain ⟨ad, c, e, _, hK, hc0⟩ := Kd.C_get h z206 i h0 h1
  have hc : ∀ j u, c[j]? = some u → w.cell? (ad.add (i.toNat * 3 + j)) = some u := hc0
  obtain ⟨A0, c0, rfl, l0, g0⟩ := k206_open hK
  exact ⟨ad, A0, c0, e, hc 0 _ rfl, by rw [← add_field _ _ 1 (by omega)]; exact hc 1 _ rfl, by rw [← add_field _ _ 2 (by omega)]; exact hc 2 _ rfl, l0, g0⟩

def rd_L20 (xs : List (List S136)) (i : Int) : (List S136) := xs.getD i.toNat ([] : List S136)
theorem at_L20 {w : World} {A : Option Addr} {n : Nat} {xs : List (List S136)} (h : Kd.C (Kd.slice 136 k136) w A n xs) (i : Int) (h0 : 0 ≤ i) (h1 : i < n) : ∃ ad A0 c0, A = some ad ∧ w.cell? (ad.add i.toNat) = some (.slice A0 (rd_L20 xs i).length c0) ∧ (rd_L20 xs i).length ≤ c0 ∧ k136.C w A0 (rd_L20 xs i).length (rd_L20 xs i) := by
  obtain ⟨ad, c, e, _, hK, hc0⟩ := Kd.C_get h ([] : List S136) i h0 h1
  have hc : ∀ j u, c[j]? = some u → w.cell? (ad.add (i.toNat * 1 + j)) = some u := hc0
  obtain ⟨A0, c0, rfl, l0, g0⟩ := hK
  exact ⟨ad, A0, c0, e, by have hq := hc 0 _ rfl; rwa [Nat.mul_one, Nat.add_zero] at hq, l0, g0⟩

/-! #### struct type 149 -/
structure S149 where
  f0 : Int
  f1 : ByteArray
  f2 : ByteArray
  f3 : ByteArray
  f4 : ByteArray
  f5 : ByteArray
def z149 : S149 := ⟨(0 : Int), (⟨#[]⟩ : ByteArray), (⟨#[]⟩ : ByteArray), (⟨#[]⟩ : ByteArray), (⟨#[]⟩ : ByteArray), (⟨#[]⟩ : ByteArray)⟩
def k149 : Kd S149 := Kd.iso (Kd.pair (Kd.int .u8) (Kd.pair Kd.string (Kd.pair Kd.string (Kd.pair Kd.string (Kd.pair Kd.string Kd.string))))) (fun x : S149 => (x.f0, x.f1, x.f2, x.f3, x.f4, x.f5))
theorem k149_heap : Kd.Heap k149 := Kd.heap_iso _ (Kd.heap_pair (Kd.heap_int .u8) (Kd.heap_pair Kd.heap_string (Kd.heap_pair Kd.heap_string (Kd.heap_pair Kd.heap_string (Kd.heap_pair Kd.heap_string Kd.heap_string)))))
theorem k149_open {w : World} {x : S149} {cs : List Value} (h : k149.K w x cs) : cs = [.int .u8 x.f0, .string x.f1, .string x.f2, .string x.f3, .string x.f4, .string x.f5] := by
  obtain ⟨_, _, rfl, rfl, ⟨_, _, rfl, rfl, ⟨_, _, rfl, rfl, ⟨_, _, rfl, rfl, ⟨_, _, rfl, rfl, rfl⟩⟩⟩⟩⟩ := h
  exact rfl
theorem k149_openM {w : World} {base : Nat} {ok : Nat → Prop} {x : S149} {cs : List Value} (h : k149.M w base ok x cs) : cs = [.int .u8 x.f0, .string x.f1, .string x.f2, .string x.f3, .string x.f4, .string x.f5] := by
  obtain ⟨_, _, rfl, rfl, ⟨_, _, rfl, rfl, ⟨_, _, rfl, rfl, ⟨_, _, rfl, rfl, ⟨_, _, rfl, rfl, rfl⟩⟩⟩⟩⟩ := h
  exact rfl
theorem k149_mk (w : World) (x : S149)  : k149.K w x [.int .u8 x.f0, .string x.f1, .string x.f2, .string x.f3, .string x.f4, .string x.f5] := ⟨[.int .u8 x.f0], [.string x.f1, .string x.f2, .string x.f3, .string x.f4, .string x.f5], rfl, rfl, ⟨[.string x.f1], [.string x.f2, .string x.f3, .string x.f4, .string x.f5], rfl, rfl, ⟨[.string x.f2], [.string x.f3, .string x.f4, .string x.f5], rfl, rfl, ⟨[.string x.f3], [.string x.f4, .string x.f5], rfl, rfl, ⟨[.string x.f4], [.string x.f5], rfl, rfl, rfl⟩⟩⟩⟩⟩
theorem k149_mkM (w : World) (base : Nat) (ok : Nat → Prop) (x : S149)  : k149.M w base ok x [.int .u8 x.f0, .string x.f1, .string x.f2, .string x.f3, .string x.f4, .string x.f5] := ⟨[.int .u8 x.f0], [.string x.f1, .string x.f2, .string x.f3, .string x.f4, .string x.f5], rfl, rfl, ⟨[.string x.f1], [.string x.f2, .string x.f3, .string x.f4, .string x.f5], rfl, rfl, ⟨[.string x.f2], [.string x.f3, .string x.f4, .string x.f5], rfl, rfl, ⟨[.string x.f3], [.string x.f4, .string x.f5], rfl, rfl, ⟨[.string x.f4], [.string x.f5], rfl, rfl, rfl⟩⟩⟩⟩⟩
theorem k149_mkF (W : World) (ok : Nat → Prop) (x : S149) : Kd.FK k149 W ok x [.int .u8 x.f0, .string x.f1, .string x.f2, .string x.f3, .string x.f4, .string x.f5] := fun W2 _ => k149_mk W2 x
def rd_T149 (xs : List S149) (i : Int) : S149 := xs.getD i.toNat z149
theorem at_T149 {w : World} {A : Option Addr} {n : Nat} {xs : List S149} (h : Kd.C k149 w A n xs) (i : Int) (h0 : 0 ≤ i) (h1 : i < n) : ∃ ad , A = some ad ∧ w.cell? (ad.add (i.toNat * 6)) = some (.int .u8 (rd_T149 xs i).f0) ∧ w.cell? ⟨(ad.add (i.toNat * 6)).block, (ad.add (i.toNat * 6)).off + 1, none⟩ = some (.string (rd_T149 xs i).f1) ∧ w.cell? ⟨(ad.add (i.toNat * 6)).block, (ad.add (i.toNat * 6)).off + 2, none⟩ = some (.string (rd_T149 xs i).f2) ∧ w.cell? ⟨(ad.add (i.toNat * 6)).block, (ad.add (i.toNat * 6)).off + 3, none⟩ = some (.string (rd_T149 xs i).f3) ∧ w.cell? ⟨(ad.add (i.toNat * 6)).block, (ad.add (i.toNat * 6)).off + 4, none⟩ = some (.string (rd_T149 xs i).f4) ∧ w.cell? ⟨(ad.add (i.toNat * 6)).block, (ad.add (i.toNat * 6)).off + 5, none⟩ = some (.string (rd_T149 xs i).f5) := by
  obtain ⟨ad, c, e, _, hK, hc0⟩ := Kd.C_get h z149 i h0 h1
  have hc : ∀ j u, c[j]? = some u → w.cell? (ad.add (i.toNat * 6 + j)) = some u := hc0
  obtain rfl := k149_open hK
  exact ⟨ad, e, hc 0 _ rfl, by rw [← add_field _ _ 1 (by omega)]; exact hc 1 _ rfl, by rw [← add_field _ _ 2 (by omega)]; exact hc 2 _ rfl, by rw [← add_field _ _ 3 (by omega)]; exact hc 3 _ rfl, by rw [← add_field _ _ 4 (by omega)]; exact hc 4 _ rfl, by rw [← add_field _ _ 5 (by omega)]; exact hc 5 _ rfl⟩

/-! #### struct type 151 -/
structure S151 where
  f0 : ByteArray
  f1 : Bool
  f2 : Bool
  f3 : ByteArray
  f4 : ByteArray
def z151 : S151 := ⟨(⟨#[]⟩ : ByteArray), false, false, (⟨#[]⟩ : ByteArray), (⟨#[]⟩ : ByteArray)⟩
def k151 : Kd S151 := Kd.iso (Kd.pair Kd.string (Kd.pair Kd.bool (Kd.pair Kd.bool (Kd.pair Kd.string Kd.string)))) (fun x : S151 => (x.f0, x.f1, x.f2, x.f3, x.f4))
theorem k151_heap : Kd.Heap k151 := Kd.heap_iso _ (Kd.heap_pair Kd.heap_string (Kd.heap_pair Kd.heap_bool (Kd.heap_pair Kd.heap_bool (Kd.heap_pair Kd.heap_string Kd.heap_string))))
theorem k151_open {w : World} {x : S151} {cs : List Value} (h : k151.K w x cs) : cs = [.string x.f0, .bool x.f1, .bool x.f2, .string x.f3, .string x.f4] := by
  obtain ⟨_, _, rfl, rfl, ⟨_, _, rfl, rfl, ⟨_, _, rfl, rfl, ⟨_, _, rfl, rfl, rfl⟩⟩⟩⟩ := h
  exact rfl
theorem k151_openM {w : World} {base : Nat} {ok : Nat → Prop} {x : S151} {cs : List Value} (h : k151.M w base ok x cs) : cs = [.string x.f0, .bool x.f1, .bool x.f2, .string x.f3, .string x.f4] := by
  obtain ⟨_, _, rfl, rfl, ⟨_, _, rfl, rfl, ⟨_, _, rfl, rfl, ⟨_, _, rfl, rfl, rfl⟩⟩⟩⟩ := h
  exact rfl
theorem k151_mk (w : World) (x : S151)  : k151.K w x [.string x.f0, .bool x.f1, .bool x.f2, .string x.f3, .string x.f4] := ⟨[.string x.f0], [.bool x.f1, .bool x.f2, .string x.f3, .string x.f4], rfl, rfl, ⟨[.bool x.f1], [.bool x.f2, .string x.f3, .string x.f4], rfl, rfl, ⟨[.bool x.f2], [.string x.f3, .string x.f4], rfl, rfl, ⟨[.string x.f3], [.string x.f4], rfl, rfl, rfl⟩⟩⟩⟩
theorem k151_mkM (w : World) (base : Nat) (ok : Nat → Prop) (x : S151)  : k151.M w base ok x [.string x.f0, .bool x.f1, .bool x.f2, .string x.f3, .string x.f4] := ⟨[.string x.f0], [.bool x.f1, .bool x.f2, .string x.f3, .string x.f4], rfl, rfl, ⟨[.bool x.f1], [.bool x.f2, .string x.f3, .string x.f4], rfl, rfl, ⟨[.bool x.f2], [.string x.f3, .string x.f4], rfl, rfl, ⟨[.string x.f3], [.string x.f4], rfl, rfl, rfl⟩⟩⟩⟩
theorem k151_mkF (W : World) (ok : Nat → Prop) (x : S151) : Kd.FK k151 W ok x [.string x.f0, .bool x.f1, .bool x.f2, .string x.f3, .string x.f4] := fun W2 _ => k151_mk W2 x
def rd_T151 (xs : List S151) (i : Int) : S151 := xs.getD i.toNat z151
theorem at_T151 {w : World} {A : Option Addr} {n : Nat} {xs : List S151} (h : Kd.C k151 w A n xs) (i : Int) (h0 : 0 ≤ i) (h1 : i < n) : ∃ ad , A = some ad ∧ w.cell? (ad.add (i.toNat * 5)) = some (.string (rd_T151 xs i).f0) ∧ w.cell? ⟨(ad.add (i.toNat * 5)).block, (ad.add (i.toNat * 5)).off + 1, none⟩ = some (.bool (rd_T151 xs i).f1) ∧ w.cell? ⟨(ad.add (i.toNat * 5)).block, (ad.add (i.toNat * 5)).off + 2, none⟩ = some (.bool (rd_T151 xs i).f2) ∧ w.cell? ⟨(ad.add (i.toNat * 5)).block, (ad.add (i.toNat * 5)).off + 3, none⟩ = some (.string (rd_T151 xs i).f3) ∧ w.cell? ⟨(ad.add (i.toNat * 5)).block, (ad.add (i.toNat * 5)).off + 4, none⟩ = some (.string (rd_T151 xs i).f4) := by
  obtain ⟨ad, c, e, _, hK, hc0⟩ := Kd.C_get h z151 i h0 h1
  have hc : ∀ j u, c[j]? = some u → w.cell? (ad.add (i.toNat * 5 + j)) = some u := hc0
  obtain rfl := k151_open hK
  exact ⟨ad, e, hc 0 _ rfl, by rw [← add_field _ _ 1 (by omega)]; exact hc 1 _ rfl, by rw [← add_field _ _ 2 (by omega)]; exact hc 2 _ rfl, by rw [← add_field _ _ 3 (by omega)]; exact hc 3 _ rfl, by rw [← add_field _ _ 4 (by omega)]; exact hc 4 _ rfl⟩

/-! #### struct type 179 -/
structure S179 where
  f0 : ByteArray
  f1 : Int
  f2 : Int
def z179 : S179 := ⟨(⟨#[]⟩ : ByteArray), (0 : Int), (0 : Int)⟩
def k179 : Kd S179 := Kd.iso (Kd.pair Kd.string (Kd.pair (Kd.int .u32) (Kd.int .u16))) (fun x : S179 => (x.f0, x.f1, x.f2))
theorem k179_heap : Kd.Heap k179 := Kd.heap_iso _ (Kd.heap_pair Kd.heap_string (Kd.heap_pair (Kd.heap_int .u32) (Kd.heap_int .u16)))
theorem k179_open {w : World} {x : S179} {cs : List Value} (h : k179.K w x cs) : cs = [.string x.f0, .int .u32 x.f1, .int .u16 x.f2] := by
  obtain ⟨_, _, rfl, rfl, ⟨_, _, rfl, rfl, rfl⟩⟩ := h
  exact rfl
theorem k179_openM {w : World} {base : Nat} {ok : Nat → Prop} {x : S179} {cs : List Value} (h : k179.M w base ok x cs) : cs = [.string x.f0, .int .u32 x.f1, .int .u16 x.f2] := by
  obtain ⟨_, _, rfl, rfl, ⟨_, _, rfl, rfl, rfl⟩⟩ := h
  exact rfl
theorem k179_mk (w : World) (x : S179)  : k179.K w x [.string x.f0, .int .u32 x.f1, .int .u16 x.f2] := ⟨[.string x.f0], [.int .u32 x.f1, .int .u16 x.f2], rfl, rfl, ⟨[.int .u32 x.f1], [.int .u16 x.f2], rfl, rfl, rfl⟩⟩
theorem k179_mkM (w : World) (base : Nat) (ok : Nat → Prop) (x : S179)  : k179.M w base ok x [.string x.f0, .int .u32 x.f1, .int .u16 x.f2] := ⟨[.string x.f0], [.int .u32 x.f1, .int .u16 x.f2], rfl, rfl, ⟨[.int .u32 x.f1], [.int .u16 x.f2], rfl, rfl, rfl⟩⟩
theorem k179_mkF (W : World) (ok : Nat → Prop) (x : S179) : Kd.FK k179 W ok x [.string x.f0, .int .u32 x.f1, .int .u16 x.f2] := fun W2 _ => k179_mk W2 x
def rd_T179 (xs : List S179) (i : Int) : S179 := xs.getD i.toNat z179
theorem at_T179 {w : World} {A : Option Addr} {n : Nat} {xs : List S179} (h : Kd.C k179 w A n xs) (i : Int) (h0 : 0 ≤ i) (h1 : i < n) : ∃ ad , A = some ad ∧ w.cell? (ad.add (i.toNat * 3)) = some (.string (rd_T179 xs i).f0) ∧ w.cell? ⟨(ad.add (i.toNat * 3)).block, (ad.add (i.toNat * 3)).off + 1, none⟩ = some (.int .u32 (rd_T179 xs i).f1) ∧ w.cell? ⟨(ad.add (i.toNat * 3)).block, (ad.add (i.toNat * 3)).off + 2, none⟩ = some (.int .u16 (rd_T179 xs i).f2) := by
  obtain ⟨ad, c, e, _, hK, hc0⟩ := Kd.C_get h z179 i h0 h1
  have hc : ∀ j u, c[j]? = some u → w.cell? (ad.add (i.toNat * 3 + j)) = some u := hc0
  obtain rfl := k179_open hK
  exact ⟨ad, e, hc 0 _ rfl, by rw [← add_field _ _ 1 (by omega)]; exact hc 1 _ rfl, by rw [← add_field _ _ 2 (by omega)]; exact hc 2 _ rfl⟩

/-! #### struct type 184 -/
structure S184 where
  f0 : Int
  f1 : Int
def z184 : S184 := ⟨(0 : Int), (0 : Int)⟩
def k184 : Kd S184 := Kd.iso (Kd.pair (Kd.int .u32) (Kd.int .u32)) (fun x : S184 => (x.f0, x.f1))
theorem k184_heap : Kd.Heap k184 := Kd.heap_iso _ (Kd.heap_pair (Kd.heap_int .u32) (Kd.heap_int .u32))
theorem k184_open {w : World} {x : S184} {cs : List Value} (h : k184.K w x cs) : cs = [.int .u32 x.f0, .int .u32 x.f1] := by
  obtain ⟨_, _, rfl, rfl, rfl⟩ := h
  exact rfl
theorem k184_openM {w : World} {base : Nat} {ok : Nat → Prop} {x : S184} {cs : List Value} (h : k184.M w base ok x cs) : cs = [.int .u32 x.f0, .int .u32 x.f1] := by
  obtain ⟨_, _, rfl, rfl, rfl⟩ := h
  exact rfl
theorem k184_mk (w : World) (x : S184)  : k184.K w x [.int .u32 x.f0, .int .u32 x.f1] := ⟨[.int .u32 x.f0], [.int .u32 x.f1], rfl, rfl, rfl⟩
theorem k184_mkM (w : World) (base : Nat) (ok : Nat → Prop) (x : S184)  : k184.M w base ok x [.int .u32 x.f0, .int .u32 x.f1] := ⟨[.int .u32 x.f0], [.int .u32 x.f1], rfl, rfl, rfl⟩
theorem k184_mkF (W : World) (ok : Nat → Prop) (x : S184) : Kd.FK k184 W ok x [.int .u32 x.f0, .int .u32 x.f1] := fun W2 _ => k184_mk W2 x
def rd_T184 (xs : List S184) (i : Int) : S184 := xs.getD i.toNat z184
theorem at_T184 {w : World} {A : Option Addr} {n : Nat} {xs : List S184} (h : Kd.C k184 w A n xs) (i : Int) (h0 : 0 ≤ i) (h1 : i < n) : ∃ ad , A = some ad ∧ w.cell? (ad.add (i.toNat * 2)) = some (.int .u32 (rd_T184 xs i).f0) ∧ w.cell? ⟨(ad.add (i.toNat * 2)).block, (ad.add (i.toNat * 2)).off + 1, none⟩ = some (.int .u32 (rd_T184 xs i).f1) := by
  obtain ⟨ad, c, e, _, hK, hc0⟩ := Kd.C_get h z184 i h0 h1
  have hc : ∀ j u, c[j]? = some u → w.cell? (ad.add (i.toNat * 2 + j)) = some u := hc0
  obtain rfl := k184_open hK
  exact ⟨ad, e, hc 0 _ rfl, by rw [← add_field _ _ 1 (by omega)]; exact hc 1 _ rfl⟩

end Go.Proofs.Ytfdemnefkfkghaa.X
/- The kinds of the arguments of marcot/marcotlaw32.DumpSpoilt: what they read as, as Lean values. -/
namespace Go.Proofs.Ytfdemnefkfkghaa.KDumpSpoilt
open Go.RowKit Go.Proofs.YtfdemnefkfkghaaW.PrintWords Go.Proofs.Ytfdemnefkfkghaa.Opn Go.Proofs.Ytfdemnefkfkghaa.X
def g9 (s : ByteArray) : Prop := s.size ≤ 140737488351232
def m9 (s : ByteArray) : Nat := s.size + 1
theorem o9 : Opens Try.prog 9 Kd.string g9 m9 := opens_string Try.underlying9 (by kernel_rfl)
def g145 (x : S145) : Prop := g9 x.f0 ∧ g9 x.f1
def m145 (x : S145) : Nat := m9 x.f0 + m9 x.f1
theorem o145 : Opens Try.prog 145 k145 g145 m145 :=
  opens_imp (opens_struct (fun x : S145 => (x.f0, x.f1)) (fun x => ⟨x.1, x.2⟩) (fun _ => rfl) Try.underlying145 (by kernel_rfl) (by kernel_rfl) (opensF_cons o9 (opensF_one o9))) (fun _ h => h) (fun x => by simp only [m145]; omega)
def g51 (xs : List S145) : Prop := xs.length * 32 ≤ 140737488351232 ∧ ∀ a ∈ xs, g145 a
def m51 (xs : List S145) : Nat := (xs.map m145).sum + 1
theorem b51 : Try.prog.bytesOf 145 = 32 := by kernel_rfl
theorem o51 : Opens Try.prog 51 (Kd.slice 145 k145) g51 m51 := by
  refine opens_imp (opens_slice Try.underlying51 (by kernel_rfl) o145) (fun a h => ?_) (fun a => Nat.le_refl _)
  rw [b51] at h
  exact h
def g136 (x : S136) : Prop := g9 x.f0 ∧ g51 x.f1
def m136 (x : S136) : Nat := m9 x.f0 + m51 x.f1
theorem o136 : Opens Try.prog 136 k136 g136 m136 :=
  opens_imp (opens_struct (fun x : S136 => (x.f0, x.f1)) (fun x => ⟨x.1, x.2⟩) (fun _ => rfl) Try.underlying136 (by kernel_rfl) (by kernel_rfl) (opensF_cons o9 (opensF_one o51))) (fun _ h => h) (fun x => by simp only [m136]; omega)
def g33 (xs : List S136) : Prop := xs.length * 40 ≤ 140737488351232 ∧ ∀ a ∈ xs, g136 a
def m33 (xs : List S136) : Nat := (xs.map m136).sum + 1
theorem b33 : Try.prog.bytesOf 136 = 40 := by kernel_rfl
theorem o33 : Opens Try.prog 33 (Kd.slice 136 k136) g33 m33 := by
  refine opens_imp (opens_slice Try.underlying33 (by kernel_rfl) o136) (fun a h => ?_) (fun a => Nat.le_refl _)
  rw [b33] at h
  exact h
def g3 (x : Int) : Prop := (Lit.int .i64 x).wf = true
def m3 (_ : Int) : Nat := 1
theorem o3 : Opens Try.prog 3 (Kd.int .i64) g3 m3 := opens_int Try.underlying3 (by kernel_rfl)
def g42 (x : Int) : Prop := (Lit.int .u32 x).wf = true
def m42 (_ : Int) : Nat := 1
theorem o42 : Opens Try.prog 42 (Kd.int .u32) g42 m42 := opens_int Try.underlying42 (by kernel_rfl)
end Go.Proofs.Ytfdemnefkfkghaa.KDumpSpoilt
/- Functions of the program as Lean functions, and that their calls come to them: written by xprint.py of this session, out of the kit's print program. -/
namespace Go.Proofs.Ytfdemnefkfkghaa.X
open Go.RowKit Go.Proofs.YtfdemnefkfkghaaW.PrintWords Go.Proofs.YtfdemnefkfkghaaW.PrintLast Go.Proofs.YtfdemnefkfkghaaW.PrintMore
attribute [local go_sem] max2_int min2_int max_two min_two max_three min_three max_four min_four   -- for this text's walks alone
attribute [local go_sem high] Go.Proofs.Ytfdemnefkfkghaa.XW.leq Go.Proofs.Ytfdemnefkfkghaa.XW.gtr Go.Proofs.Ytfdemnefkfkghaa.XW.geq
set_option linter.unusedVariables false
set_option linter.unusedSimpArgs false

/-! ### crc_carry: function 223 -/
def crc_carry.l0 : Nat → Int → Int → Option (Int)
  | 0, _, _ => none
  | k + 1, x0, x10 => if x10 < 8 then (if (Go.bits .and .u32 x0 1) = 1 then (crc_carry.l0 k (Go.bits .xor .u32 (x0 / 2) 2197175160) (wrap64 (x10 + 1))) else (crc_carry.l0 k (x0 / 2) (wrap64 (x10 + 1)))) else (some x0)
def crc_carry.f (k : Nat) (a0 : Int) (a1 : Int) : Option (Int) := crc_carry.l0 k (Go.bits .xor .u32 a0 ((a1) % 4294967296)) 0
theorem crc_carry.mono_l : ∀ k, (∀ y0 y1, LeO (crc_carry.l0 k y0 y1) (crc_carry.l0 (k + 1) y0 y1))
  | 0 => fun _ _ r h => by simp [crc_carry.l0] at h
  | k + 1 => by
    have ih0 := crc_carry.mono_l k
    · intro y0 y1
      unfold crc_carry.l0
      repeat' first
      | (with_reducible exact ih0 _ _)
      | (with_reducible exact LeO.refl _)
      | (with_reducible exact LeO.none _)
      | (with_reducible refine LeO.ite ?_ ?_)
      | (with_reducible refine LeO.bind ?_ (fun _ => ?_))
      | exact ih0 _ _
      | exact LeO.none _
      | refine LeO.ite ?_ ?_
      | refine LeO.bind ?_ (fun _ => ?_)
theorem crc_carry.mono : ∀ a0 a1 k, LeO (crc_carry.f k a0 a1) (crc_carry.f (k + 1) a0 a1) := by
  intro a0 a1 k
  have ih0 := crc_carry.mono_l k
  unfold crc_carry.f
  repeat' first
      | (with_reducible exact ih0 _ _)
      | (with_reducible exact LeO.refl _)
      | (with_reducible exact LeO.none _)
      | (with_reducible refine LeO.ite ?_ ?_)
      | (with_reducible refine LeO.bind ?_ (fun _ => ?_))
      | exact ih0 _ _
      | exact LeO.none _
      | refine LeO.ite ?_ ?_
      | refine LeO.bind ?_ (fun _ => ?_)
set_option maxHeartbeats 8000000 in
set_option maxRecDepth 100000 in
theorem crc_carry.calls (k : Nat) (a0 : Int) (a1 : Int) (r : Int) (w : World) (h : crc_carry.f k a0 a1 = some r) :
    Calls Try.prog 223 #[.int .u32 a0, .int .u8 a1] w fun e w' => e = .returned (.int .u32 r) ∧ Drawn0 w w' := by
  have H : (crc_carry.l0 k (Go.bits .xor .u32 a0 ((a1) % 4294967296)) 0) = some r := h
  clear h
  have H' := Aside0.mk H
  clear H
  go_enter Try.func223, Try.ntmps223
  go_wp2
  go_loopg [0, 10] k (fun kq v0 v10 w' => ∃ (x0_1 : Int) (x10_1 : Int), v0 = .int .u32 x0_1 ∧ v10 = .int .i64 x10_1 ∧ Aside0 (crc_carry.l0 kq x0_1 x10_1 = some r) ∧ Aside0 (kq ≤ k) ∧ Drawn0 w w')
  case atStart => exact ⟨(Go.bits .xor .u32 a0 ((a1) % 4294967296)), (0), (by first | rfl | (simp; done) | (simp [*]; done)), (by first | rfl | (simp; done) | (simp [*]; done)), H', ⟨Nat.le_refl _⟩, by repeat (first | exact Drawn0.refl _ | apply Drawn0.step)⟩
  case round =>
    clear H'
    try clear c2
    try clear p2
    obtain ⟨x0_1, x10_1, rfl, rfl, HA, HK1, ⟨m1, rfl⟩⟩ := hrel
    cases gk with
    | zero => exact absurd HA.out (by simp [crc_carry.l0])
    | succ k1 =>
      have H := HA.out
      clear HA
      simp only [crc_carry.l0] at H
      by_cases c3 : x10_1 < 8
      · rw [if_pos c3] at H
        have c3b0 : decide (x10_1 < 8) = true := decide_eq_true c3
        clear c3
        by_cases c4 : (Go.bits .and .u32 x0_1 1) = 1
        · rw [if_pos c4] at H
          have c4b0 : ((Go.bits .and .u32 x0_1 1) == 1) = true := beq_iff_eq.mpr c4
          have c4b1 : ((Go.bits .and .u32 x0_1 1) != 1) = false := bne_eq_false_iff_eq.mpr c4
          clear c4
          have H' := Aside0.mk H
          clear H
          go_wp2
          go_roundg k1
          case measure => have := HK1.out; omega
          case rel => exact ⟨(Go.bits .xor .u32 (x0_1 / 2) 2197175160), (wrap64 (x10_1 + 1)), (by first | rfl | (simp; done) | (simp [*]; done)), (by first | rfl | (simp; done) | (simp [*]; done)), H', ⟨by have := HK1.out; omega⟩, by repeat (first | exact Drawn0.refl _ | apply Drawn0.step)⟩
        · rw [if_neg c4] at H
          have c4b0 : ((Go.bits .and .u32 x0_1 1) == 1) = false := beq_eq_false_iff_ne.mpr c4
          have c4b1 : ((Go.bits .and .u32 x0_1 1) != 1) = true := bne_iff_ne.mpr c4
          have H' := Aside0.mk H
          clear H
          go_wp2
          go_roundg k1
          case measure => have := HK1.out; omega
          case rel => exact ⟨(x0_1 / 2), (wrap64 (x10_1 + 1)), (by first | rfl | (simp; done) | (simp [*]; done)), (by first | rfl | (simp; done) | (simp [*]; done)), H', ⟨by have := HK1.out; omega⟩, by repeat (first | exact Drawn0.refl _ | apply Drawn0.step)⟩
      · rw [if_neg c3] at H
        have c3b0 : decide (x10_1 < 8) = false := decide_eq_false c3
        clear c3
        obtain rfl := Option.some.inj H
        go_wp2
        go_ret
        exact ⟨by first | rfl | (simp; done) | (simp [*]; done), by repeat (first | exact Drawn0.refl _ | apply Drawn0.step)⟩

end Go.Proofs.Ytfdemnefkfkghaa.X
/- Functions of the program as Lean functions, and that their calls come to them: written by xprint.py of this session, out of the kit's print program. -/
namespace Go.Proofs.Ytfdemnefkfkghaa.X
open Go.RowKit Go.Proofs.YtfdemnefkfkghaaW.PrintWords Go.Proofs.YtfdemnefkfkghaaW.PrintLast Go.Proofs.YtfdemnefkfkghaaW.PrintMore
attribute [local go_sem] max2_int min2_int max_two min_two max_three min_three max_four min_four   -- for this text's walks alone
attribute [local go_sem high] Go.Proofs.Ytfdemnefkfkghaa.XW.leq Go.Proofs.Ytfdemnefkfkghaa.XW.gtr Go.Proofs.Ytfdemnefkfkghaa.XW.geq
set_option linter.unusedVariables false
set_option linter.unusedSimpArgs false

/-! ### crc_More: function 192 -/
def crc_More.l0 : Nat → Int → List Int → Int → Int → Option (Int)
  | 0, _, _, _, _ => none
  | k + 1, x5, x10, x11, x12 => if x12 < x11 then (if 0 ≤ x12 then (if x12 < (x10.length : Int) then ((crc_carry.f k x5 (rd x10 x12)).bind fun t102 => (crc_More.l0 k t102 x10 x11 (wrap64 (x12 + 1)))) else (none)) else (none)) else (some (Go.bits .xor .u32 (-1) x5))
def crc_More.f (k : Nat) (a0 : Int) (l1 : List Int) : Option (Int) := crc_More.l0 k (Go.bits .xor .u32 (-1) a0) l1 (l1.length : Int) 0
theorem crc_More.mono_l : ∀ k, (∀ y0 y1 y2 y3, LeO (crc_More.l0 k y0 y1 y2 y3) (crc_More.l0 (k + 1) y0 y1 y2 y3))
  | 0 => fun _ _ _ _ r h => by simp [crc_More.l0] at h
  | k + 1 => by
    have ih0 := crc_More.mono_l k
    · intro y0 y1 y2 y3
      unfold crc_More.l0
      repeat' first
      | (with_reducible exact ih0 _ _ _ _)
      | (with_reducible exact crc_carry.mono _ _ _)
      | (with_reducible exact LeO.refl _)
      | (with_reducible exact LeO.none _)
      | (with_reducible refine LeO.ite ?_ ?_)
      | (with_reducible refine LeO.bind ?_ (fun _ => ?_))
      | exact ih0 _ _ _ _
      | exact crc_carry.mono _ _ _
      | exact LeO.none _
      | refine LeO.ite ?_ ?_
      | refine LeO.bind ?_ (fun _ => ?_)
theorem crc_More.mono : ∀ a0 a1 k, LeO (crc_More.f k a0 a1) (crc_More.f (k + 1) a0 a1) := by
  intro a0 a1 k
  have ih0 := crc_More.mono_l k
  unfold crc_More.f
  repeat' first
      | (with_reducible exact ih0 _ _ _ _)
      | (with_reducible exact crc_carry.mono _ _ _)
      | (with_reducible exact LeO.refl _)
      | (with_reducible exact LeO.none _)
      | (with_reducible refine LeO.ite ?_ ?_)
      | (with_reducible refine LeO.bind ?_ (fun _ => ?_))
      | exact ih0 _ _ _ _
      | exact crc_carry.mono _ _ _
      | exact LeO.none _
      | refine LeO.ite ?_ ?_
      | refine LeO.bind ?_ (fun _ => ?_)
set_option maxHeartbeats 8000000 in
set_option maxRecDepth 100000 in
theorem crc_More.calls (k : Nat) (a0 : Int) (A1 : Option Addr) (c1 : Nat) (l1 : List Int) (r : Int) (w : World) (hr1 : Kd.C (Kd.int .u8) w A1 l1.length l1) (hc1 : l1.length ≤ c1) (h : crc_More.f k a0 l1 = some r) :
    Calls Try.prog 192 #[.int .u32 a0, .slice A1 l1.length c1] w fun e w' => e = .returned (.int .u32 r) ∧ Drawn0 w w' := by
  have HR1 := Aside0.mk hr1
  have HC1 := Aside0.mk hc1
  clear hr1 hc1
  have H : (crc_More.l0 k (Go.bits .xor .u32 (-1) a0) l1 (l1.length : Int) 0) = some r := h
  clear h
  have H' := Aside0.mk H
  clear H
  go_enter Try.func192, Try.ntmps192
  go_wp2
  go_loopg [5, 12] k (fun kq v5 v12 w' => ∃ (x5_1 : Int) (x12_1 : Int), v5 = .int .u32 x5_1 ∧ v12 = .int .i64 x12_1 ∧ Aside0 (crc_More.l0 kq x5_1 l1 (l1.length : Int) x12_1 = some r) ∧ Aside0 (kq ≤ k) ∧ Drawn0 w w')
  case atStart => exact ⟨(Go.bits .xor .u32 (-1) a0), (0), (by first | rfl | (simp; done) | (simp [*]; done)), (by first | rfl | (simp; done) | (simp [*]; done)), H', ⟨Nat.le_refl _⟩, by repeat (first | exact Drawn0.refl _ | apply Drawn0.step)⟩
  case round =>
    clear H'
    try clear c1
    try clear p2
    obtain ⟨x5_1, x12_1, rfl, rfl, HA, HK1, ⟨m1, rfl⟩⟩ := hrel
    cases gk with
    | zero => exact absurd HA.out (by simp [crc_More.l0])
    | succ k1 =>
      have H := HA.out
      clear HA
      simp only [crc_More.l0] at H
      by_cases c3 : x12_1 < (l1.length : Int)
      · rw [if_pos c3] at H
        have c3b0 : decide (x12_1 < (l1.length : Int)) = true := decide_eq_true c3
        clear c3
        by_cases c4 : 0 ≤ x12_1
        · rw [if_pos c4] at H
          have c4b0 : decide (0 ≤ x12_1) = true := decide_eq_true c4
          clear c4
          by_cases c5 : x12_1 < (l1.length : Int)
          · rw [if_pos c5] at H
            have c5b0 : decide (x12_1 < (l1.length : Int)) = true := decide_eq_true c5
            clear c5
            replace H := Option.bind_eq_some_iff.mp H
            obtain ⟨t102, A60, H⟩ := H
            replace H : (crc_More.l0 k1 t102 l1 (l1.length : Int) (wrap64 (x12_1 + 1))) = some r := H
            have A6 := Aside0.mk A60
            clear A60
            have H' := Aside0.mk H
            clear H
            have p101 : 0 ≤ (x12_1 : Int) := of_decide_eq_true (by first | (with_reducible assumption) | assumption)
            have q101 : x12_1 < (l1.length : Int) := of_decide_eq_true (by first | (with_reducible assumption) | assumption)
            obtain ⟨ad101, e101, hx101_0⟩ := Kd.at_int HR1.out x12_1 p101 q101
            cases e101
            replace p101 := eq_true p101
            replace q101 := eq_true q101
            go_wp2_with (first | ((with_reducible refine gate_callee (f := 223) rfl ?_); refine goesL_ (some 18) rfl rfl Try.func223 (by kernel_rfl) rfl #[.int .u32 x5_1, .int .u8 (rd l1 x12_1)] rfl (by (try simp only [List.map_toArray, List.map_cons, List.map_nil]); first | done | rfl | (simp only [List.length_drop, List.length_take]; rfl)) ?_; (with_reducible refine (crc_carry.calls k1 x5_1 (rd l1 x12_1) t102 _ A6.out).mono ?_); rintro e w' ⟨rfl, ⟨nd, rfl⟩⟩; refine ⟨_, rfl, ?_⟩))
            go_roundg k1
            case measure => have := HK1.out; omega
            case rel => exact ⟨(t102), (wrap64 (x12_1 + 1)), (by first | rfl | (simp; done) | (simp [*]; done)), (by first | rfl | (simp; done) | (simp [*]; done)), H', ⟨by have := HK1.out; omega⟩, by repeat (first | exact Drawn0.refl _ | apply Drawn0.step)⟩
          · rw [if_neg c5] at H
            exact absurd H (by simp)
        · rw [if_neg c4] at H
          exact absurd H (by simp)
      · rw [if_neg c3] at H
        have c3b0 : decide (x12_1 < (l1.length : Int)) = false := decide_eq_false c3
        clear c3
        obtain rfl := Option.some.inj H
        go_wp2
        go_ret
        exact ⟨by first | rfl | (simp; done) | (simp [*]; done), by repeat (first | exact Drawn0.refl _ | apply Drawn0.step)⟩

end Go.Proofs.Ytfdemnefkfkghaa.X
/- Functions of the program as Lean functions, and that their calls come to them: written by xprint.py of this session, out of the kit's print program. -/
namespace Go.Proofs.Ytfdemnefkfkghaa.X
open Go.RowKit Go.Proofs.YtfdemnefkfkghaaW.PrintWords Go.Proofs.YtfdemnefkfkghaaW.PrintLast Go.Proofs.YtfdemnefkfkghaaW.PrintMore
attribute [local go_sem] max2_int min2_int max_two min_two max_three min_three max_four min_four   -- for this text's walks alone
attribute [local go_sem high] Go.Proofs.Ytfdemnefkfkghaa.XW.leq Go.Proofs.Ytfdemnefkfkghaa.XW.gtr Go.Proofs.Ytfdemnefkfkghaa.XW.geq
set_option linter.unusedVariables false
set_option linter.unusedSimpArgs false

/-! ### crc_Sum: function 140 -/
def crc_Sum.f (k : Nat) (l0 : List Int) : Option (Int) := (crc_More.f k 0 l0).bind fun t101 => (some t101)
theorem crc_Sum.mono : ∀ a0 k, LeO (crc_Sum.f k a0) (crc_Sum.f (k + 1) a0) := by
  intro a0 k
  unfold crc_Sum.f
  repeat' first
      | (with_reducible exact crc_More.mono _ _ _)
      | (with_reducible exact LeO.refl _)
      | (with_reducible exact LeO.none _)
      | (with_reducible refine LeO.ite ?_ ?_)
      | (with_reducible refine LeO.bind ?_ (fun _ => ?_))
      | exact crc_More.mono _ _ _
      | exact LeO.none _
      | refine LeO.ite ?_ ?_
      | refine LeO.bind ?_ (fun _ => ?_)
set_option maxHeartbeats 8000000 in
set_option maxRecDepth 100000 in
theorem crc_Sum.calls (k : Nat) (A0 : Option Addr) (c0 : Nat) (l0 : List Int) (r : Int) (w : World) (hr0 : Kd.C (Kd.int .u8) w A0 l0.length l0) (hc0 : l0.length ≤ c0) (h : crc_Sum.f k l0 = some r) :
    Calls Try.prog 140 #[.slice A0 l0.length c0] w fun e w' => e = .returned (.int .u32 r) ∧ Drawn0 w w' := by
  have HR0 := Aside0.mk hr0
  have HC0 := Aside0.mk hc0
  clear hr0 hc0
  have H : ((crc_More.f k 0 l0).bind fun t101 => (some t101)) = some r := h
  clear h
  replace H := Option.bind_eq_some_iff.mp H
  obtain ⟨t101, A20, H⟩ := H
  replace H : (some t101) = some r := H
  have A2 := Aside0.mk A20
  clear A20
  obtain rfl := Option.some.inj H
  go_enter Try.func140, Try.ntmps140
  go_wp2_with (first | ((with_reducible refine gate_callee (f := 192) rfl ?_); refine goesL_ (some 4) rfl rfl Try.func192 (by kernel_rfl) rfl #[.int .u32 0, .slice A0 l0.length c0] rfl (by (try simp only [List.map_toArray, List.map_cons, List.map_nil]); first | done | rfl | (simp only [List.length_drop, List.length_take]; rfl)) ?_; (with_reducible refine (crc_More.calls k 0 _ _ l0 t101 _ ?side1 ?side2 A2.out).mono ?_); (case side1 => repeat (first | exact HR0.out | (with_reducible refine Kd.C_alloc ?_ _) | (with_reducible refine Kd.C_drewN ?_ _) | (with_reducible refine Kd.C_drew ?_))); (case side2 => exact HC0.out); rintro e w' ⟨rfl, ⟨nd, rfl⟩⟩; refine ⟨_, rfl, ?_⟩))
  go_ret
  exact ⟨by first | rfl | (simp; done) | (simp [*]; done), by repeat (first | exact Drawn0.refl _ | apply Drawn0.step)⟩

end Go.Proofs.Ytfdemnefkfkghaa.X
/- The sums' bytes: crc.bytes, crc.Mark, crc.Fits. -/
namespace Go.Proofs.Ytfdemnefkfkghaa.X
open Go.RowKit Go.Proofs.YtfdemnefkfkghaaW.PrintWords Go.Proofs.YtfdemnefkfkghaaW.PrintLast Go.Proofs.YtfdemnefkfkghaaW.PrintMore
set_option linter.unusedVariables false
set_option linter.unusedSimpArgs false

/-- The j-th byte of a number. -/
def byteAt (s : Int) (j : Nat) : Int := s / 256 ^ j % 256
/-- The array as it stands behind j rounds. -/
def arrAt (s : Int) (j : Nat) : Array Value := #[.int .u8 (if 0 < j then byteAt s 0 else 0), .int .u8 (if 1 < j then byteAt s 1 else 0), .int .u8 (if 2 < j then byteAt s 2 else 0), .int .u8 (if 3 < j then byteAt s 3 else 0)]

theorem byte_next (s : Int) (j : Nat) : s / 256 ^ j / 256 = s / 256 ^ (j + 1) := by
  rw [Int.pow_succ, Int.ediv_ediv_of_nonneg (by exact Int.le_of_lt (Int.pow_pos (by omega)))]
set_option maxHeartbeats 4000000 in
set_option maxRecDepth 100000 in
theorem crc_bytes_calls (s : Int) (h0 : 0 ≤ s) (h1 : s ≤ 4294967295) (w : World) :
    Calls Try.prog 139 #[.int .u32 s] w fun e w' => e = .returned (.agg #[.int .u8 (byteAt s 0), .int .u8 (byteAt s 1), .int .u8 (byteAt s 2), .int .u8 (byteAt s 3)]) ∧ Below w.heap.size w w' := by
  have hu := Try.underlying203
  have HB := Aside0.mk (Below.refl w.heap.size w)
  go_enter Try.func139, Try.ntmps139
  go_wp2_with fail
  go_loopg [0, 4, 5] 4 (fun kq v0 v4 v5 w' => ∃ (j : Nat) (x : Int), j ≤ 4 ∧ Aside0 (kq = 4 - j) ∧ 0 ≤ x ∧ x ≤ 4294967295 ∧ Aside0 (x = s / 256 ^ j) ∧ v0 = .int .u32 x ∧ v5 = .int .i64 j ∧ Aside0 (w'.heap[w.heap.size + 1]? = some (.cells (arrAt s j) 203 (0, 0))) ∧ Aside0 (w'.heap[w.heap.size]? = some (.cells #[.int .u8 0, .int .u8 0, .int .u8 0, .int .u8 0] 203 (0, 0))) ∧ Aside0 (Below w.heap.size w w'))
  case atStart =>
    refine ⟨0, s, by omega, ⟨rfl⟩, h0, h1, ⟨by simp⟩, rfl, rfl, ⟨?_⟩, ⟨?_⟩, ⟨?_⟩⟩
    · exact (heap_alloc2_new w _ _).trans rfl
    · exact (heap_alloc2_old w _ _).trans rfl
    · exact below_alloc (below_alloc HB.out _) _
  case round =>
    clear HB
    obtain ⟨j, x, hj, hk, hx0, hx1, hx, rfl, rfl, HG, HR, HB⟩ := hrel
    obtain rfl | rfl | rfl | rfl | rfl : j = 0 ∨ j = 1 ∨ j = 2 ∨ j = 3 ∨ j = 4 := by omega
    · have hc : wr.cell? ⟨w.heap.size + 1, 0, none⟩ = some _ := (blk_cell HG.out 0).trans rfl
      have hf := blk_frozen HG.out 0
      go_wp2
      go_roundg 3
      case measure => have := hk.out; omega
      case rel =>
        have he := hx.out
        refine ⟨1, x / 256, by omega, ⟨rfl⟩, by omega, by omega, ⟨?_⟩, by first | rfl | (simp; done), by first | rfl | (simp; done), ⟨?_⟩, ⟨?_⟩, ⟨?_⟩⟩
        · rw [he]
          exact byte_next s 0
        · refine blk_put (cs := arrAt s 0) ?_ 0 (.int .u8 (x % 256)) ?_
          · exact HG.out
          · rw [he]
            simp [arrAt, byteAt]
        · exact blk_far HR.out (by simp) _
        · refine below_set ?_ (by simp)
          exact HB.out
    · have hc : wr.cell? ⟨w.heap.size + 1, 1, none⟩ = some _ := (blk_cell HG.out 1).trans rfl
      have hf := blk_frozen HG.out 1
      go_wp2
      go_roundg 2
      case measure => have := hk.out; omega
      case rel =>
        have he := hx.out
        refine ⟨2, x / 256, by omega, ⟨rfl⟩, by omega, by omega, ⟨?_⟩, by first | rfl | (simp; done), by first | rfl | (simp; done), ⟨?_⟩, ⟨?_⟩, ⟨?_⟩⟩
        · rw [he]
          exact byte_next s 1
        · refine blk_put (cs := arrAt s 1) ?_ 1 (.int .u8 (x % 256)) ?_
          · exact HG.out
          · rw [he]
            simp [arrAt, byteAt]
        · exact blk_far HR.out (by simp) _
        · refine below_set ?_ (by simp)
          exact HB.out
    · have hc : wr.cell? ⟨w.heap.size + 1, 2, none⟩ = some _ := (blk_cell HG.out 2).trans rfl
      have hf := blk_frozen HG.out 2
      go_wp2
      go_roundg 1
      case measure => have := hk.out; omega
      case rel =>
        have he := hx.out
        refine ⟨3, x / 256, by omega, ⟨rfl⟩, by omega, by omega, ⟨?_⟩, by first | rfl | (simp; done), by first | rfl | (simp; done), ⟨?_⟩, ⟨?_⟩, ⟨?_⟩⟩
        · rw [he]
          exact byte_next s 2
        · refine blk_put (cs := arrAt s 2) ?_ 2 (.int .u8 (x % 256)) ?_
          · exact HG.out
          · rw [he]
            simp [arrAt, byteAt]
        · exact blk_far HR.out (by simp) _
        · refine below_set ?_ (by simp)
          exact HB.out
    · have hc : wr.cell? ⟨w.heap.size + 1, 3, none⟩ = some _ := (blk_cell HG.out 3).trans rfl
      have hf := blk_frozen HG.out 3
      go_wp2
      go_roundg 0
      case measure => have := hk.out; omega
      case rel =>
        have he := hx.out
        refine ⟨4, x / 256, by omega, ⟨rfl⟩, by omega, by omega, ⟨?_⟩, by first | rfl | (simp; done), by first | rfl | (simp; done), ⟨?_⟩, ⟨?_⟩, ⟨?_⟩⟩
        · rw [he]
          exact byte_next s 3
        · refine blk_put (cs := arrAt s 3) ?_ 3 (.int .u8 (x % 256)) ?_
          · exact HG.out
          · rw [he]
            simp [arrAt, byteAt]
        · exact blk_far HR.out (by simp) _
        · refine below_set ?_ (by simp)
          exact HB.out
    · have a0 : arrAt s 4 = #[.int .u8 (byteAt s 0), .int .u8 (byteAt s 1), .int .u8 (byteAt s 2), .int .u8 (byteAt s 3)] := by simp [arrAt]
      rw [a0] at HG
      have A0 := Aside0.mk a0
      clear a0
      have hc0 : wr.cell? ⟨w.heap.size + 1, 0, none⟩ = some (.int .u8 (byteAt s 0)) := (blk_cell HG.out 0).trans rfl
      have hc1 : wr.cell? ⟨w.heap.size + 1, 1, none⟩ = some (.int .u8 (byteAt s 1)) := (blk_cell HG.out 1).trans rfl
      have hc2 : wr.cell? ⟨w.heap.size + 1, 2, none⟩ = some (.int .u8 (byteAt s 2)) := (blk_cell HG.out 2).trans rfl
      have hc3 : wr.cell? ⟨w.heap.size + 1, 3, none⟩ = some (.int .u8 (byteAt s 3)) := (blk_cell HG.out 3).trans rfl
      have hd0 : wr.cell? ⟨w.heap.size, 0, none⟩ = some (.int .u8 0) := (blk_cell HR.out 0).trans rfl
      have hd1 : wr.cell? ⟨w.heap.size, 1, none⟩ = some (.int .u8 0) := (blk_cell HR.out 1).trans rfl
      have hd2 : wr.cell? ⟨w.heap.size, 2, none⟩ = some (.int .u8 0) := (blk_cell HR.out 2).trans rfl
      have hd3 : wr.cell? ⟨w.heap.size, 3, none⟩ = some (.int .u8 0) := (blk_cell HR.out 3).trans rfl
      have hf0 := blk_frozen HR.out 0
      have hf1 := blk_frozen HR.out 1
      have hf2 := blk_frozen HR.out 2
      have hf3 := blk_frozen HR.out 3
      go_wp2
      refine bodyPost_ret (results_cell_row rfl _ _ w.heap.size 203 #[.int .u8 (byteAt s 0), .int .u8 (byteAt s 1), .int .u8 (byteAt s 2), .int .u8 (byteAt s 3)] (0, 0) _ rfl ?blk hu rfl (by kernel_rfl)) rfl ?_
      case blk =>
        refine blk_put (cs := #[.int .u8 (byteAt s 0), .int .u8 (byteAt s 1), .int .u8 (byteAt s 2), .int .u8 0]) ?_ 3 _ rfl
        refine blk_put (cs := #[.int .u8 (byteAt s 0), .int .u8 (byteAt s 1), .int .u8 0, .int .u8 0]) ?_ 2 _ rfl
        refine blk_put (cs := #[.int .u8 (byteAt s 0), .int .u8 0, .int .u8 0, .int .u8 0]) ?_ 1 _ rfl
        refine blk_put (cs := #[.int .u8 0, .int .u8 0, .int .u8 0, .int .u8 0]) ?_ 0 _ rfl
        exact HR.out
      · refine ⟨rfl, ?_⟩
        repeat (first | (with_reducible first | exact HB.out) | refine below_set ?_ (Nat.le_refl _))

/-- An array of four bytes in memory, as a slice of it is read. -/
theorem arr_reads {w : World} {g : Nat} {b0 b1 b2 b3 : Int} (h : w.heap[g]? = some (.cells #[.int .u8 b0, .int .u8 b1, .int .u8 b2, .int .u8 b3] 203 (0, 0))) : Kd.C (Kd.int .u8) w (some ⟨g, 0, none⟩) 4 [b0, b1, b2, b3] := by
  refine ⟨rfl, by omega, fun _ => ⟨_, rfl, fun j p hp => ?_⟩⟩
  refine ⟨[.int .u8 p], rfl, rfl, fun i u hu => ?_⟩
  have hi : i = 0 := by
    have := (List.getElem?_eq_some_iff.1 hu).1
    simp at this
    omega
  subst hi
  have hu' : u = .int .u8 p := by simpa using hu.symm
  subst hu'
  rw [add_plain]
  have h2 := blk_cell h (j * 1 + 0)
  show w.cell? ⟨g, j * (Kd.int .u8).sz + 0, none⟩ = _
  have hj : j < 4 := by simpa using (List.getElem?_eq_some_iff.1 hp).1
  obtain rfl | rfl | rfl | rfl : j = 0 ∨ j = 1 ∨ j = 2 ∨ j = 3 := by omega
  all_goals (refine h2.trans ?_; simp at hp ⊢; exact hp)
theorem mark_own (w0 W : World) (n : Nat) (hn : n ≤ 140737488355328) (hB : Below w0.heap.size w0 W) : Kd.R (Kd.int .u8) 5 (W.alloc (.cells (madeCells #[.int .u8 0] n) 5)) w0.heap.size (fun _ => True) (.slice (some ⟨W.heap.size, 0, none⟩) 0 n) [] :=
  ⟨fun _ _ => trivial, [], World.ownsRow_made W _ n hB.size (by simp only [maxLen]; omega) (by rw [size_madeCells]; exact (Nat.mul_one n).symm), Reps.none _ _⟩

/-- crc.Mark. -/
def crc_Mark.f (k : Nat) (l0 : List Int) : Option (List Int) := (crc_Sum.f k l0).bind fun s => if 0 ≤ s ∧ s ≤ 4294967295 ∧ l0.length + 4 < 140737488355328 then some (l0 ++ [byteAt s 0, byteAt s 1, byteAt s 2, byteAt s 3]) else none
theorem crc_Mark.mono : ∀ a0 k, LeO (crc_Mark.f k a0) (crc_Mark.f (k + 1) a0) := by
  intro a0 k
  unfold crc_Mark.f
  exact LeO.bind (crc_Sum.mono _ _) (fun _ => LeO.refl _)
set_option maxHeartbeats 4000000 in
set_option maxRecDepth 100000 in
theorem crc_Mark.calls (k : Nat) (A0 : Option Addr) (c0 : Nat) (l0 : List Int) (r : List Int) (w : World) (hr0 : Kd.C (Kd.int .u8) w A0 l0.length l0) (hc0 : l0.length ≤ c0) (h : crc_Mark.f k l0 = some r) :
    Calls Try.prog 85 #[.slice A0 l0.length c0] w fun e w' => ∃ v0_ : Value, e = .returned (v0_) ∧ Kd.R (Kd.int .u8) 5 w' w.heap.size (fun _ => True) v0_ r ∧ Below w.heap.size w w' := by
  unfold crc_Mark.f at h
  obtain ⟨s, hs, h⟩ := Option.bind_eq_some_iff.1 h
  by_cases hc : 0 ≤ s ∧ s ≤ 4294967295 ∧ l0.length + 4 < 140737488355328
  · rw [if_pos hc] at h
    obtain ⟨h0, h1, hl⟩ := hc
    have HR := Aside0.mk (Option.some.inj h)
    have HS := Aside0.mk hs
    have HR0 := Aside0.mk hr0
    have HC0 := Aside0.mk hc0
    have H0 := Aside0.mk h0
    have H1 := Aside0.mk h1
    have HL := Aside0.mk hl
    have HB := Aside0.mk (Below.refl w.heap.size w)
    obtain ⟨i0, hi, hzz⟩ := Option.map_eq_some_iff.1 info5
    simp only [Prod.mk.injEq] at hzz
    obtain ⟨hz0, hz1, hz2⟩ := hzz
    have hmk : ∀ W : World, (Instr.makeSlice 31 (.int .i64 0) (.int .i64 (wrap64 ((l0.length : Int) + 4)))).run Try.prog W = .ok (.slice (some ⟨W.heap.size, 0, none⟩) 0 (l0.length + 4)) (W.alloc (.cells (madeCells #[.int .u8 0] (l0.length + 4)) 5)) := by
      intro W
      have h5 := run_make (P := Try.prog) W 31 5 i0 (.int .u8 0) Try.underlying31 hi hz0 .i64 .i64 0 ((l0.length : Int) + 4) (by omega) (by omega) (by rw [hz2]; omega) (by omega)
      rw [hz1, show ((l0.length : Int) + 4).toNat = l0.length + 4 by omega, Nat.mul_one] at h5
      rw [show wrap64 ((l0.length : Int) + 4) = (l0.length : Int) + 4 by unfold wrap64; omega]
      exact h5
    clear hs h hr0 hc0 h0 h1 hl hi hz0 hz1 hz2
    have hu203 := Try.underlying203
    go_enter Try.func85, Try.ntmps85
    go_wp2_with (first | (go_at_call 140; (with_reducible refine (crc_Sum.calls k _ _ l0 s _ ?side1 HC0.out HS.out).mono ?_); (case side1 => exact Kd.C_below HR0.out HB.out); rintro e w' ⟨rfl, ⟨nd, rfl⟩⟩) | (go_at_call 139; (with_reducible refine (crc_bytes_calls s H0.out H1.out _).mono ?_); rintro e w' ⟨rfl, hb⟩; have n0_ := Aside0.mk (below_step (by repeat (first | (with_reducible first | exact HB.out | apply below_alloc | apply pw_below_drewN | apply below_drew1) | exact HB.out)) hb); clear HB hb; have HB := n0_; clear n0_))
    -- REGION
    have HO0 : Aside0 (Kd.R (Kd.int .u8) 5 ((w'.alloc (.cells #[.int .u8 (byteAt s 0), .int .u8 (byteAt s 1), .int .u8 (byteAt s 2), .int .u8 (byteAt s 3)] 203)).alloc (.cells (madeCells #[.int .u8 0] (l0.length + 4)) 5)) w.heap.size (fun _ => True) (.slice (some ⟨w'.heap.size + 1, 0, none⟩) 0 (l0.length + 4)) []) := ⟨by
      have h9 := mark_own w (w'.alloc (.cells #[.int .u8 (byteAt s 0), .int .u8 (byteAt s 1), .int .u8 (byteAt s 2), .int .u8 (byteAt s 3)] 203)) (l0.length + 4) (by have := HL.out; omega) (by repeat (first | (with_reducible first | exact HB.out | apply below_alloc | apply pw_below_drewN | apply below_drew1) | exact HB.out))
      simpa using h9⟩
    have HG : Aside0 (((w'.alloc (.cells #[.int .u8 (byteAt s 0), .int .u8 (byteAt s 1), .int .u8 (byteAt s 2), .int .u8 (byteAt s 3)] 203)).alloc (.cells (madeCells #[.int .u8 0] (l0.length + 4)) 5)).heap[w'.heap.size]? = some (.cells #[.int .u8 (byteAt s 0), .int .u8 (byteAt s 1), .int .u8 (byteAt s 2), .int .u8 (byteAt s 3)] 203)) := ⟨blk_alloc (heap_alloc_new _ _) _⟩
    refine start_ (n := 6) (S := fun w' => True) (ds := []) #[false, false, false, false, false, false] (by kernel_rfl) rfl rfl trivial (fun hHeld => ?_)
    refine pure_ (i := 0) (N := some 12) (v := ?_) (a' := ?_) #[true, false, false, false, false, false] rfl rfl (by kernel_rfl) (fun _ _ _ h => h) (Or.inl ⟨by rfl, ?_⟩) ?_ ?_
    rotate_left
    · intro w'
      go_simp
      with_reducible rfl
    rotate_left
    · simp only [Act.put, List.setIfInBounds_toArray, List.set_cons_zero, List.set_cons_succ, i64_w, i32_w]
      rfl
    refine pure_ (i := 1) (N := some 13) (v := ?_) (a' := ?_) #[true, true, false, false, false, false] rfl rfl (by kernel_rfl) (fun _ _ _ h => h) (Or.inl ⟨by rfl, ?_⟩) ?_ ?_
    rotate_left
    · intro w'
      go_simp
      with_reducible rfl
    rotate_left
    · simp only [Act.put, List.setIfInBounds_toArray, List.set_cons_zero, List.set_cons_succ, i64_w, i32_w]
      rfl
    refine pure_ (i := 3) (N := some 15) (v := ?_) (a' := ?_) #[true, true, false, true, false, false] rfl rfl (by kernel_rfl) (fun _ _ _ h => h) (Or.inl ⟨by rfl, ?_⟩) ?_ ?_
    rotate_left
    · intro w'
      go_simp
      with_reducible rfl
    rotate_left
    · simp only [Act.put, List.setIfInBounds_toArray, List.set_cons_zero, List.set_cons_succ, i64_w, i32_w]
      rfl
    refine one_ (i := 2) (N := some 14) #[true, true, true, true, false, false] rfl rfl (by kernel_rfl) (by decide) (fun K hK => ?_)
    refine Kd.R_append_rows_step (Kd.int .u8) (w0 := w) w.heap.size (by rfl) (.tmp 12) (.tmp 13) 31 5 (.int .u8 0) 1 rfl Try.underlying31 info5 rfl (by decide) (by omega) _ [] l0 _ _ _ (fun _ => True) (fun _ => False) rfl rfl ?aO ?aR (fun _ _ h => h) (fun _ h => h.elim) ?aF ?aB ?aS ?aL ?_
    case aO => exact HO0.out
    case aR => exact (Kd.C_below HR0.out (by repeat (first | (with_reducible first | exact HB.out | apply below_alloc | apply pw_below_drewN | apply below_drew1) | exact HB.out)))
    case aF => exact (fun _ _ => trivial)
    case aB => exact (by repeat (first | (with_reducible first | exact HB.out | apply below_alloc | apply pw_below_drewN | apply below_drew1) | exact HB.out))
    case aS => exact (below_size (by repeat (first | (with_reducible first | exact HB.out | apply below_alloc | apply pw_below_drewN | apply below_drew1) | exact HB.out)))
    case aL => have := HL.out; simp; omega
    intro a_v a_w ho hb hg hat
    have HG0 := Aside0.mk (blk_grown (blk_drew HG.out) hg (show some w'.heap.size ≠ (Value.slice (some ⟨w'.heap.size + 1, 0, none⟩) 0 (l0.length + 4)).ownBlock by simp [Value.ownBlock]))
    clear HG
    have HG := HG0
    clear HG0
    clear HB HO0
    have HB := Aside0.mk hb
    have HO0 := Aside0.mk ho
    clear hb ho hg hat
    refine hK.out _ _ trivial (fun hHeld => ?_)
    clear hK K
    refine norm_ (a' := ?_) ?_ ?_
    rotate_left
    · show Act.put _ (some 14) _ = _
      simp only [Act.put, List.setIfInBounds_toArray, List.set_cons_zero, List.set_cons_succ, i64_w, i32_w]
      rfl
    refine one_ (i := 4) (N := some 16) #[true, true, true, true, true, false] rfl rfl (by kernel_rfl) (by decide) (fun K hK => ?_)
    refine Kd.R_append_rows_step (Kd.int .u8) (w0 := w) w.heap.size (by rfl) (.tmp 14) (.tmp 15) 31 5 (.int .u8 0) 1 rfl Try.underlying31 info5 rfl (by decide) (by omega) _ ([] ++ l0) [byteAt s 0, byteAt s 1, byteAt s 2, byteAt s 3] _ _ _ (fun _ => True) (fun _ => False) rfl rfl ?aO ?aR (fun _ _ h => h) (fun _ h => h.elim) ?aF ?aB ?aS ?aL ?_
    case aO => exact HO0.out
    case aR => exact (arr_reads HG.out)
    case aF => exact (fun _ _ => trivial)
    case aB => exact (by repeat (first | (with_reducible first | exact HB.out | apply below_alloc | apply pw_below_drewN | apply below_drew1) | exact HB.out))
    case aS => exact (below_size (by repeat (first | (with_reducible first | exact HB.out | apply below_alloc | apply pw_below_drewN | apply below_drew1) | exact HB.out)))
    case aL => have := HL.out; simp; omega
    intro b_v b_w ho hb hg hat
    clear HB HO0
    have HB := Aside0.mk hb
    have HO0 := Aside0.mk ho
    clear hb ho hg hat
    refine hK.out _ _ trivial (fun hHeld => ?_)
    clear hK K
    refine norm_ (a' := ?_) ?_ ?_
    rotate_left
    · show Act.put _ (some 16) _ = _
      simp only [Act.put, List.setIfInBounds_toArray, List.set_cons_zero, List.set_cons_succ, i64_w, i32_w]
      rfl
    refine pure_ (i := 5) (N := some 2) (v := ?_) (a' := ?_) #[true, true, true, true, true, true] rfl rfl (by kernel_rfl) (fun _ _ _ h => h) (Or.inl ⟨by rfl, ?_⟩) ?_ ?_
    rotate_left
    · intro w'
      go_simp
      with_reducible rfl
    rotate_left
    · simp only [Act.put, List.setIfInBounds_toArray, List.set_cons_zero, List.set_cons_succ, i64_w, i32_w]
      rfl
    refine done_ (by kernel_rfl) ?_

    go_wp2
    go_ret
    have ho := HO0.out
    rw [List.nil_append, HR.out] at ho
    exact ⟨_, rfl, ho, HB.out⟩
  · rw [if_neg hc] at h
    cases h
end Go.Proofs.Ytfdemnefkfkghaa.X
/- Bytes that end with their sum: crc.Fits. -/
namespace Go.Proofs.Ytfdemnefkfkghaa.X
open Go.RowKit Go.Proofs.YtfdemnefkfkghaaW.PrintWords Go.Proofs.YtfdemnefkfkghaaW.PrintLast Go.Proofs.YtfdemnefkfkghaaW.PrintMore
set_option linter.unusedVariables false
set_option linter.unusedSimpArgs false

def crc_Fits.f (k : Nat) (l0 : List Int) : Option Bool :=
  if l0.length < 4 then some false else (crc_Sum.f k (l0.take (l0.length - 4))).bind fun s => if 0 ≤ s ∧ s ≤ 4294967295 then some (decide (l0.drop (l0.length - 4) = [byteAt s 0, byteAt s 1, byteAt s 2, byteAt s 3])) else none
theorem crc_Fits.mono : ∀ a0 k, LeO (crc_Fits.f k a0) (crc_Fits.f (k + 1) a0) := by
  intro a0 k
  unfold crc_Fits.f
  exact LeO.ite (LeO.refl _) (LeO.bind (crc_Sum.mono _ _) (fun _ => LeO.refl _))

theorem eq4 (W : World) (x0 x1 x2 x3 y0 y1 y2 y3 : Int) : (Op.equalIn 10000 203 (.agg #[.int .u8 x0, .int .u8 x1, .int .u8 x2, .int .u8 x3]) (.agg #[.int .u8 y0, .int .u8 y1, .int .u8 y2, .int .u8 y3])).run Try.prog W = .ok (x0 == y0 && (x1 == y1 && (x2 == y2 && x3 == y3))) W := by
  obtain ⟨i0, hi, _⟩ := Option.map_eq_some_iff.1 info5
  have hc : Try.prog.cellsOf 5 = 1 := by kernel_rfl
  have h5 := Try.underlying5
  have hi' : ∀ W (a b : Int), (Op.equalIn 9999 5 (.int .u8 a) (.int .u8 b)).run Try.prog W = .ok (a == b) W := fun W a b => run_equalIn_int W 9998 5 .u8 .u8 a b h5
  rw [show (10000 : Nat) = 9999 + 1 from rfl, run_equalIn_array W 9999 _ _ Try.underlying203 hi, show List.range 4 = [0, 1, 2, 3] from rfl, hc]
  have hp : ∀ (xs : Array Value) (j : Nat) (v : Value), xs[j]? = some v → ∀ W, (part 5 xs (j * 1)).run Try.prog W = .ok v W := by
    intro xs j v hv W
    simp [part, isAgg, run_underlying h5, Nat.mul_one, hv]
  have p0 : ∀ (a b c d : Value) W, (part 5 #[a, b, c, d] (0 * 1)).run Try.prog W = .ok a W := fun a b c d W => hp #[a, b, c, d] 0 a rfl W
  have p1 : ∀ (a b c d : Value) W, (part 5 #[a, b, c, d] (1 * 1)).run Try.prog W = .ok b W := fun a b c d W => hp #[a, b, c, d] 1 b rfl W
  have p2 : ∀ (a b c d : Value) W, (part 5 #[a, b, c, d] (2 * 1)).run Try.prog W = .ok c W := fun a b c d W => hp #[a, b, c, d] 2 c rfl W
  have p3 : ∀ (a b c d : Value) W, (part 5 #[a, b, c, d] (3 * 1)).run Try.prog W = .ok d W := fun a b c d W => hp #[a, b, c, d] 3 d rfl W
  simp only [Op.eqItems, Sem.run_bind, p0, p1, p2, p3, Result.andThen_ok, hi']
  have s1 : ∀ (a b c d : Value) W, (part 5 #[a, b, c, d] 1).run Try.prog W = .ok b W := fun a b c d W => by have := p1 a b c d W; simpa using this
  have s2 : ∀ (a b c d : Value) W, (part 5 #[a, b, c, d] 2).run Try.prog W = .ok c W := fun a b c d W => by have := p2 a b c d W; simpa using this
  have s3 : ∀ (a b c d : Value) W, (part 5 #[a, b, c, d] 3).run Try.prog W = .ok d W := fun a b c d W => by have := p3 a b c d W; simpa using this
  cases x0 == y0 <;> cases h1 : x1 == y1 <;> cases h2 : x2 == y2 <;> cases h3 : x3 == y3 <;> simp [s1, s2, s3, hi', h1, h2, h3]

set_option maxHeartbeats 4000000 in
set_option maxRecDepth 100000 in
theorem crc_Fits_long (k : Nat) (ad : Addr) (c0 m : Nat) (xs : List Int) (e0 e1 e2 e3 s : Int) (w : World) (hr0 : Kd.C (Kd.int .u8) w (some ad) (xs ++ [e0, e1, e2, e3]).length (xs ++ [e0, e1, e2, e3])) (hm : xs.length = m) (hc0 : m + 4 ≤ c0)
    (hs : crc_Sum.f k xs = some s) (h0 : 0 ≤ s) (h1 : s ≤ 4294967295) (hbig : m + 4 ≤ 9223372036854775807) :
    Calls Try.prog 73 #[.slice (some ad) (m + 4) c0] w fun e w' => e = .returned (.bool (decide ([e0, e1, e2, e3] = [byteAt s 0, byteAt s 1, byteAt s 2, byteAt s 3]))) ∧ Below w.heap.size w w' := by
  have hC := hr0
  have hx : Kd.C (Kd.int .u8) w (some ad) m xs := by
    refine ⟨hm, by omega, fun _ => ⟨ad, rfl, fun j p hp => ?_⟩⟩
    obtain ⟨ad', he, hc⟩ := hC.2.2 (by simp)
    injection he with he
    subst he
    exact hc j p (by rw [List.getElem?_append_left (List.getElem?_eq_some_iff.1 hp).1]; exact hp)
  obtain ⟨b, q4⟩ : ∃ b, ad.add m = b := ⟨_, rfl⟩
  have hcell : ∀ j (hj : j < 4), w.cell? (b.add j) = some (.int .u8 ([e0, e1, e2, e3][j]'hj)) := by
    intro j hj
    obtain ⟨ad', he, hc⟩ := hC.2.2 (by simp)
    injection he with he
    subst he
    have hg : (xs ++ [e0, e1, e2, e3])[m + j]? = some ([e0, e1, e2, e3][j]'hj) := by
      rw [List.getElem?_append_right (by omega), hm, Nat.add_sub_cancel_left]
      exact List.getElem?_eq_getElem hj
    obtain ⟨c, _, hk, hcc⟩ := hc _ _ hg
    have hk' : c = [.int .u8 ([e0, e1, e2, e3][j]'hj)] := hk
    have h9 := hcc 0 _ (by rw [hk']; rfl)
    rw [← q4, Addr.add_add]
    have e9 : (m + j) * (Kd.int .u8).sz + 0 = m + j := Nat.mul_one _
    rw [e9] at h9
    exact h9
  have hb0 : b.add 0 = b := rfl
  have hb1 : ∀ j, 0 < j → b.add j = ⟨b.block, b.off + j, none⟩ := fun j hj => by simp [Addr.add]; omega
  have hcl : ∀ a v, w.cell? a = some v → ∀ W, Below w.heap.size w W → W.cell? a = some v := fun a v h W hW => (hW.cell (World.block_lt_of_cell? w _ h)).trans h
  have hc0' := hcl b _ (by have := hcell 0 (by omega); rw [hb0] at this; exact this)
  have hc1 := hcl ⟨b.block, b.off + 1, none⟩ _ (by have := hcell 1 (by omega); rw [hb1 1 (by omega)] at this; exact this)
  have hc2 := hcl ⟨b.block, b.off + 2, none⟩ _ (by have := hcell 2 (by omega); rw [hb1 2 (by omega)] at this; exact this)
  have hc3 := hcl ⟨b.block, b.off + 3, none⟩ _ (by have := hcell 3 (by omega); rw [hb1 3 (by omega)] at this; exact this)
  subst hm
  have HX := Aside0.mk hx
  have HS := Aside0.mk hs
  have H0 := Aside0.mk h0
  have H1 := Aside0.mk h1
  have HC0 : Aside0 (xs.length ≤ c0) := ⟨by omega⟩
  have HB := Aside0.mk (Below.refl w.heap.size w)
  have hcap : xs.length + 4 ≤ c0 := hc0
  have HSum : Aside0 (∀ W, Below w.heap.size w W → Calls Try.prog 140 #[.slice (some ad) xs.length c0] W fun e w' => e = .returned (.int .u32 s) ∧ Drawn0 W w') := ⟨fun W hW => crc_Sum.calls k (some ad) c0 xs s W (Kd.C_below HX.out hW) HC0.out HS.out⟩
  generalize xs.length = m at *
  have q5 : ∀ W, (Instr.arrayAt 203 (.slice (some b) 4 (c0 - m))).run Try.prog W = .ok (.pointer (some b)) W := fun W => run_arrayAt W 203 5 4 (some b) 4 (c0 - m) Try.underlying203 (Nat.le_refl _)
  have q6 := fun W => eq4 W (byteAt s 0) (byteAt s 1) (byteAt s 2) (byteAt s 3) e0 e1 e2 e3
  clear hcell hb0 hb1 hcl hx hs h0 h1 hr0 hc0
  have q1 : (m ≤ c0) = True := eq_true (by omega)
  have q2 : ((m : Int) ≤ (m : Int) + 4) = True := eq_true (by omega)
  have q3 : (c0 = m) = False := eq_false (by omega)
  go_enter Try.func73, Try.ntmps73
  go_wp2_with fail
  refine start_ (n := 16) (S := fun w' => w'.cell? b = some (.int .u8 e0) ∧ w'.cell? ⟨b.block, b.off + 1, none⟩ = some (.int .u8 e1) ∧ w'.cell? ⟨b.block, b.off + 2, none⟩ = some (.int .u8 e2) ∧ w'.cell? ⟨b.block, b.off + 3, none⟩ = some (.int .u8 e3)) (ds := []) #[false, false, false, false, false, false, false, false, false, false, false, false, false, false, false, false] (by kernel_rfl) rfl rfl ⟨(hc0' _ (by repeat (first | (with_reducible first | exact HB.out | apply below_alloc | apply pw_below_drewN | apply below_drew1) | exact HB.out))), (hc1 _ (by repeat (first | (with_reducible first | exact HB.out | apply below_alloc | apply pw_below_drewN | apply below_drew1) | exact HB.out))), (hc2 _ (by repeat (first | (with_reducible first | exact HB.out | apply below_alloc | apply pw_below_drewN | apply below_drew1) | exact HB.out))), (hc3 _ (by repeat (first | (with_reducible first | exact HB.out | apply below_alloc | apply pw_below_drewN | apply below_drew1) | exact HB.out)))⟩ (fun hHeld => ?_)
  refine pure_ (i := 0) (N := some 7) (v := ?_) (a' := ?_) #[true, false, false, false, false, false, false, false, false, false, false, false, false, false, false, false] rfl rfl (by kernel_rfl) (fun _ _ _ h => h) (Or.inl ⟨by rfl, ?_⟩) ?_ ?_
  rotate_left
  · intro w'
    go_simp
    with_reducible rfl
  rotate_left
  · simp only [Act.put, List.setIfInBounds_toArray, List.set_cons_zero, List.set_cons_succ, i64_w, i32_w]
    rfl
  refine pure_ (i := 1) (N := some 8) (v := ?_) (a' := ?_) #[true, true, false, false, false, false, false, false, false, false, false, false, false, false, false, false] rfl rfl (by kernel_rfl) (fun _ _ _ h => h) (Or.inl ⟨by rfl, ?_⟩) ?_ ?_
  rotate_left
  · intro w'
    go_simp
    with_reducible rfl
  rotate_left
  · simp only [Act.put, List.setIfInBounds_toArray, List.set_cons_zero, List.set_cons_succ, i64_w, i32_w]
    rfl
  refine pure_ (i := 2) (N := some 9) (v := ?_) (a' := ?_) #[true, true, true, false, false, false, false, false, false, false, false, false, false, false, false, false] rfl rfl (by kernel_rfl) (fun _ _ _ h => h) (Or.inl ⟨by rfl, ?_⟩) ?_ ?_
  rotate_left
  · intro w'
    go_simp
    with_reducible rfl
  rotate_left
  · simp only [Act.put, List.setIfInBounds_toArray, List.set_cons_zero, List.set_cons_succ, i64_w, i32_w]
    rfl
  refine pure_ (i := 3) (N := some 10) (v := ?_) (a' := ?_) #[true, true, true, true, false, false, false, false, false, false, false, false, false, false, false, false] rfl rfl (by kernel_rfl) (fun _ _ _ h => h) (Or.inl ⟨by rfl, ?_⟩) ?_ ?_
  rotate_left
  · intro w'
    go_simp
    with_reducible rfl
  rotate_left
  · simp only [Act.put, List.setIfInBounds_toArray, List.set_cons_zero, List.set_cons_succ, i64_w, i32_w]
    rfl
  refine pure_ (i := 4) (N := some 11) (v := ?_) (a' := ?_) #[true, true, true, true, true, false, false, false, false, false, false, false, false, false, false, false] rfl rfl (by kernel_rfl) (fun _ _ _ h => h) (Or.inl ⟨by rfl, ?_⟩) ?_ ?_
  rotate_left
  · intro w'
    go_simp
    with_reducible rfl
  rotate_left
  · simp only [Act.put, List.setIfInBounds_toArray, List.set_cons_zero, List.set_cons_succ, i64_w, i32_w]
    rfl
  refine pure_ (i := 5) (N := some 12) (v := ?_) (a' := ?_) #[true, true, true, true, true, true, false, false, false, false, false, false, false, false, false, false] rfl rfl (by kernel_rfl) (fun _ _ _ h => h) (Or.inl ⟨by rfl, ?_⟩) ?_ ?_
  rotate_left
  · intro w'
    go_simp
    with_reducible rfl
  rotate_left
  · simp only [Act.put, List.setIfInBounds_toArray, List.set_cons_zero, List.set_cons_succ, i64_w, i32_w]
    rfl
  refine pure_ (i := 8) (N := some 15) (v := ?_) (a' := ?_) #[true, true, true, true, true, true, false, false, true, false, false, false, false, false, false, false] rfl rfl (by kernel_rfl) (fun _ _ _ h => h) (Or.inl ⟨by rfl, ?_⟩) ?_ ?_
  rotate_left
  · intro w'
    go_simp
    with_reducible rfl
  rotate_left
  · simp only [Act.put, List.setIfInBounds_toArray, List.set_cons_zero, List.set_cons_succ, i64_w, i32_w]
    rfl
  refine pure_ (i := 9) (N := some 16) (v := ?_) (a' := ?_) #[true, true, true, true, true, true, false, false, true, true, false, false, false, false, false, false] rfl rfl (by kernel_rfl) (fun _ _ _ h => h) (Or.inl ⟨by rfl, ?_⟩) ?_ ?_
  rotate_left
  · intro w'
    go_simp
    with_reducible rfl
  rotate_left
  · simp only [Act.put, List.setIfInBounds_toArray, List.set_cons_zero, List.set_cons_succ, i64_w, i32_w]
    rfl
  refine pure_ (i := 10) (N := some 17) (v := ?_) (a' := ?_) #[true, true, true, true, true, true, false, false, true, true, true, false, false, false, false, false] rfl rfl (by kernel_rfl) (fun _ _ _ h => h) (Or.inl ⟨by rfl, ?_⟩) ?_ ?_
  rotate_left
  · intro w'
    go_simp
    with_reducible rfl
  rotate_left
  · simp only [Act.put, List.setIfInBounds_toArray, List.set_cons_zero, List.set_cons_succ, i64_w, i32_w]
    rfl
  refine pure_ (i := 11) (N := some 18) (v := ?_) (a' := ?_) #[true, true, true, true, true, true, false, false, true, true, true, true, false, false, false, false] rfl rfl (by kernel_rfl) (fun _ _ _ h => h) (Or.inl ⟨by rfl, ?_⟩) ?_ ?_
  rotate_left
  · intro w'
    go_simp
    with_reducible rfl
  rotate_left
  · simp only [Act.put, List.setIfInBounds_toArray, List.set_cons_zero, List.set_cons_succ, i64_w, i32_w]
    rfl
  refine take_ (i := 12) (N := some 19) (v := ?_) (a' := ?_) #[true, true, true, true, true, true, false, false, true, true, true, true, true, false, false, false] rfl rfl (by kernel_rfl) (fun _ _ _ h => h) (Or.inl ⟨by rfl, ?_⟩) hHeld ?_ ?_
  rotate_left
  · rintro w' ⟨s0, s1, s2, s3⟩
    go_simp
    with_reducible rfl
  rotate_left
  · simp only [Act.put, List.setIfInBounds_toArray, List.set_cons_zero, List.set_cons_succ, i64_w, i32_w]
    rfl
  refine one_ (i := 6) (N := some 13) #[true, true, true, true, true, true, true, false, true, true, true, true, true, false, false, false] rfl rfl (by kernel_rfl) (by decide) (fun K hK => ?_)
  refine goes_ Try.func140 (by kernel_rfl) rfl #[.slice (some ad) m c0] (by rfl) rfl rfl (by simp only [List.map_toArray, List.map_cons, List.map_nil]; rfl) ?_
  with_reducible refine (HSum.out _ (by repeat (first | (with_reducible first | exact HB.out | apply below_alloc | apply pw_below_drewN | apply below_drew1) | exact HB.out))).mono ?_
  rintro e w' ⟨rfl, ⟨nd, rfl⟩⟩
  refine ⟨_, rfl, ?_⟩
  refine hK.out _ _ ⟨(hc0' _ (by repeat (first | (with_reducible first | exact HB.out | apply below_alloc | apply pw_below_drewN | apply below_drew1) | exact HB.out))), (hc1 _ (by repeat (first | (with_reducible first | exact HB.out | apply below_alloc | apply pw_below_drewN | apply below_drew1) | exact HB.out))), (hc2 _ (by repeat (first | (with_reducible first | exact HB.out | apply below_alloc | apply pw_below_drewN | apply below_drew1) | exact HB.out))), (hc3 _ (by repeat (first | (with_reducible first | exact HB.out | apply below_alloc | apply pw_below_drewN | apply below_drew1) | exact HB.out)))⟩ (fun hHeld => ?_)
  clear hK K
  refine norm_ (a' := ?_) ?_ ?_
  rotate_left
  · show Act.put _ (some 13) _ = _
    simp only [Act.put, List.setIfInBounds_toArray, List.set_cons_zero, List.set_cons_succ, i64_w, i32_w]
    rfl
  refine one_ (i := 7) (N := some 14) #[true, true, true, true, true, true, true, true, true, true, true, true, true, false, false, false] rfl rfl (by kernel_rfl) (by decide) (fun K hK => ?_)
  refine goes_ Try.func139 (by kernel_rfl) rfl #[.int .u32 s] (by rfl) rfl rfl (by simp only [List.map_toArray, List.map_cons, List.map_nil]; rfl) ?_
  with_reducible refine (crc_bytes_calls s H0.out H1.out _).mono ?_
  rintro e w' ⟨rfl, hb⟩
  refine ⟨_, rfl, ?_⟩
  have HB0 := Aside0.mk (below_step (by repeat (first | (with_reducible first | exact HB.out | apply below_alloc | apply pw_below_drewN | apply below_drew1) | exact HB.out)) hb)
  clear HB
  have HB := HB0
  clear HB0 hb
  refine hK.out _ _ ⟨(hc0' _ (by repeat (first | (with_reducible first | exact HB.out | apply below_alloc | apply pw_below_drewN | apply below_drew1) | exact HB.out))), (hc1 _ (by repeat (first | (with_reducible first | exact HB.out | apply below_alloc | apply pw_below_drewN | apply below_drew1) | exact HB.out))), (hc2 _ (by repeat (first | (with_reducible first | exact HB.out | apply below_alloc | apply pw_below_drewN | apply below_drew1) | exact HB.out))), (hc3 _ (by repeat (first | (with_reducible first | exact HB.out | apply below_alloc | apply pw_below_drewN | apply below_drew1) | exact HB.out)))⟩ (fun hHeld => ?_)
  clear hK K
  refine norm_ (a' := ?_) ?_ ?_
  rotate_left
  · show Act.put _ (some 14) _ = _
    simp only [Act.put, List.setIfInBounds_toArray, List.set_cons_zero, List.set_cons_succ, i64_w, i32_w]
    rfl
  refine pure_ (i := 13) (N := some 20) (v := ?_) (a' := ?_) #[true, true, true, true, true, true, true, true, true, true, true, true, true, true, false, false] rfl rfl (by kernel_rfl) (fun _ _ _ h => h) (Or.inl ⟨by rfl, ?_⟩) ?_ ?_
  rotate_left
  · intro w'
    go_simp
    with_reducible rfl
  rotate_left
  · simp only [Act.put, List.setIfInBounds_toArray, List.set_cons_zero, List.set_cons_succ, i64_w, i32_w]
    rfl
  refine pure_ (i := 14) (N := some 21) (v := ?_) (a' := ?_) #[true, true, true, true, true, true, true, true, true, true, true, true, true, true, true, false] rfl rfl (by kernel_rfl) (fun _ _ _ h => h) (Or.inl ⟨by rfl, ?_⟩) ?_ ?_
  rotate_left
  · intro w'
    go_simp
    with_reducible rfl
  rotate_left
  · simp only [Act.put, List.setIfInBounds_toArray, List.set_cons_zero, List.set_cons_succ, i64_w, i32_w]
    rfl
  refine pure_ (i := 15) (N := some 2) (v := ?_) (a' := ?_) #[true, true, true, true, true, true, true, true, true, true, true, true, true, true, true, true] rfl rfl (by kernel_rfl) (fun _ _ _ h => h) (Or.inl ⟨by rfl, ?_⟩) ?_ ?_
  rotate_left
  · intro w'
    go_simp
    with_reducible rfl
  rotate_left
  · simp only [Act.put, List.setIfInBounds_toArray, List.set_cons_zero, List.set_cons_succ, i64_w, i32_w]
    rfl
  refine done_ (by kernel_rfl) ?_

  go_wp2
  go_ret
  refine ⟨?_, HB.out⟩
  show Ending.returned (Value.bool _) = _
  congr 2
  rw [Bool.eq_iff_iff]
  simp only [Bool.and_eq_true, beq_iff_eq, decide_eq_true_eq, List.cons.injEq, and_true]
  constructor
  · rintro ⟨h1, h2, h3, h4⟩
    exact ⟨h1.symm, h2.symm, h3.symm, h4.symm⟩
  · rintro ⟨h1, h2, h3, h4⟩
    exact ⟨h1.symm, h2.symm, h3.symm, h4.symm⟩

set_option maxHeartbeats 4000000 in
set_option maxRecDepth 100000 in
theorem crc_Fits.calls (k : Nat) (A0 : Option Addr) (c0 : Nat) (l0 : List Int) (r : Bool) (w : World) (hr0 : Kd.C (Kd.int .u8) w A0 l0.length l0) (hc0 : l0.length ≤ c0) (h : crc_Fits.f k l0 = some r) :
    Calls Try.prog 73 #[.slice A0 l0.length c0] w fun e w' => e = .returned (.bool r) ∧ Below w.heap.size w w' := by
  unfold crc_Fits.f at h
  by_cases hl : l0.length < 4
  · rw [if_pos hl] at h
    obtain rfl := Option.some.inj h
    have HB := Aside0.mk (Below.refl w.heap.size w)
    have hn : decide ((0 : Int) ≤ (l0.length : Int) - 4) = false := by simp; omega
    have hn1 : decide ((4 : Int) ≤ (l0.length : Int)) = false := by simp; omega
    have hn2 : decide (4 ≤ l0.length) = false := by simp; omega
    have hn3 : ((4 : Int) ≤ (l0.length : Int)) = False := eq_false (by omega)
    have hn4 : (4 ≤ l0.length) = False := eq_false (by omega)
    have hn5 : ((0 : Int) ≤ (l0.length : Int) - 4) = False := eq_false (by omega)
    have hL := Aside0.mk hl
    clear hr0 h
    go_enter Try.func73, Try.ntmps73
    go_wp2
    refine start_ (n := 16) (S := fun w' => True) (ds := []) #[false, false, false, false, false, false, false, false, false, false, false, false, false, false, false, false] (by kernel_rfl) rfl rfl trivial (fun hHeld => ?_)
    refine pure_ (i := 0) (N := some 7) (v := ?_) (a' := ?_) #[true, false, false, false, false, false, false, false, false, false, false, false, false, false, false, false] rfl rfl (by kernel_rfl) (fun _ _ _ h => h) (Or.inl ⟨by rfl, ?_⟩) ?_ ?_
    rotate_left
    · intro w'
      go_simp
      with_reducible rfl
    rotate_left
    · simp only [Act.put, List.setIfInBounds_toArray, List.set_cons_zero, List.set_cons_succ, i64_w, i32_w]
      rfl
    refine pure_ (i := 1) (N := some 8) (v := ?_) (a' := ?_) #[true, true, false, false, false, false, false, false, false, false, false, false, false, false, false, false] rfl rfl (by kernel_rfl) (fun _ _ _ h => h) (Or.inl ⟨by rfl, ?_⟩) ?_ ?_
    rotate_left
    · intro w'
      go_simp
      with_reducible rfl
    rotate_left
    · simp only [Act.put, List.setIfInBounds_toArray, List.set_cons_zero, List.set_cons_succ, i64_w, i32_w]
      rfl
    refine pure_ (i := 2) (N := some 9) (v := ?_) (a' := ?_) #[true, true, true, false, false, false, false, false, false, false, false, false, false, false, false, false] rfl rfl (by kernel_rfl) (fun _ _ _ h => h) (Or.inl ⟨by rfl, ?_⟩) ?_ ?_
    rotate_left
    · intro w'
      go_simp
      with_reducible rfl
    rotate_left
    · simp only [Act.put, List.setIfInBounds_toArray, List.set_cons_zero, List.set_cons_succ, i64_w, i32_w]
      rfl
    refine pure_ (i := 3) (N := some 10) (v := undef) (a' := ?_) #[true, true, true, true, false, false, false, false, false, false, false, false, false, false, false, false] rfl rfl (by kernel_rfl) (fun _ _ _ h => h) (Or.inr ⟨by rfl, rfl⟩) ?_ ?_
    rotate_left
    · simp only [Act.put, List.setIfInBounds_toArray, List.set_cons_zero, List.set_cons_succ, i64_w, i32_w]
      rfl
    refine pure_ (i := 4) (N := some 11) (v := undef) (a' := ?_) #[true, true, true, true, true, false, false, false, false, false, false, false, false, false, false, false] rfl rfl (by kernel_rfl) (fun _ _ _ h => h) (Or.inr ⟨by rfl, rfl⟩) ?_ ?_
    rotate_left
    · simp only [Act.put, List.setIfInBounds_toArray, List.set_cons_zero, List.set_cons_succ, i64_w, i32_w]
      rfl
    refine pure_ (i := 5) (N := some 12) (v := undef) (a' := ?_) #[true, true, true, true, true, true, false, false, false, false, false, false, false, false, false, false] rfl rfl (by kernel_rfl) (fun _ _ _ h => h) (Or.inr ⟨by rfl, rfl⟩) ?_ ?_
    rotate_left
    · simp only [Act.put, List.setIfInBounds_toArray, List.set_cons_zero, List.set_cons_succ, i64_w, i32_w]
      rfl
    refine pure_ (i := 6) (N := some 13) (v := undef) (a' := ?_) #[true, true, true, true, true, true, true, false, false, false, false, false, false, false, false, false] rfl rfl (by kernel_rfl) (fun _ _ _ h => h) (Or.inr ⟨by rfl, rfl⟩) ?_ ?_
    rotate_left
    · simp only [Act.put, List.setIfInBounds_toArray, List.set_cons_zero, List.set_cons_succ, i64_w, i32_w]
      rfl
    refine pure_ (i := 7) (N := some 14) (v := undef) (a' := ?_) #[true, true, true, true, true, true, true, true, false, false, false, false, false, false, false, false] rfl rfl (by kernel_rfl) (fun _ _ _ h => h) (Or.inr ⟨by rfl, rfl⟩) ?_ ?_
    rotate_left
    · simp only [Act.put, List.setIfInBounds_toArray, List.set_cons_zero, List.set_cons_succ, i64_w, i32_w]
      rfl
    refine pure_ (i := 8) (N := some 15) (v := undef) (a' := ?_) #[true, true, true, true, true, true, true, true, true, false, false, false, false, false, false, false] rfl rfl (by kernel_rfl) (fun _ _ _ h => h) (Or.inr ⟨by rfl, rfl⟩) ?_ ?_
    rotate_left
    · simp only [Act.put, List.setIfInBounds_toArray, List.set_cons_zero, List.set_cons_succ, i64_w, i32_w]
      rfl
    refine pure_ (i := 9) (N := some 16) (v := undef) (a' := ?_) #[true, true, true, true, true, true, true, true, true, true, false, false, false, false, false, false] rfl rfl (by kernel_rfl) (fun _ _ _ h => h) (Or.inr ⟨by rfl, rfl⟩) ?_ ?_
    rotate_left
    · simp only [Act.put, List.setIfInBounds_toArray, List.set_cons_zero, List.set_cons_succ, i64_w, i32_w]
      rfl
    refine pure_ (i := 10) (N := some 17) (v := undef) (a' := ?_) #[true, true, true, true, true, true, true, true, true, true, true, false, false, false, false, false] rfl rfl (by kernel_rfl) (fun _ _ _ h => h) (Or.inr ⟨by rfl, rfl⟩) ?_ ?_
    rotate_left
    · simp only [Act.put, List.setIfInBounds_toArray, List.set_cons_zero, List.set_cons_succ, i64_w, i32_w]
      rfl
    refine pure_ (i := 11) (N := some 18) (v := undef) (a' := ?_) #[true, true, true, true, true, true, true, true, true, true, true, true, false, false, false, false] rfl rfl (by kernel_rfl) (fun _ _ _ h => h) (Or.inr ⟨by rfl, rfl⟩) ?_ ?_
    rotate_left
    · simp only [Act.put, List.setIfInBounds_toArray, List.set_cons_zero, List.set_cons_succ, i64_w, i32_w]
      rfl
    refine pure_ (i := 12) (N := some 19) (v := undef) (a' := ?_) #[true, true, true, true, true, true, true, true, true, true, true, true, true, false, false, false] rfl rfl (by kernel_rfl) (fun _ _ _ h => h) (Or.inr ⟨by rfl, rfl⟩) ?_ ?_
    rotate_left
    · simp only [Act.put, List.setIfInBounds_toArray, List.set_cons_zero, List.set_cons_succ, i64_w, i32_w]
      rfl
    refine pure_ (i := 13) (N := some 20) (v := undef) (a' := ?_) #[true, true, true, true, true, true, true, true, true, true, true, true, true, true, false, false] rfl rfl (by kernel_rfl) (fun _ _ _ h => h) (Or.inr ⟨by rfl, rfl⟩) ?_ ?_
    rotate_left
    · simp only [Act.put, List.setIfInBounds_toArray, List.set_cons_zero, List.set_cons_succ, i64_w, i32_w]
      rfl
    refine pure_ (i := 14) (N := some 21) (v := ?_) (a' := ?_) #[true, true, true, true, true, true, true, true, true, true, true, true, true, true, true, false] rfl rfl (by kernel_rfl) (fun _ _ _ h => h) (Or.inl ⟨by rfl, ?_⟩) ?_ ?_
    rotate_left
    · intro w'
      go_simp
      with_reducible rfl
    rotate_left
    · simp only [Act.put, List.setIfInBounds_toArray, List.set_cons_zero, List.set_cons_succ, i64_w, i32_w]
      rfl
    refine pure_ (i := 15) (N := some 2) (v := ?_) (a' := ?_) #[true, true, true, true, true, true, true, true, true, true, true, true, true, true, true, true] rfl rfl (by kernel_rfl) (fun _ _ _ h => h) (Or.inl ⟨by rfl, ?_⟩) ?_ ?_
    rotate_left
    · intro w'
      go_simp
      with_reducible rfl
    rotate_left
    · simp only [Act.put, List.setIfInBounds_toArray, List.set_cons_zero, List.set_cons_succ, i64_w, i32_w]
      rfl
    refine done_ (by kernel_rfl) ?_

    go_wp2
    go_ret
    exact ⟨rfl, by repeat (first | (with_reducible first | exact HB.out | apply below_alloc | apply pw_below_drewN | apply below_drew1) | exact HB.out)⟩
  · rw [if_neg hl] at h
    obtain ⟨s, hs, h⟩ := Option.bind_eq_some_iff.1 h
    by_cases hb : 0 ≤ s ∧ s ≤ 4294967295
    · rw [if_pos hb] at h
      obtain ⟨m, hm⟩ : ∃ m, l0.length = m + 4 := ⟨l0.length - 4, by omega⟩
      obtain ⟨ad, hA, _⟩ := hr0.2.2 (by omega)
      have hmx := hr0.2.1
      have hsub : l0.length - 4 = m := by omega
      rw [hsub] at hs h
      have hd : (l0.drop m).length = 4 := by simp; omega
      obtain ⟨e0, e1, e2, e3, he⟩ : ∃ e0 e1 e2 e3, l0.drop m = [e0, e1, e2, e3] := by
        match hq : l0.drop m, hd with
        | [a, b, c, d], _ => exact ⟨a, b, c, d, rfl⟩
      have hsplit : l0 = l0.take m ++ [e0, e1, e2, e3] := by rw [← he, List.take_append_drop]
      have ht : (l0.take m).length = m := by simp; omega
      obtain rfl := Option.some.inj h
      subst hA
      have hr1 : Kd.C (Kd.int .u8) w (some ad) (l0.take m ++ [e0, e1, e2, e3]).length (l0.take m ++ [e0, e1, e2, e3]) := by rw [← hsplit]; exact hr0
      have h8 := crc_Fits_long k ad c0 m (l0.take m) e0 e1 e2 e3 s w hr1 ht (by omega) hs hb.1 hb.2 (by omega)
      rw [hm, he]
      exact h8
    · rw [if_neg hb] at h
      cases h
end Go.Proofs.Ytfdemnefkfkghaa.X
/- The sum of a file's bytes, plainly: that four bytes in a row that are other ones show. -/
namespace Go.Proofs.Ytfdemnefkfkghaa.Q
open Go.RowKit Go.Proofs.YtfdemnefkfkghaaW.PrintWords Go.Proofs.YtfdemnefkfkghaaW.PrintLast Go.Proofs.YtfdemnefkfkghaaW.PrintMore
open Go.Proofs.Ytfdemnefkfkghaa.X

set_option linter.unusedVariables false
/-! ### bits -/
def L (x : Nat) : Nat := if x % 2 = 1 then x / 2 ^^^ 2197175160 else x / 2
def L8 (x : Nat) : Nat := L (L (L (L (L (L (L (L x)))))))
def cr (s c : Nat) : Nat := L8 (s ^^^ c)
def run (s : Nat) (l : List Int) : Nat := l.foldl (fun s c => cr s c.toNat) s

theorem L_lt {x : Nat} (h : x < 2 ^ 32) : L x < 2 ^ 32 := by
  unfold L
  split
  · exact Nat.xor_lt_two_pow (by omega) (by decide)
  · omega
theorem L8_lt {x : Nat} (h : x < 2 ^ 32) : L8 x < 2 ^ 32 := L_lt (L_lt (L_lt (L_lt (L_lt (L_lt (L_lt (L_lt h)))))))
theorem xor_mod2 (x y : Nat) : (x ^^^ y) % 2 = (x % 2 + y % 2) % 2 := by
  have h := Nat.testBit_xor x y 0
  simp only [Nat.testBit_zero] at h
  rcases Nat.mod_two_eq_zero_or_one x with hx | hx <;> rcases Nat.mod_two_eq_zero_or_one y with hy | hy <;> rcases Nat.mod_two_eq_zero_or_one (x ^^^ y) with hz | hz <;> rw [hx, hy, hz] at h <;> rw [hx, hy, hz] <;> revert h <;> decide
theorem xor_div2 (x y : Nat) : (x ^^^ y) / 2 = x / 2 ^^^ y / 2 := by
  have := Nat.shiftRight_xor_distrib (a := x) (b := y) (i := 1)
  simpa [Nat.shiftRight_succ, Nat.shiftRight_zero] using this
theorem L_xor (x y : Nat) : L (x ^^^ y) = L x ^^^ L y := by
  unfold L
  rw [xor_mod2, xor_div2]
  rcases Nat.mod_two_eq_zero_or_one x with hx | hx <;> rcases Nat.mod_two_eq_zero_or_one y with hy | hy <;> rw [hx, hy] <;> simp
  · ac_rfl
  · ac_rfl
  · rw [show x / 2 ^^^ 2197175160 ^^^ (y / 2 ^^^ 2197175160) = x / 2 ^^^ y / 2 ^^^ (2197175160 ^^^ 2197175160) by ac_rfl, Nat.xor_self, Nat.xor_zero]
theorem L8_xor (x y : Nat) : L8 (x ^^^ y) = L8 x ^^^ L8 y := by simp only [L8, L_xor]
theorem L_back {x : Nat} (h : x < 2 ^ 32) (hy : L x < 2 ^ 31) : x = 2 * L x := by
  unfold L at hy ⊢
  split
  · rename_i h1
    rw [if_pos h1] at hy
    exfalso
    have h2 : (x / 2 ^^^ 2197175160).testBit 31 = true := by
      rw [Nat.testBit_xor, Nat.testBit_lt_two_pow (by omega : x / 2 < 2 ^ 31)]
      decide
    rw [Nat.testBit_lt_two_pow hy] at h2
    cases h2
  · omega
theorem L_two (x : Nat) : L (2 * x) = x := by
  unfold L
  rw [if_neg (by omega)]
  omega
theorem L8_byte (x : Nat) : L8 (256 * x) = x := by
  unfold L8
  rw [show 256 * x = 2 * (2 * (2 * (2 * (2 * (2 * (2 * (2 * x))))))) by omega]
  simp only [L_two]
theorem L8_back {x : Nat} (h : x < 2 ^ 32) (hy : L8 x < 2 ^ 24) : x = 256 * L8 x := by
  unfold L8 at hy ⊢
  have a1 := L_lt h
  have a2 := L_lt a1
  have a3 := L_lt a2
  have a4 := L_lt a3
  have a5 := L_lt a4
  have a6 := L_lt a5
  have a7 := L_lt a6
  have b8 := L_back a7 (by omega)
  have b7 := L_back a6 (by omega)
  have b6 := L_back a5 (by omega)
  have b5 := L_back a4 (by omega)
  have b4 := L_back a3 (by omega)
  have b3 := L_back a2 (by omega)
  have b2 := L_back a1 (by omega)
  have b1 := L_back h (by omega)
  omega
theorem L8_zero : L8 0 = 0 := by decide
theorem cr_lt {s c : Nat} (h : s < 2 ^ 32) (hc : c < 2 ^ 32) : cr s c < 2 ^ 32 := L8_lt (Nat.xor_lt_two_pow h hc)

def Bytes (l : List Int) : Prop := ∀ c ∈ l, 0 ≤ c ∧ c < 256
theorem run_cons (s : Nat) (c : Int) (l : List Int) : run s (c :: l) = run (cr s c.toNat) l := by simp only [run, List.foldl_cons]
theorem run_lt {s : Nat} {l : List Int} (h : s < 2 ^ 32) (hl : Bytes l) : run s l < 2 ^ 32 := by
  induction l generalizing s with
  | nil => exact h
  | cons c l ih =>
    have hc := hl c (by simp)
    exact ih (cr_lt h (by omega)) (fun x hx => hl x (by simp [hx]))
theorem run_append (s : Nat) (a b : List Int) : run s (a ++ b) = run (run s a) b := by simp [run, List.foldl_append]

/-- What two lists differ in. -/
def Off : List Int → List Int → List Int
  | a :: x, b :: y => ((a.toNat ^^^ b.toNat : Nat) : Int) :: Off x y
  | _, _ => []
theorem run_off (s t : Nat) : ∀ (x y : List Int), x.length = y.length → run s x ^^^ run t y = run (s ^^^ t) (Off x y)
  | [], [], _ => rfl
  | a :: x, b :: y, h => by
    have := run_off (cr s a.toNat) (cr t b.toNat) x y (by simpa using h)
    show run (cr s a.toNat) x ^^^ run (cr t b.toNat) y = run (cr (s ^^^ t) ((a.toNat ^^^ b.toNat : Nat) : Int).toNat) (Off x y)
    rw [this, Int.toNat_natCast]
    have : cr s a.toNat ^^^ cr t b.toNat = cr (s ^^^ t) (a.toNat ^^^ b.toNat) := by
      unfold cr
      rw [← L8_xor]
      refine congrArg L8 ?_
      ac_rfl
    rw [this]
  | [], _ :: _, h => by simp at h
  | _ :: _, [], h => by simp at h
theorem off_same : ∀ x : List Int, Off x x = List.replicate x.length 0
  | [] => rfl
  | a :: x => by simp [Off, off_same x, List.replicate_succ, Nat.xor_self]
theorem off_append : ∀ (x x' y y' : List Int), x.length = x'.length → Off (x ++ y) (x' ++ y') = Off x x' ++ Off y y'
  | [], [], _, _, _ => rfl
  | a :: x, b :: x', y, y', h => by
    show _ :: Off (x ++ y) (x' ++ y') = _ :: (Off x x' ++ Off y y')
    rw [off_append x x' y y' (by simpa using h)]
  | [], _ :: _, _, _, h => by simp at h
  | _ :: _, [], _, _, h => by simp at h
theorem run_zeros (n : Nat) : run 0 (List.replicate n 0) = 0 := by
  induction n with
  | zero => rfl
  | succ n ih => rw [List.replicate_succ]; exact ih
theorem run_zeros_ne {s : Nat} (h : s < 2 ^ 32) (h0 : s ≠ 0) (n : Nat) : run s (List.replicate n 0) ≠ 0 := by
  induction n generalizing s with
  | zero => exact h0
  | succ n ih =>
    rw [List.replicate_succ]
    refine ih (s := cr s 0) (cr_lt h (by decide)) ?_
    intro hz
    unfold cr at hz
    rw [Nat.xor_zero] at hz
    have := L8_back h (by omega)
    omega
theorem xor_byte {s : Nat} : s ^^^ s % 256 = 256 * (s / 256) := by
  apply Nat.eq_of_testBit_eq
  intro i
  rw [Nat.testBit_xor, show (256 : Nat) = 2 ^ 8 by rfl, Nat.testBit_mod_two_pow, Nat.testBit_two_pow_mul, Nat.testBit_div_two_pow]
  by_cases h : i < 8
  · simp [h, show ¬ 8 ≤ i by omega]
  · simp [h, show 8 ≤ i by omega, show i - 8 + 8 = i by omega]
theorem eq_of_xor_zero {a b : Nat} (h : a ^^^ b = 0) : a = b := by
  have : a ^^^ b ^^^ b = b := by rw [h, Nat.zero_xor]
  rwa [Nat.xor_assoc, Nat.xor_self, Nat.xor_zero] at this
theorem eq_of_xor {a b c : Nat} (h : a ^^^ b = c) : a = c ^^^ b := by
  rw [← h, Nat.xor_assoc, Nat.xor_self, Nat.xor_zero]
/-- `256 a` and a byte: they do not meet. -/
theorem xor_low {a b : Nat} (hb : b < 256) : (256 * a) ^^^ b = 256 * a + b := by
  have h1 := xor_byte (s := 256 * a + b)
  rw [show (256 * a + b) % 256 = b by omega, show (256 * a + b) / 256 = a by omega] at h1
  exact (eq_of_xor h1).symm
theorem four_ne {e0 e1 e2 e3 : Nat} (h0 : e0 < 256) (h1 : e1 < 256) (h2 : e2 < 256) (h3 : e3 < 256) (hz : cr (cr (cr (cr 0 e0) e1) e2) e3 = 0) : e0 = 0 ∧ e1 = 0 ∧ e2 = 0 ∧ e3 = 0 := by
  have l0 : cr 0 e0 < 2 ^ 32 := cr_lt (by decide) (by omega)
  have l1 := cr_lt l0 (show e1 < 2 ^ 32 by omega)
  have l2 := cr_lt l1 (show e2 < 2 ^ 32 by omega)
  have key : ∀ {s e : Nat}, s < 2 ^ 32 → e < 256 → cr s e < 2 ^ 24 → s = 256 * cr s e + e := by
    intro s e hs he h
    have := L8_back (Nat.xor_lt_two_pow hs (show e < 2 ^ 32 by omega)) h
    have := eq_of_xor this
    rw [xor_low he] at this
    exact this
  have k3 := key l2 h3 (by omega)
  have k2 := key l1 h2 (by omega)
  have k1 := key l0 h1 (by omega)
  have k0 := key (show 0 < 2 ^ 32 by decide) h0 (by omega)
  omega

/-! ### the mark -/
def F : Nat := 4294967295
def sum (l : List Int) : Nat := run F l ^^^ F
def le4 (s : Nat) : List Int := [((s % 256 : Nat) : Int), ((s / 256 % 256 : Nat) : Int), ((s / 65536 % 256 : Nat) : Int), ((s / 16777216 % 256 : Nat) : Int)]
theorem sum_lt {l : List Int} (h : Bytes l) : sum l < 2 ^ 32 := Nat.xor_lt_two_pow (run_lt (by decide) h) (by decide)
theorem run_own {s : Nat} (h : s < 2 ^ 32) : run s (le4 s) = 0 := by
  simp only [run, le4, List.foldl, Int.toNat_natCast]
  have e0 : cr s (s % 256) = s / 256 := by unfold cr; rw [xor_byte, L8_byte]
  have e1 : cr (s / 256) (s / 256 % 256) = s / 65536 := by unfold cr; rw [xor_byte, L8_byte]; omega
  have e2 : cr (s / 65536) (s / 65536 % 256) = s / 16777216 := by unfold cr; rw [xor_byte, L8_byte]; omega
  have e3 : cr (s / 16777216) (s / 16777216 % 256) = s / 16777216 / 256 := by unfold cr; rw [xor_byte, L8_byte]
  rw [e0, e1, e2, e3]
  omega
theorem off_zero : ∀ x : List Int, Bytes x → Off x (List.replicate x.length 0) = x
  | [], _ => rfl
  | a :: x, h => by
    have ha := h a (by simp)
    show ((a.toNat ^^^ (0 : Int).toNat : Nat) : Int) :: Off x (List.replicate x.length 0) = a :: x
    rw [off_zero x (fun c hc => h c (by simp [hc])), Int.toNat_zero, Nat.xor_zero, Int.toNat_of_nonneg ha.1]
theorem le4_bytes (s : Nat) : Bytes (le4 s) := by
  intro c hc
  simp only [le4, List.mem_cons, List.not_mem_nil, or_false] at hc
  omega
theorem run_marked {l : List Int} (h : Bytes l) : run F (l ++ le4 (sum l)) = run F [0, 0, 0, 0] := by
  rw [run_append]
  have hs := sum_lt h
  have h1 := run_off (sum l) F (le4 (sum l)) [0, 0, 0, 0] rfl
  rw [run_own hs, Nat.zero_xor] at h1
  have h2 := off_zero (le4 (sum l)) (le4_bytes _)
  rw [show List.replicate (le4 (sum l)).length (0 : Int) = [0, 0, 0, 0] from rfl] at h2
  rw [h2] at h1
  rw [h1]
  refine congrArg (fun s => run s _) ?_
  unfold sum
  rw [Nat.xor_assoc, Nat.xor_self, Nat.xor_zero]

/-- Bytes that fit, four in a row of them changed, do not fit. -/
theorem spoilt {pre post : List Int} {b0 b1 b2 b3 c0 c1 c2 c3 : Int} (hb : Bytes [b0, b1, b2, b3]) (hc : Bytes [c0, c1, c2, c3])
    (hr : run F (pre ++ [b0, b1, b2, b3] ++ post) = run F (pre ++ [c0, c1, c2, c3] ++ post)) : [b0, b1, b2, b3] = [c0, c1, c2, c3] := by
  have h1 := run_off F F (pre ++ [b0, b1, b2, b3] ++ post) (pre ++ [c0, c1, c2, c3] ++ post) (by simp)
  rw [hr, Nat.xor_self, Nat.xor_self, off_append _ _ _ _ (by simp), off_append _ _ _ _ rfl, off_same, off_same, run_append, run_append, run_zeros] at h1
  have g0 := hb b0 (by simp)
  have g1 := hb b1 (by simp)
  have g2 := hb b2 (by simp)
  have g3 := hb b3 (by simp)
  have d0 := hc c0 (by simp)
  have d1 := hc c1 (by simp)
  have d2 := hc c2 (by simp)
  have d3 := hc c3 (by simp)
  have xl : ∀ {a b : Int}, 0 ≤ a ∧ a < 256 → 0 ≤ b ∧ b < 256 → a.toNat ^^^ b.toNat < 2 ^ 8 := fun ha hb => Nat.xor_lt_two_pow (by omega) (by omega)
  have m0 := xl g0 d0
  have m1 := xl g1 d1
  have m2 := xl g2 d2
  have m3 := xl g3 d3
  have hz : run 0 (Off [b0, b1, b2, b3] [c0, c1, c2, c3]) = 0 := by
    refine Classical.byContradiction fun hn => ?_
    refine run_zeros_ne (run_lt (by decide) ?_) hn _ h1.symm
    intro c hc
    simp only [Off, List.mem_cons, List.not_mem_nil, or_false] at hc
    omega
  simp only [Off, run, List.foldl, Int.toNat_natCast] at hz
  obtain ⟨z0, z1, z2, z3⟩ := four_ne m0 m1 m2 m3 hz
  have e0 := eq_of_xor_zero z0
  have e1 := eq_of_xor_zero z1
  have e2 := eq_of_xor_zero z2
  have e3 := eq_of_xor_zero z3
  rw [show b0 = c0 by omega, show b1 = c1 by omega, show b2 = c2 by omega, show b3 = c3 by omega]

/-! ### the program's sum -/
theorem wr {n : Int} (h0 : -1000000000000000000 ≤ n) (h1 : n ≤ 1000000000000000000) : wrap64 n = n := by
  unfold wrap64
  omega
theorem x32 {a b : Nat} (ha : a < 2 ^ 32) (hb : b < 2 ^ 32) : Go.bits .xor .u32 (a : Int) (b : Int) = ((a ^^^ b : Nat) : Int) := u32_xor_nat a b ha hb
theorem and1 (s : Nat) (h : s < 2 ^ 32) : Go.bits .and .u32 (s : Int) 1 = ((s % 2 : Nat) : Int) := by
  have := u32_and_nat s 1 h (by decide)
  rw [Nat.and_one_is_mod] at this
  exact this
theorem carry_step (k s : Nat) (h : s < 2 ^ 32) (i : Int) (hi : i < 8) (h0 : 0 ≤ i) : crc_carry.l0 (k + 1) (s : Int) i = crc_carry.l0 k ((L s : Nat) : Int) (i + 1) := by
  rw [crc_carry.l0]
  rw [if_pos hi, and1 s h, wr (by omega) (by omega)]
  unfold L
  by_cases h1 : s % 2 = 1
  · rw [if_pos (by omega), if_pos h1, show ((s : Int) / 2) = ((s / 2 : Nat) : Int) by omega, show (2197175160 : Int) = ((2197175160 : Nat) : Int) by rfl, x32 (by omega) (by decide)]
  · rw [if_neg (by omega), if_neg h1, show ((s : Int) / 2) = ((s / 2 : Nat) : Int) by omega]
theorem carry (k s : Nat) (h : s < 2 ^ 32) (c : Int) (hc : 0 ≤ c ∧ c < 256) : crc_carry.f (k + 9) (s : Int) c = some ((cr s c.toNat : Nat) : Int) := by
  unfold crc_carry.f
  obtain ⟨n, rfl⟩ : ∃ n : Nat, c = n := ⟨c.toNat, by omega⟩
  rw [show ((n : Int) % 4294967296) = n by omega, x32 h (by omega), Int.toNat_natCast]
  have a0 : s ^^^ n < 2 ^ 32 := Nat.xor_lt_two_pow h (by omega)
  have a1 := L_lt a0
  have a2 := L_lt a1
  have a3 := L_lt a2
  have a4 := L_lt a3
  have a5 := L_lt a4
  have a6 := L_lt a5
  have a7 := L_lt a6
  rw [carry_step _ _ a0 _ (by decide) (by decide), carry_step _ _ a1 _ (by decide) (by decide), carry_step _ _ a2 _ (by decide) (by decide), carry_step _ _ a3 _ (by decide) (by decide),
    carry_step _ _ a4 _ (by decide) (by decide), carry_step _ _ a5 _ (by decide) (by decide), carry_step _ _ a6 _ (by decide) (by decide), carry_step _ _ a7 _ (by decide) (by decide), crc_carry.l0]
  rw [if_neg (by decide)]
  rfl
theorem rd_at {l : List Int} {i : Nat} (h : i < l.length) : rd l (i : Int) = l[i] := by
  unfold rd
  rw [Int.toNat_natCast, List.getD_eq_getElem?_getD, List.getElem?_eq_getElem h]
  rfl
theorem not_eq {s : Nat} (hs : s < 2 ^ 32) : Go.bits .xor .u32 (-1) (s : Int) = (((run s [] ^^^ F : Nat)) : Int) := by
  have h1 : BitVec.ofInt IntKind.u32.bits (-1) = BitVec.ofInt IntKind.u32.bits ((F : Nat) : Int) := by decide
  have : Go.bits .xor .u32 (-1) (s : Int) = Go.bits .xor .u32 ((F : Nat) : Int) (s : Int) := by
    unfold Go.bits
    rw [h1]
  rw [this, x32 (by decide) hs, Nat.xor_comm]
  rfl
theorem more_step (K s i : Nat) (l : List Int) (t : Int) (hlen : l.length < 100000000) (hi : i < l.length) (hK : crc_carry.f K (s : Int) l[i] = some t) : crc_More.l0 (K + 1) (s : Int) l (l.length : Int) (i : Int) = crc_More.l0 K t l (l.length : Int) ((i + 1 : Nat) : Int) := by
  rw [crc_More.l0, if_pos (by omega), if_pos (by omega), if_pos (by omega), rd_at hi, hK, Option.bind_some]
  rw [wr (by omega) (by omega), show ((i : Int) + 1) = ((i + 1 : Nat) : Int) by omega]
theorem more_end (K s i : Nat) (l : List Int) (hi : ¬ i < l.length) : crc_More.l0 (K + 1) (s : Int) l (l.length : Int) (i : Int) = some (Go.bits .xor .u32 (-1) s) := by
  rw [crc_More.l0, if_neg (by omega)]
theorem more (l : List Int) (hl : Bytes l) (hlen : l.length < 100000000) (k : Nat) : ∀ (m i s : Nat), l.length - i = m → i ≤ l.length → s < 2 ^ 32 → ∀ K, K = k + m + 9 → crc_More.l0 (K + 1) (s : Int) l (l.length : Int) (i : Int) = some (((run s (l.drop i) ^^^ F : Nat)) : Int) := by
  intro m
  induction m with
  | zero =>
    intro i s hm hi hs K hK
    rw [more_end _ _ _ _ (by omega), List.drop_of_length_le (by omega)]
    exact congrArg some (not_eq hs)
  | succ m ih =>
    intro i s hm hi hs K hK
    have hi' : i < l.length := by omega
    have hc := hl l[i] (List.getElem_mem _)
    obtain ⟨K', rfl⟩ : ∃ K', K = K' + 1 := ⟨K - 1, by omega⟩
    have hcr : crc_carry.f (K' + 1) (s : Int) l[i] = some ((cr s l[i].toNat : Nat) : Int) := by
      have := carry (K' - 8) s hs _ hc
      rw [show K' - 8 + 9 = K' + 1 by omega] at this
      exact this
    rw [more_step _ _ _ l _ hlen hi' hcr, ih (i + 1) _ (by omega) (by omega) (cr_lt hs (by omega)) K' (by omega), List.drop_eq_getElem_cons hi', run_cons]
theorem sum_ev (l : List Int) (hl : Bytes l) (hlen : l.length < 100000000) (k : Nat) : crc_Sum.f (k + l.length + 10) l = some ((sum l : Nat) : Int) := by
  unfold crc_Sum.f crc_More.f
  have : Go.bits .xor .u32 (-1) 0 = ((F : Nat) : Int) := by decide
  rw [this, show (0 : Int) = ((0 : Nat) : Int) by rfl, more l hl hlen k l.length 0 F (by omega) (by omega) (by decide) _ rfl]
  rfl
theorem byteAt_eq (s : Nat) (hs : s < 2 ^ 32) : [byteAt (s : Int) 0, byteAt (s : Int) 1, byteAt (s : Int) 2, byteAt (s : Int) 3] = le4 s := by
  unfold byteAt le4
  simp
theorem mark_ev (l : List Int) (hl : Bytes l) (hlen : l.length < 100000000) (k : Nat) : crc_Mark.f (k + l.length + 10) l = some (l ++ le4 (sum l)) := by
  unfold crc_Mark.f
  have h := sum_lt hl
  rw [sum_ev l hl hlen k]
  simp only [Option.bind_some]
  rw [if_pos (by omega), byteAt_eq _ h]
theorem fits_ev (l : List Int) (hl : Bytes l) (hlen : l.length < 100000000) (k : Nat) (h4 : 4 ≤ l.length) : crc_Fits.f (k + l.length + 10) l = some (decide (l.drop (l.length - 4) = le4 (sum (l.take (l.length - 4))))) := by
  unfold crc_Fits.f
  have hb : Bytes (l.take (l.length - 4)) := fun c hc => hl c (List.mem_of_mem_take hc)
  have h := sum_lt hb
  have e := sum_ev (l.take (l.length - 4)) hb (by rw [List.length_take]; omega) (k + 4)
  rw [List.length_take, show k + 4 + min (l.length - 4) l.length + 10 = k + l.length + 10 by omega] at e
  rw [if_neg (by omega), e]
  simp only [Option.bind_some]
  rw [if_pos (by omega), byteAt_eq _ h]
/-- A file that fits has the one residue. -/
theorem fits_run {l : List Int} (hl : Bytes l) (h : l.drop (l.length - 4) = le4 (sum (l.take (l.length - 4)))) : run F l = run F [0, 0, 0, 0] := by
  have hb : Bytes (l.take (l.length - 4)) := fun c hc => hl c (List.mem_of_mem_take hc)
  have := run_marked hb
  rw [← h, List.take_append_drop] at this
  exact this
end Go.Proofs.Ytfdemnefkfkghaa.Q
/- '[]byte("..")' of a constant: the row is marked, and reads as it did. -/
namespace Go.Proofs.Ytfdemnefkfkghaa.X
open Go.RowKit Go.Proofs.YtfdemnefkfkghaaW.PrintWords
set_option linter.unusedVariables false
set_option linter.unusedSimpArgs false

theorem freeze_heap {W : World} {g n : Nat} {cur : Array Value} {e : TypeId} (hh : W.heap[g]? = some (.cells cur e (0, 0))) :
    (W.freeze ⟨g, n, none⟩ 1).heap[g]? = some (.cells cur e (n, n + 1)) := by
  unfold World.freeze
  rw [if_neg (by decide)]
  simp [Array.getElem?_modify, hh]
theorem freeze_other {W : World} {g n i : Nat} (hi : i ≠ g) : (W.freeze ⟨g, n, none⟩ 1).heap[i]? = W.heap[i]? := by
  unfold World.freeze
  rw [if_neg (by decide)]
  simp [Array.getElem?_modify, Ne.symm hi]
theorem freeze_size {W : World} {g n : Nat} : (W.freeze ⟨g, n, none⟩ 1).heap.size = W.heap.size := by
  unfold World.freeze
  rw [if_neg (by decide)]
  simp

section
variable {P : Program} {ops : Array Oper} {rest : List Oper} {o : Oper} {a : Act} {Q : Exit → Act → World → Prop}
theorem conv_event {W : World} (hgd : o.guard = none) {N : Tmp} (_hd : o.dst = some N) (t e : TypeId) (x : Operand) (ho : o.op = .convert t t x) (ht : P.underlying t = some (.slice e)) (he : P.underlying e = some (.int .u8))
    (A : Option Addr) (c base : Nat) (ok : Nat → Prop) (xs : List Int) (hx : a.eval x = .slice A xs.length c) (hne : xs ≠ []) (HO : Kd.R (Kd.int .u8) e W base ok (.slice A xs.length c) xs)
    (h : ∀ w1, Kd.C (Kd.int .u8) w1 A xs.length xs → W.grownBy w1 (Value.slice A xs.length c).ownBlock → wpList P ops Q rest (a.put o.dst (.slice A xs.length c)) w1) : wpList P ops Q (o :: rest) a W := by
  obtain ⟨h0, inner, hown, hr⟩ := HO
  have hC := (Kd.R_reads ⟨h0, inner, hown, hr⟩)
  obtain ⟨A', c', he', hl', hC⟩ := hC
  injection he' with e1 _ e3
  subst e1 e3
  rcases hown.2 with ⟨_, hn⟩ | ⟨g, cap, cur, hv, hb, hh, _, _, _, _⟩
  · exact absurd (List.eq_nil_of_length_eq_zero hn) hne
  · injection hv with e1 _ e3
    subst e1 e3
    have hrun : (execOp a.eval o).run P W = .ok (.value (.slice (some ⟨g, 0, none⟩) xs.length c)) (W.freeze ⟨g, cur.size, none⟩ 1) := by
      have hsh : W.shape? g = some (e, cur.size) := by simp [World.shape?, hh]
      unfold execOp
      rw [ho]
      simp only [hx]
      simp [convert, run_underlying ht, run_underlying he, markStringish, hsh]
    refine Kd.event_run hgd hrun (h _ ?_ ?_)
    · refine ⟨hC.1, hC.2.1, fun hp => ?_⟩
      obtain ⟨ad, ea, hcc⟩ := hC.2.2 hp
      refine ⟨ad, ea, fun j p hj => ?_⟩
      obtain ⟨cs, hl, hk, hcell⟩ := hcc j p hj
      refine ⟨cs, hl, hk, fun i u hu => ?_⟩
      have h9 := hcell i u hu
      injection ea with ea
      subst ea
      rw [← h9]
      unfold World.cell?
      rw [add_plain]
      simp only [freeze_heap hh, hh]
    · refine ⟨rfl, rfl, rfl, Nat.le_of_eq freeze_size.symm, fun i hi hr => ?_⟩
      exact freeze_other (fun hc => hr (by rw [hc]; rfl))
end
end Go.Proofs.Ytfdemnefkfkghaa.X
/- Functions of the program as Lean functions, and that their calls come to them: written by xprint.py of this session, out of the kit's print program. -/
namespace Go.Proofs.Ytfdemnefkfkghaa.X
open Go.RowKit Go.Proofs.YtfdemnefkfkghaaW.PrintWords Go.Proofs.YtfdemnefkfkghaaW.PrintLast Go.Proofs.YtfdemnefkfkghaaW.PrintMore
attribute [local go_sem] max2_int min2_int max_two min_two max_three min_three max_four min_four   -- for this text's walks alone
attribute [local go_sem high] Go.Proofs.Ytfdemnefkfkghaa.XW.leq Go.Proofs.Ytfdemnefkfkghaa.XW.gtr Go.Proofs.Ytfdemnefkfkghaa.XW.geq
set_option linter.unusedVariables false
set_option linter.unusedSimpArgs false

/-! ### cat_May: function 155 -/
def cat_May.f (a0 : ByteArray) : Option (Bool) := if (a0.size : Int) ≥ 1 then (some (decide ((a0.size : Int) ≤ 16))) else (some false)
set_option maxHeartbeats 8000000 in
set_option maxRecDepth 100000 in
theorem cat_May.calls (a0 : ByteArray) (r : Bool) (w : World) (h : cat_May.f a0 = some r) :
    Calls Try.prog 155 #[.string a0] w fun e w' => e = .returned (.bool r) ∧ Drawn0 w w' := by
  have H : (if (a0.size : Int) ≥ 1 then (some (decide ((a0.size : Int) ≤ 16))) else (some false)) = some r := h
  clear h
  by_cases c2 : (a0.size : Int) ≥ 1
  · rw [if_pos c2] at H
    have c2b0 : decide (1 ≤ (a0.size : Int)) = true := decide_eq_true c2
    have c2b1 : decide (1 ≤ a0.size) = true := decide_eq_true (by omega)
    clear c2
    obtain rfl := Option.some.inj H
    go_enter Try.func155, Try.ntmps155
    go_wp2
    go_ret
    exact ⟨by first | rfl | (simp; done) | (simp [*]; done), by repeat (first | exact Drawn0.refl _ | apply Drawn0.step)⟩
  · rw [if_neg c2] at H
    have c2b0 : decide (1 ≤ (a0.size : Int)) = false := decide_eq_false c2
    have c2b1 : decide (1 ≤ a0.size) = false := decide_eq_false (by omega)
    clear c2
    obtain rfl := Option.some.inj H
    go_enter Try.func155, Try.ntmps155
    go_wp2
    go_ret
    exact ⟨by first | rfl | (simp; done) | (simp [*]; done), by repeat (first | exact Drawn0.refl _ | apply Drawn0.step)⟩

end Go.Proofs.Ytfdemnefkfkghaa.X
