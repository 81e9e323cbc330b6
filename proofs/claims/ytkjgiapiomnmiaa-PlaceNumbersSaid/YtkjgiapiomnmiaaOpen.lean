/- What a call's arguments read as, as Lean values: whatever the row reads as data of a type is of the print's kind, well formed, and no greater than the row's weights and bulk allow. -/
import Derived.Test.YtkjgiapiomnmiaaRows
import Derived.Test.YtkjgiapiomnmiaaWWords
import Derived.WalkKit
import Derived.ProofKit
import Derived.OpenShut
import Derived.ShutString
import Derived.ChangeOld
import Derived.Below
import Derived.SizedLaws
import Derived.DataElems
namespace Go.Proofs.Ytkjgiapiomnmiaa.Opn
open Go.RowKit Go.Proofs.YtkjgiapiomnmiaaW.PrintWords
open Go.Proofs.Ytkjgiapiomnmiaa.Rows (uptoBulk uptoBulkAll)

/-- Read as data of the type t: of the kind d, good, and of no more bulk than the data. -/
def Opens {α : Type} (P : Program) (t : TypeId) (d : Kd α) (good : α → Prop) (mes : α → Nat) : Prop :=
  P.cellsOf t = d.sz ∧ ∀ (H : Type) (enc : TypeId × Value → H) (W : World) (fuel : Nat) (cs : List Value) (x : DataW H × List MemPlace),
    DataW.trod enc P W 0 (fun _ => true) true fuel t cs = some x → (∀ n ∈ x.1.weights P t, n ≤ reachBytes) → ∃ a, d.K W a cs ∧ good a ∧ mes a ≤ uptoBulk x.1

theorem opens_int {P : Program} {t : TypeId} {k : IntKind} (hu : P.underlying t = some (.int k)) (hc : P.cellsOf t = 1) : Opens P t (Kd.int k) (fun n => (Lit.int k n).wf = true) (fun _ => 1) := by
  refine ⟨hc, fun H enc W fuel cs x h _ => ?_⟩
  obtain ⟨n, rfl, rfl, hw⟩ := DataW.trod_int hu h
  exact ⟨n, rfl, hw, by simp [uptoBulk]⟩

theorem opens_bool {P : Program} {t : TypeId} (hu : P.underlying t = some .bool) (hc : P.cellsOf t = 1) : Opens P t Kd.bool (fun _ => True) (fun _ => 1) := by
  refine ⟨hc, fun H enc W fuel cs x h _ => ?_⟩
  obtain ⟨b, rfl, rfl⟩ := DataW.trod_bool hu h
  exact ⟨b, rfl, trivial, by simp [uptoBulk]⟩

theorem opens_string {P : Program} {t : TypeId} (hu : P.underlying t = some .string) (hc : P.cellsOf t = 1) : Opens P t Kd.string (fun s => s.size ≤ 140737488351232) (fun s => s.size + 1) := by
  refine ⟨hc, fun H enc W fuel cs x h hz => ?_⟩
  obtain ⟨s, rfl, rfl, hs⟩ := DataW.trod_string hu h
  have h1 := hz s.data.toList.length (by simp [DataW.weights])
  refine ⟨s, rfl, ?_, ?_⟩
  · simpa [reachBytes] using h1
  · simp [uptoBulk]

theorem bulkAll_append {H : Type} : ∀ (a b : List (DataW H)), uptoBulkAll (a ++ b) = uptoBulkAll a + uptoBulkAll b
  | [], b => by simp [uptoBulkAll]
  | x :: a, b => by simp [uptoBulkAll, bulkAll_append a b]; omega

theorem weights_all {H : Type} {P : Program} {e : TypeId} : ∀ {l : List (DataW H)} {d : DataW H}, d ∈ l → ∀ n ∈ d.weights P e, n ∈ DataW.weightsAll P e l
  | x :: l, d, h, n, hn => by
    simp only [DataW.weightsAll, List.mem_append]
    rcases List.mem_cons.1 h with rfl | h
    · exact .inl hn
    · exact .inr (weights_all h n hn)

/-- Element by element. -/
theorem all_open {α : Type} {P : Program} {e : TypeId} {d : Kd α} {good : α → Prop} {mes : α → Nat} (h : Opens P e d good mes) {H : Type} {enc : TypeId × Value → H} {W : World} {n : Nat} :
    ∀ (elems : List (DataW H × List MemPlace)) (cells : Nat → List Value),
      (∀ i y, elems[i]? = some y → DataW.trod enc P W 0 (fun _ => true) true n e (cells i) = some y) →
      (∀ m ∈ DataW.weightsAll P e (elems.map (·.1)), m ≤ reachBytes) →
      ∃ xs : List α, xs.length = elems.length ∧ (∀ i a, xs[i]? = some a → d.K W a (cells i)) ∧ (∀ a ∈ xs, good a) ∧ (xs.map mes).sum ≤ uptoBulkAll (elems.map (·.1))
  | [], _, _, _ => ⟨[], rfl, fun i a hi => by simp at hi, fun a ha => by simp at ha, by simp⟩
  | y :: elems, cells, ht, hw => by
    obtain ⟨a, hk, hg, hm⟩ := h.2 H enc W n (cells 0) y (ht 0 y rfl) (fun m hm => hw m (by simp only [List.map_cons, DataW.weightsAll, List.mem_append]; exact .inl hm))
    obtain ⟨xs, hl, hks, hgs, hms⟩ := all_open h elems (fun i => cells (i + 1)) (fun i z hz => ht (i + 1) z hz) (fun m hm => hw m (by simp only [List.map_cons, DataW.weightsAll, List.mem_append]; exact .inr hm))
    refine ⟨a :: xs, by simp [hl], ?_, ?_, ?_⟩
    · intro i b hb
      cases i with
      | zero =>
        have : a = b := by simpa using hb
        subst this
        exact hk
      | succ i => exact hks i b (by simpa using hb)
    · intro b hb
      rcases List.mem_cons.1 hb with rfl | hb
      · exact hg
      · exact hgs b hb
    · simp only [List.map_cons, List.sum_cons, uptoBulkAll]
      omega

theorem cells_at {w : World} {base : Nat} : ∀ {n : Nat} {a : Addr} {c : List Value}, w.cells? base a n = some c → c.length = n ∧ ∀ i u, c[i]? = some u → w.cell? (a.add i) = some u := by
  intro n a c h
  unfold World.cells? at h
  split at h
  · have hl := mapM_some_length h
    refine ⟨by simpa using hl, fun i u hu => ?_⟩
    have hi : i < n := by
      have := (List.getElem?_eq_some_iff.1 hu).1
      simp at hl
      omega
    have hg := mapM_some_get h i i (by simp [hi])
    rw [hu] at hg
    exact hg
  · cases h

theorem opens_slice {α : Type} {P : Program} {t e : TypeId} {d : Kd α} {good : α → Prop} {mes : α → Nat} (hu : P.underlying t = some (.slice e)) (hc : P.cellsOf t = 1) (h : Opens P e d good mes) :
    Opens P t (Kd.slice e d) (fun xs => xs.length * P.bytesOf e ≤ 140737488351232 ∧ ∀ a ∈ xs, good a) (fun xs => (xs.map mes).sum + 1) := by
  refine ⟨hc, fun H enc W fuel cs x ht hz => ?_⟩
  rcases DataW.trod_slice hu ht with ⟨rfl, rfl⟩ | ⟨a, len, cap, elems, rest, n, rfl, rfl, rfl, _, hl, hcap, hlen, he, _, _⟩
  · exact ⟨[], ⟨none, 0, rfl, Nat.le_refl _, by exact Kd.C_nil d W⟩, ⟨by simp, by simp⟩, by simp [uptoBulk]⟩
  · simp only [DataW.weights, hu] at hz
    have hw0 := hz _ (List.mem_cons_self ..)
    have hw1 : ∀ m ∈ DataW.weightsAll P e (elems.map (·.1)), m ≤ reachBytes := fun m hm => hz m (List.mem_cons_of_mem _ (List.mem_append_left _ hm))
    have hex : ∀ i, i < len → ∃ c, W.cells? 0 (a.add (i * P.cellsOf e)) (P.cellsOf e) = some c := by
      intro i hi
      have := he i hi
      rw [List.getElem?_eq_getElem (by omega)] at this
      obtain ⟨c, hc, _⟩ := Option.bind_eq_some_iff.1 this
      exact ⟨c, hc⟩
    obtain ⟨xs, hxl, hxk, hxg, hxm⟩ := all_open h (enc := enc) (W := W) (n := n) elems (fun i => (W.cells? 0 (a.add (i * P.cellsOf e)) (P.cellsOf e)).getD []) (by
      intro i y hy
      have hi : i < len := by
        have := (List.getElem?_eq_some_iff.1 hy).1
        omega
      have hh := he i hi
      rw [hy] at hh
      obtain ⟨c, hc, hr⟩ := Option.bind_eq_some_iff.1 hh
      simp only [hc, Option.getD_some]
      exact hr) hw1
    have hxlen : xs.length = len := by omega
    refine ⟨xs, ⟨some a, cap, by rw [hxlen], by omega, ⟨rfl, ?_, fun _ => ⟨a, rfl, fun j p hp => ?_⟩⟩⟩, ⟨?_, hxg⟩, ?_⟩
    · have : maxLen ≤ 9223372036854775807 := by decide
      omega
    · have hj : j < len := by
        have := (List.getElem?_eq_some_iff.1 hp).1
        omega
      obtain ⟨c, hc⟩ := hex j hj
      have hk := hxk j p hp
      simp only [hc, Option.getD_some] at hk
      obtain ⟨hcl, hcc⟩ := cells_at hc
      refine ⟨c, by rw [hcl, h.1], hk, fun i u hu => ?_⟩
      have := hcc i u hu
      rw [h.1] at this
      rw [← this, Addr.add_add]
    · have h1 : xs.length ≤ (elems.map (·.1)).length + (rest.map (·.1)).length := by simp; omega
      exact Nat.le_trans (Nat.mul_le_mul_right _ h1) hw0
    · simp only [uptoBulk]
      omega

/-- The types of fields one behind the other, each where the ones ahead of it end. -/
def offs (P : Program) : Nat → List Field → Bool
  | _, [] => true
  | o, f :: r => f.offset == o && offs P (o + P.cellsOf f.type) r
def cellsAll (P : Program) : List Field → Nat
  | [] => 0
  | f :: r => P.cellsOf f.type + cellsAll P r

/-- Fields in a row. -/
def OpensF {α : Type} (P : Program) (fs : List Field) (d : Kd α) (good : α → Prop) (mes : α → Nat) : Prop :=
  cellsAll P fs = d.sz ∧ ∀ (H : Type) (enc : TypeId × Value → H) (W : World) (fuel : Nat) (cs : List Value) (xs : List (DataW H × List MemPlace)) (o : Nat),
    offs P o fs = true → cs.length = cellsAll P fs → xs.length = fs.length →
    (∀ (i : Nat) (f : Field), fs[i]? = some f → DataW.trod enc P W 0 (fun _ => true) true fuel f.type ((cs.drop (f.offset - o)).take (P.cellsOf f.type)) = xs[i]?) →
    (∀ n ∈ DataW.weightsEach P (fs.map (·.type)) (xs.map (·.1)), n ≤ reachBytes) → ∃ a, d.K W a cs ∧ good a ∧ mes a ≤ uptoBulkAll (xs.map (·.1))

theorem offs_le {P : Program} : ∀ {fs : List Field} {o : Nat}, offs P o fs = true → ∀ (i : Nat) (f : Field), fs[i]? = some f → o ≤ f.offset
  | [], _, _, i, f, hf => by simp at hf
  | g :: r, o, h, i, f, hf => by
    simp only [offs, Bool.and_eq_true, beq_iff_eq] at h
    cases i with
    | zero =>
      have : g = f := by simpa using hf
      subst this
      omega
    | succ i =>
      have := offs_le h.2 i f (by simpa using hf)
      omega

theorem opensF_one {α : Type} {P : Program} {f : Field} {d : Kd α} {good : α → Prop} {mes : α → Nat} (h : Opens P f.type d good mes) : OpensF P [f] d good mes := by
  refine ⟨by simp [cellsAll, h.1], fun H enc W fuel cs xs o ho hl hx ht hw => ?_⟩
  obtain ⟨y, rfl⟩ : ∃ y, xs = [y] := by
    match xs, hx with
    | [y], _ => exact ⟨y, rfl⟩
  have h0 := ht 0 f rfl
  simp only [offs, Bool.and_eq_true, beq_iff_eq] at ho
  rw [ho.1, Nat.sub_self, List.drop_zero, List.take_of_length_le (by simp [cellsAll] at hl; omega)] at h0
  obtain ⟨a, hk, hg, hm⟩ := h.2 H enc W fuel cs y h0 (fun n hn => hw n (by simp [DataW.weightsEach]; exact hn))
  exact ⟨a, hk, hg, by simp [uptoBulkAll]; exact hm⟩

theorem opensF_cons {α β : Type} {P : Program} {f : Field} {fs : List Field} {d : Kd α} {d' : Kd β} {good : α → Prop} {good' : β → Prop} {mes : α → Nat} {mes' : β → Nat} (h : Opens P f.type d good mes) (h' : OpensF P fs d' good' mes') :
    OpensF P (f :: fs) (Kd.pair d d') (fun x => good x.1 ∧ good' x.2) (fun x => mes x.1 + mes' x.2) := by
  refine ⟨by simp only [cellsAll, h.1, h'.1]; rfl, fun H enc W fuel cs xs o ho hl hx ht hw => ?_⟩
  obtain ⟨y, ys, rfl⟩ : ∃ y ys, xs = y :: ys := by
    match xs, hx with
    | y :: ys, _ => exact ⟨y, ys, rfl⟩
  simp only [offs, Bool.and_eq_true, beq_iff_eq] at ho
  simp only [cellsAll] at hl
  have h0 := ht 0 f rfl
  rw [ho.1, Nat.sub_self, List.drop_zero] at h0
  obtain ⟨a, hk, hg, hm⟩ := h.2 H enc W fuel _ y h0 (fun n hn => hw n (by simp only [List.map_cons, DataW.weightsEach, List.mem_append]; exact .inl hn))
  obtain ⟨b, hk', hg', hm'⟩ := h'.2 H enc W fuel (cs.drop (P.cellsOf f.type)) ys (o + P.cellsOf f.type) ho.2 (by simp; omega) (by simpa using hx)
    (fun i g hgi => by
      have hle := offs_le ho.2 i g hgi
      have := ht (i + 1) g (by simpa using hgi)
      rw [show g.offset - o = P.cellsOf f.type + (g.offset - (o + P.cellsOf f.type)) by omega, ← List.drop_drop] at this
      simpa using this)
    (fun n hn => hw n (by simp only [List.map_cons, DataW.weightsEach, List.mem_append]; exact .inr hn))
  refine ⟨(a, b), ⟨cs.take (P.cellsOf f.type), cs.drop (P.cellsOf f.type), (List.take_append_drop _ _).symm, hk, hk'⟩, ⟨hg, hg'⟩, ?_⟩
  simp only [List.map_cons, uptoBulkAll]
  omega

theorem opens_struct {α β : Type} {P : Program} {t : TypeId} {fs : Array Field} {d : Kd α} {good : α → Prop} {mes : α → Nat} (f : β → α) (g : α → β) (hfg : ∀ a, f (g a) = a) (hu : P.underlying t = some (.struct fs)) (hc : P.cellsOf t = d.sz) (ho : offs P 0 fs.toList = true)
    (h : OpensF P fs.toList d good mes) : Opens P t (Kd.iso d f) (fun b => good (f b)) (fun b => mes (f b)) := by
  refine ⟨hc, fun H enc W fuel cs x ht hz => ?_⟩
  obtain ⟨xs, n, rfl, rfl, hl, hx, hi⟩ := DataW.trod_struct hu ht
  simp only [DataW.weights, hu] at hz
  obtain ⟨a, hk, hg, hm⟩ := h.2 H enc W n cs xs 0 ho (by rw [hl, hc, h.1]) (by simpa using hx) (fun i fd hfd => by
    have := hi i fd (by simpa using hfd)
    simpa using this) hz
  refine ⟨g a, ?_, ?_, ?_⟩
  · show d.K W (f (g a)) cs
    rw [hfg]
    exact hk
  · show good (f (g a))
    rw [hfg]
    exact hg
  · show mes (f (g a)) ≤ _
    rw [hfg]
    simp only [uptoBulk]
    omega

/-- What is told of a type by another number of it. -/
theorem opens_imp {α : Type} {P : Program} {t : TypeId} {d : Kd α} {good good' : α → Prop} {mes mes' : α → Nat} (h : Opens P t d good mes) (hg : ∀ a, good a → good' a) (hm : ∀ a, mes' a ≤ mes a) : Opens P t d good' mes' :=
  ⟨h.1, fun H enc W fuel cs x ht hz => by
    obtain ⟨a, hk, hga, hma⟩ := h.2 H enc W fuel cs x ht hz
    exact ⟨a, hk, hg a hga, Nat.le_trans (hm a) hma⟩⟩

/-- One argument of a row. -/
theorem arg_opens {α : Type} {P : Program} {t : TypeId} {d : Kd α} {good : α → Prop} {mes : α → Nat} (h : Opens P t d good mes) {H : Type} {enc : TypeId × Value → H} {W : World} {v : Value} {dat : DataW H} {ps : List MemPlace} (ht : DataW.Trod enc P W 0 (fun _ => true) true t v dat ps)
    {ts : List TypeId} {ds : List (DataW H)} (hsz : (DataW.weightsEach P ts ds).all (· ≤ reachBytes) = true) {j : Nat} (hj : ts[j]? = some t) (hd : ds[j]? = some dat) : ∃ a, d.K W a v.cells.toList ∧ good a ∧ mes a ≤ uptoBulk dat := by
  obtain ⟨fuel, hf⟩ := ht
  exact h.2 H enc W fuel _ (dat, ps) hf (fun n hn => by
    have := List.all_eq_true.1 hsz n (DataW.weights_mem_each hj hd n hn)
    simpa using this)

theorem agg_of_struct {P : Program} {t : TypeId} {fs : Array Field} {W : World} {base : Nat} {v : Value} (hu : P.underlying t = some (.struct fs)) (h : Value.okWide P W .any base t v) : ∃ cs, v = .agg cs := by
  unfold Value.okWide at h
  rw [hu] at h
  obtain ⟨cs, rfl, _⟩ := h
  exact ⟨cs, rfl⟩
open Go.ChangeShapes Go.WideShapes in
theorem int_of {P : Program} {H : Type} {enc : TypeId × Value → H} {W : World} {base : Nat} {t : TypeId} {k : IntKind} {v : Value} {d : DataW H} {p : List MemPlace} (hu : P.underlying t = some (.int k)) (hv : Value.okWide P W .any base t v) (h : DataW.Trod enc P W 0 (fun _ => true) true t v d p) : ∃ x, v = .int k x := by
  obtain ⟨x, rfl, _⟩ := open_int hu hv h
  exact ⟨x, rfl⟩
open Go.ChangeShapes Go.WideShapes in
theorem bool_of {P : Program} {H : Type} {enc : TypeId × Value → H} {W : World} {base : Nat} {t : TypeId} {v : Value} {d : DataW H} {p : List MemPlace} (hu : P.underlying t = some .bool) (hv : Value.okWide P W .any base t v) (h : DataW.Trod enc P W 0 (fun _ => true) true t v d p) : ∃ x, v = .bool x := by
  obtain ⟨x, rfl, _⟩ := open_bool hu hv h
  exact ⟨x, rfl⟩
open Go.ChangeShapes Go.WideShapes Go.ChangeMaps in
theorem string_of {P : Program} {H : Type} {enc : TypeId × Value → H} {W : World} {base : Nat} {t : TypeId} {v : Value} {d : DataW H} {p : List MemPlace} (hu : P.underlying t = some .string) (hv : Value.okWide P W .any base t v) (h : DataW.Trod enc P W 0 (fun _ => true) true t v d p) : ∃ x, v = .string x := by
  obtain ⟨x, rfl, _⟩ := open_string hu hv h
  exact ⟨x, rfl⟩
theorem int_cells {k : IntKind} {w : World} {x y : Int} (h : (Kd.int k).K w x (Value.int k y).cells.toList) : x = y := by
  have h' : [Value.int k y] = [Value.int k x] := h
  injection h' with h' _
  injection h' with _ h'
  exact h'.symm
theorem bool_cells {w : World} {x y : Bool} (h : Kd.bool.K w x (Value.bool y).cells.toList) : x = y := by
  have h' : [Value.bool y] = [Value.bool x] := h
  injection h' with h' _
  injection h' with h'
  exact h'.symm
theorem string_cells {w : World} {x y : ByteArray} (h : Kd.string.K w x (Value.string y).cells.toList) : x = y := by
  have h' : [Value.string y] = [Value.string x] := h
  injection h' with h' _
  injection h' with h'
  exact h'.symm
theorem slice_cells {a a' : Option Addr} {l l' c c' : Nat} (h : (Value.slice a l c).cells.toList = [Value.slice a' l' c']) : a = a' ∧ l = l' ∧ c = c' := by
  have h' : [Value.slice a l c] = [Value.slice a' l' c'] := h
  injection h' with h' _
  injection h' with h1 h2 h3
  exact ⟨h1, h2, h3⟩
end Go.Proofs.Ytkjgiapiomnmiaa.Opn
