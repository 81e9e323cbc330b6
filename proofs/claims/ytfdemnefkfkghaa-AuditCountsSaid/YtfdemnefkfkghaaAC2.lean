/- Parts of the proof of YtfdemnefkfkghaaRAuditCountsAll, one behind the other: RP, RS, RV, RVb, RW, RWd, RZ, RY, RX, RWe, RGS, R33a, R33b, R33c, R33d, R33m, R33e, R33f, R33g, R33h, R33i, R33n, R33j, R33k, Q33, R33l. -/
import Derived.Test.YtfdemnefkfkghaaAC0
import Derived.Test.YtfdemnefkfkghaaAC1
import Derived.Test.YtfdemnefkfkghaaRows
import Derived.WalkKit
import Derived.ProofKit
import Derived.OpenShut
import Derived.ShutString
import Derived.ChangeOld
import Derived.Below
import Derived.SizedLaws
import Derived.DataElems
import Derived.KernelRfl
/- What a call's arguments read as, as the machine's values: whatever the row reads as data of a type is a Lean value, well formed, and no greater than the row's weights and bulk allow. -/
namespace Go.Proofs.Ytfdemnefkfkghaa.R
set_option linter.unusedVariables false
set_option linter.unusedSimpArgs false
open Go Go.RowKit
open Go.Proofs.Ytfdemnefkfkghaa.Rows (uptoBulk uptoBulkAll)

/-- A Lean value as cells of the machine. -/
structure Cd (α : Type) where
  sz : Nat
  enc : α → List V
  len : ∀ x, (enc x).length = sz
  cell : ∀ x, ∀ v ∈ enc x, v.isCell = true ∧ v.hasIds = false

def Cd.int (k : IntKind) : Cd Int := ⟨1, fun n => [.int k n], fun _ => rfl, fun _ v hv => by simp at hv; subst hv; exact ⟨rfl, rfl⟩⟩
def Cd.bool : Cd Bool := ⟨1, fun b => [.bool b], fun _ => rfl, fun _ v hv => by simp at hv; subst hv; exact ⟨rfl, rfl⟩⟩
def Cd.str : Cd ByteArray := ⟨1, fun s => [.str s], fun _ => rfl, fun _ v hv => by simp at hv; subst hv; exact ⟨rfl, rfl⟩⟩
def Cd.slice {α : Type} (d : Cd α) : Cd (List α) := ⟨1, fun xs => [.fz (xs.map d.enc)], fun _ => rfl, fun _ v hv => by simp at hv; subst hv; exact ⟨rfl, rfl⟩⟩
def Cd.pair {α β : Type} (d : Cd α) (d' : Cd β) : Cd (α × β) := ⟨d.sz + d'.sz, fun x => d.enc x.1 ++ d'.enc x.2, fun x => by simp [d.len, d'.len], fun x v hv => by
  rcases List.mem_append.1 hv with h | h
  · exact d.cell _ v h
  · exact d'.cell _ v h⟩
def Cd.iso {α β : Type} (d : Cd α) (f : β → α) : Cd β := ⟨d.sz, fun x => d.enc (f x), fun x => d.len _, fun x => d.cell _⟩

theorem all_enc {α : Type} (d : Cd α) (l : List α) : ((l.map d.enc).all fun r => r.length == d.sz) = true := by
  rw [List.all_eq_true]
  intro r hr
  obtain ⟨x, _, rfl⟩ := List.mem_map.1 hr
  simp [d.len]
theorem all_int (k : IntKind) (l : List Int) : ((l.map (Cd.int k).enc).all fun r => r.length == 1) = true := all_enc (Cd.int k) l
theorem all_str (l : List ByteArray) : ((l.map Cd.str.enc).all fun r => r.length == 1) = true := all_enc Cd.str l
theorem int_enc (k : IntKind) (n : Int) : (Cd.int k).enc n = [.int k n] := rfl
theorem str_enc (s : ByteArray) : Cd.str.enc s = [.str s] := rfl
theorem bool_enc (b : Bool) : Cd.bool.enc b = [.bool b] := rfl

/-- What is there. -/
def All (w : World) : Froz := fun b o => (cl w b o).isSome = true

/-- Cells of memory, and the machine's. -/
def KV (w : World) (row : List V) (cs : List Value) : Prop := cs.length = row.length ∧ ∀ (j : Nat) (v : V) (cv : Value), row[j]? = some v → cs[j]? = some cv → Rel (All w) (cl w) none0 v cv

/-- Read as data of the type t: of the kind d, good, and of no more bulk than the data. -/
def Opens {α : Type} (P : Program) (t : TypeId) (d : Cd α) (good : α → Prop) (mes : α → Nat) : Prop :=
  P.cellsOf t = d.sz ∧ ∀ (H : Type) (enc : TypeId × Value → H) (W : World) (fuel : Nat) (cs : List Value) (x : DataW H × List MemPlace),
    DataW.trod enc P W 0 (fun _ => true) true fuel t cs = some x → (∀ n ∈ x.1.weights P t, n ≤ reachBytes) → ∃ a, KV W (d.enc a) cs ∧ good a ∧ mes a ≤ uptoBulk x.1

theorem kv_one {w : World} {v : V} {cv : Value} (h : Rel (All w) (cl w) none0 v cv) : KV w [v] [cv] := ⟨rfl, fun j u cu h1 h2 => by
  cases j with
  | zero => simp at h1 h2; subst h1; subst h2; exact h
  | succ j => simp at h1⟩

theorem opens_int {P : Program} {t : TypeId} {k : IntKind} (hu : P.underlying t = some (.int k)) (hc : P.cellsOf t = 1) : Opens P t (Cd.int k) (fun n => (Lit.int k n).wf = true) (fun _ => 1) := by
  refine ⟨hc, fun H enc W fuel cs x h _ => ?_⟩
  obtain ⟨n, rfl, rfl, hw⟩ := DataW.trod_int hu h
  exact ⟨n, kv_one (.int _ _ _), hw, by simp [uptoBulk]⟩

theorem opens_bool {P : Program} {t : TypeId} (hu : P.underlying t = some .bool) (hc : P.cellsOf t = 1) : Opens P t Cd.bool (fun _ => True) (fun _ => 1) := by
  refine ⟨hc, fun H enc W fuel cs x h _ => ?_⟩
  obtain ⟨b, rfl, rfl⟩ := DataW.trod_bool hu h
  exact ⟨b, kv_one (.bool _ _), trivial, by simp [uptoBulk]⟩

theorem opens_string {P : Program} {t : TypeId} (hu : P.underlying t = some .string) (hc : P.cellsOf t = 1) : Opens P t Cd.str (fun s => s.size ≤ 140737488351232) (fun s => s.size + 1) := by
  refine ⟨hc, fun H enc W fuel cs x h hz => ?_⟩
  obtain ⟨s, rfl, rfl, hs⟩ := DataW.trod_string hu h
  have h1 := hz s.data.toList.length (by simp [DataW.weights])
  refine ⟨s, kv_one (.str _ _), ?_, ?_⟩
  · simpa [reachBytes] using h1
  · simp [uptoBulk]

theorem bulkAll_append {H : Type} : ∀ (a b : List (DataW H)), uptoBulkAll (a ++ b) = uptoBulkAll a + uptoBulkAll b
  | [], b => by simp [uptoBulkAll]
  | x :: a, b => by simp [uptoBulkAll, bulkAll_append a b]; omega

theorem weights_all {H : Type} {P : Program} {e : TypeId} : ∀ {l : List (DataW H)} {d : DataW H}, d ∈ l → ∀ n ∈ d.weights P e, n ∈ DataW.weightsAll P e l
  | x :: l, d, h, n, hn => by
    simp only [DataW.weightsAll, List.mem_append]
    rcases List.mem_cons.1 h with rfl | h
    · exact .inl hn
    · exact .inr (weights_all h n hn)

/-- Element by element. -/
theorem all_open {α : Type} {P : Program} {e : TypeId} {d : Cd α} {good : α → Prop} {mes : α → Nat} (h : Opens P e d good mes) {H : Type} {enc : TypeId × Value → H} {W : World} {n : Nat} :
    ∀ (elems : List (DataW H × List MemPlace)) (cells : Nat → List Value),
      (∀ i y, elems[i]? = some y → DataW.trod enc P W 0 (fun _ => true) true n e (cells i) = some y) →
      (∀ m ∈ DataW.weightsAll P e (elems.map (·.1)), m ≤ reachBytes) →
      ∃ xs : List α, xs.length = elems.length ∧ (∀ i a, xs[i]? = some a → KV W (d.enc a) (cells i)) ∧ (∀ a ∈ xs, good a) ∧ (xs.map mes).sum ≤ uptoBulkAll (elems.map (·.1))
  | [], _, _, _ => ⟨[], rfl, fun i a hi => by simp at hi, fun a ha => by simp at ha, by simp⟩
  | y :: elems, cells, ht, hw => by
    obtain ⟨a, hk, hg, hm⟩ := h.2 H enc W n (cells 0) y (ht 0 y rfl) (fun m hm => hw m (by simp only [List.map_cons, DataW.weightsAll, List.mem_append]; exact .inl hm))
    obtain ⟨xs, hl, hks, hgs, hms⟩ := all_open h elems (fun i => cells (i + 1)) (fun i z hz => ht (i + 1) z hz) (fun m hm => hw m (by simp only [List.map_cons, DataW.weightsAll, List.mem_append]; exact .inr hm))
    refine ⟨a :: xs, by simp [hl], ?_, ?_, ?_⟩
    · intro i b hb
      cases i with
      | zero =>
        have : a = b := by simpa using hb
        subst this
        exact hk
      | succ i => exact hks i b (by simpa using hb)
    · intro b hb
      rcases List.mem_cons.1 hb with rfl | hb
      · exact hg
      · exact hgs b hb
    · simp only [List.map_cons, List.sum_cons, uptoBulkAll]
      omega

theorem cells_at {w : World} {base : Nat} : ∀ {n : Nat} {a : Addr} {c : List Value}, w.cells? base a n = some c → c.length = n ∧ ∀ i u, c[i]? = some u → w.cell? (a.add i) = some u := by
  intro n a c h
  unfold World.cells? at h
  split at h
  · have hl := mapM_some_length h
    refine ⟨by simpa using hl, fun i u hu => ?_⟩
    have hi : i < n := by
      have := (List.getElem?_eq_some_iff.1 hu).1
      simp at hl
      omega
    have hg := mapM_some_get h i i (by simp [hi])
    rw [hu] at hg
    exact hg
  · cases h

theorem opens_slice {α : Type} {P : Program} {t e : TypeId} {d : Cd α} {good : α → Prop} {mes : α → Nat} (hu : P.underlying t = some (.slice e)) (hc : P.cellsOf t = 1) (hsz : d.sz ≠ 0) (h : Opens P e d good mes) :
    Opens P t (Cd.slice d) (fun xs => xs.length * P.bytesOf e ≤ 140737488351232 ∧ ∀ a ∈ xs, good a) (fun xs => (xs.map mes).sum + 1) := by
  refine ⟨hc, fun H enc W fuel cs x ht hz => ?_⟩
  rcases DataW.trod_slice hu ht with ⟨rfl, rfl⟩ | ⟨a, len, cap, elems, rest, n, rfl, rfl, rfl, _, hl, hcap, hlen, he, _, _⟩
  · exact ⟨[], kv_one (.fz0 _ _ _), ⟨by simp, by simp⟩, by simp [uptoBulk]⟩
  · simp only [DataW.weights, hu] at hz
    have hw0 := hz _ (List.mem_cons_self ..)
    have hw1 : ∀ m ∈ DataW.weightsAll P e (elems.map (·.1)), m ≤ reachBytes := fun m hm => hz m (List.mem_cons_of_mem _ (List.mem_append_left _ hm))
    have hex : ∀ i, i < len → ∃ c, W.cells? 0 (a.add (i * P.cellsOf e)) (P.cellsOf e) = some c := by
      intro i hi
      have := he i hi
      rw [List.getElem?_eq_getElem (by omega)] at this
      obtain ⟨c, hc, _⟩ := Option.bind_eq_some_iff.1 this
      exact ⟨c, hc⟩
    obtain ⟨xs, hxl, hxk, hxg, hxm⟩ := all_open h (enc := enc) (W := W) (n := n) elems (fun i => (W.cells? 0 (a.add (i * P.cellsOf e)) (P.cellsOf e)).getD []) (by
      intro i y hy
      have hi : i < len := by
        have := (List.getElem?_eq_some_iff.1 hy).1
        omega
      have hh := he i hi
      rw [hy] at hh
      obtain ⟨c, hc, hr⟩ := Option.bind_eq_some_iff.1 hh
      simp only [hc, Option.getD_some]
      exact hr) hw1
    have hxlen : xs.length = len := by omega
    refine ⟨xs, ?_, ⟨?_, hxg⟩, ?_⟩
    · refine kv_one ?_
      cases hx0 : xs with
      | nil =>
        rw [hx0] at hxlen
        simp only [List.length_nil] at hxlen
        subst hxlen
        exact .fz0 _ _ _
      | cons x0 xr =>
        rw [← hx0]
        have hrel : ∀ (r j : Nat) (row : List V) (v : V), (xs.map d.enc)[r]? = some row → row[j]? = some v → ∃ u, W.cell? (a.add (r * d.sz + j)) = some u ∧ Rel (All W) (cl W) none0 v u := by
          intro r j row v hrow hv
          rw [List.getElem?_map, Option.map_eq_some_iff] at hrow
          obtain ⟨p, hp, rfl⟩ := hrow
          have hj : r < len := by
            have := (List.getElem?_eq_some_iff.1 hp).1
            omega
          obtain ⟨c, hc⟩ := hex r hj
          have hk := hxk r p hp
          simp only [hc, Option.getD_some] at hk
          obtain ⟨hcl, hcc⟩ := cells_at hc
          have hjl : j < c.length := by
            have := (List.getElem?_eq_some_iff.1 hv).1
            rw [hk.1]
            omega
          refine ⟨c[j], ?_, hk.2 j v c[j] hv (by simp [hjl])⟩
          have := hcc j c[j] (by simp [hjl])
          rw [h.1] at this
          rw [← this, Addr.add_add]
        have hlenrow : ∀ row ∈ xs.map d.enc, row.length = d.sz := fun row hm => by
          obtain ⟨p, _, rfl⟩ := List.mem_map.1 hm
          exact d.len p
        · have hspot : a.spot = none := by
            have hlt : 0 < (d.enc x0).length := by rw [d.len]; omega
            obtain ⟨u, hu1, _⟩ := hrel 0 0 (d.enc x0) ((d.enc x0)[0]) (by rw [hx0]; rfl) (by simp [hlt])
            simp only [Nat.zero_mul, Nat.add_zero, Addr.add, if_true] at hu1
            unfold World.cell? at hu1
            split at hu1
            · split at hu1
              · cases hu1
              · rename_i hs
                cases h2 : a.spot with
                | none => rfl
                | some q => simp [h2] at hs
            · cases hu1
          obtain ⟨b, o, sp⟩ := a
          simp only at hspot
          subst hspot
          have hadd : ∀ n, (⟨b, o, none⟩ : Addr).add n = ⟨b, o + n, none⟩ := fun n => by
            unfold Addr.add
            split
            · rename_i e; subst e; rfl
            · rfl
          have hlen2 : len = (xs.map d.enc).length := by simp; omega
          rw [hlen2]
          refine .fz _ (xs.map d.enc) b o d.sz cap (fun r j => (cl W b (o + r * d.sz + j)).getD undef) (by simp; omega) hlenrow (fun row hm v hv => by
            obtain ⟨p, _, rfl⟩ := List.mem_map.1 hm
            exact d.cell p v hv) (fun r j hr hj => ?_) (fun r j row v hrow hv => ?_)
          · have hrow : (xs.map d.enc)[r]? = some ((xs.map d.enc)[r]) := List.getElem?_eq_getElem hr
            have hl2 := hlenrow _ (List.mem_of_getElem? hrow)
            obtain ⟨u, h1, _⟩ := hrel r j _ (((xs.map d.enc)[r])[j]'(by omega)) hrow (List.getElem?_eq_getElem (by omega))
            rw [hadd, ← Nat.add_assoc] at h1
            have h1' : cl W b (o + r * d.sz + j) = some u := h1
            exact ⟨by simp [All, h1'], by rw [h1']; rfl⟩
          · obtain ⟨u, h1, h2⟩ := hrel r j row v hrow hv
            rw [hadd, ← Nat.add_assoc] at h1
            have h1' : cl W b (o + r * d.sz + j) = some u := h1
            rw [h1']
            exact h2
    · rw [hxlen]
      exact Nat.le_trans (Nat.mul_le_mul_right _ (by simp; omega)) hw0
    · simp only [uptoBulk]
      omega

theorem kv_app {w : World} {r r' : List V} {cs : List Value} {n : Nat} (h : KV w r (cs.take n)) (h' : KV w r' (cs.drop n)) : KV w (r ++ r') cs := by
  have h1 := h.1
  have h2 := h'.1
  simp only [List.length_take, List.length_drop] at h1 h2
  refine ⟨by simp; omega, fun j v cv hv hc => ?_⟩
  by_cases hj : j < r.length
  · rw [List.getElem?_append_left hj] at hv
    exact h.2 j v cv hv (by rw [List.getElem?_take, if_pos (by omega)]; exact hc)
  · rw [List.getElem?_append_right (by omega)] at hv
    have hj2 := (List.getElem?_eq_some_iff.1 hv).1
    exact h'.2 (j - r.length) v cv hv (by rw [List.getElem?_drop, ← hc]; congr 1; omega)

/-- The types of fields one behind the other, each where the ones ahead of it end. -/
def offs (P : Program) : Nat → List Field → Bool
  | _, [] => true
  | o, f :: r => f.offset == o && offs P (o + P.cellsOf f.type) r
def cellsAll (P : Program) : List Field → Nat
  | [] => 0
  | f :: r => P.cellsOf f.type + cellsAll P r

/-- Fields in a row. -/
def OpensF {α : Type} (P : Program) (fs : List Field) (d : Cd α) (good : α → Prop) (mes : α → Nat) : Prop :=
  cellsAll P fs = d.sz ∧ ∀ (H : Type) (enc : TypeId × Value → H) (W : World) (fuel : Nat) (cs : List Value) (xs : List (DataW H × List MemPlace)) (o : Nat),
    offs P o fs = true → cs.length = cellsAll P fs → xs.length = fs.length →
    (∀ (i : Nat) (f : Field), fs[i]? = some f → DataW.trod enc P W 0 (fun _ => true) true fuel f.type ((cs.drop (f.offset - o)).take (P.cellsOf f.type)) = xs[i]?) →
    (∀ n ∈ DataW.weightsEach P (fs.map (·.type)) (xs.map (·.1)), n ≤ reachBytes) → ∃ a, KV W (d.enc a) cs ∧ good a ∧ mes a ≤ uptoBulkAll (xs.map (·.1))

theorem offs_le {P : Program} : ∀ {fs : List Field} {o : Nat}, offs P o fs = true → ∀ (i : Nat) (f : Field), fs[i]? = some f → o ≤ f.offset
  | [], _, _, i, f, hf => by simp at hf
  | g :: r, o, h, i, f, hf => by
    simp only [offs, Bool.and_eq_true, beq_iff_eq] at h
    cases i with
    | zero =>
      have : g = f := by simpa using hf
      subst this
      omega
    | succ i =>
      have := offs_le h.2 i f (by simpa using hf)
      omega

theorem opensF_one {α : Type} {P : Program} {f : Field} {d : Cd α} {good : α → Prop} {mes : α → Nat} (h : Opens P f.type d good mes) : OpensF P [f] d good mes := by
  refine ⟨by simp [cellsAll, h.1], fun H enc W fuel cs xs o ho hl hx ht hw => ?_⟩
  obtain ⟨y, rfl⟩ : ∃ y, xs = [y] := by
    match xs, hx with
    | [y], _ => exact ⟨y, rfl⟩
  have h0 := ht 0 f rfl
  simp only [offs, Bool.and_eq_true, beq_iff_eq] at ho
  rw [ho.1, Nat.sub_self, List.drop_zero, List.take_of_length_le (by simp [cellsAll] at hl; omega)] at h0
  obtain ⟨a, hk, hg, hm⟩ := h.2 H enc W fuel cs y h0 (fun n hn => hw n (by simp [DataW.weightsEach]; exact hn))
  exact ⟨a, hk, hg, by simp [uptoBulkAll]; exact hm⟩

theorem opensF_cons {α β : Type} {P : Program} {f : Field} {fs : List Field} {d : Cd α} {d' : Cd β} {good : α → Prop} {good' : β → Prop} {mes : α → Nat} {mes' : β → Nat} (h : Opens P f.type d good mes) (h' : OpensF P fs d' good' mes') :
    OpensF P (f :: fs) (Cd.pair d d') (fun x => good x.1 ∧ good' x.2) (fun x => mes x.1 + mes' x.2) := by
  refine ⟨by simp only [cellsAll, h.1, h'.1]; rfl, fun H enc W fuel cs xs o ho hl hx ht hw => ?_⟩
  obtain ⟨y, ys, rfl⟩ : ∃ y ys, xs = y :: ys := by
    match xs, hx with
    | y :: ys, _ => exact ⟨y, ys, rfl⟩
  simp only [offs, Bool.and_eq_true, beq_iff_eq] at ho
  simp only [cellsAll] at hl
  have h0 := ht 0 f rfl
  rw [ho.1, Nat.sub_self, List.drop_zero] at h0
  obtain ⟨a, hk, hg, hm⟩ := h.2 H enc W fuel _ y h0 (fun n hn => hw n (by simp only [List.map_cons, DataW.weightsEach, List.mem_append]; exact .inl hn))
  obtain ⟨b, hk', hg', hm'⟩ := h'.2 H enc W fuel (cs.drop (P.cellsOf f.type)) ys (o + P.cellsOf f.type) ho.2 (by simp; omega) (by simpa using hx)
    (fun i g hgi => by
      have hle := offs_le ho.2 i g hgi
      have := ht (i + 1) g (by simpa using hgi)
      rw [show g.offset - o = P.cellsOf f.type + (g.offset - (o + P.cellsOf f.type)) by omega, ← List.drop_drop] at this
      simpa using this)
    (fun n hn => hw n (by simp only [List.map_cons, DataW.weightsEach, List.mem_append]; exact .inr hn))
  refine ⟨(a, b), kv_app hk hk', ⟨hg, hg'⟩, ?_⟩
  simp only [List.map_cons, uptoBulkAll]
  omega

theorem opens_struct {α β : Type} {P : Program} {t : TypeId} {fs : Array Field} {d : Cd α} {good : α → Prop} {mes : α → Nat} (f : β → α) (g : α → β) (hfg : ∀ a, f (g a) = a) (hu : P.underlying t = some (.struct fs)) (hc : P.cellsOf t = d.sz) (ho : offs P 0 fs.toList = true)
    (h : OpensF P fs.toList d good mes) : Opens P t (Cd.iso d f) (fun b => good (f b)) (fun b => mes (f b)) := by
  refine ⟨hc, fun H enc W fuel cs x ht hz => ?_⟩
  obtain ⟨xs, n, rfl, rfl, hl, hx, hi⟩ := DataW.trod_struct hu ht
  simp only [DataW.weights, hu] at hz
  obtain ⟨a, hk, hg, hm⟩ := h.2 H enc W n cs xs 0 ho (by rw [hl, hc, h.1]) (by simpa using hx) (fun i fd hfd => by
    have := hi i fd (by simpa using hfd)
    simpa using this) hz
  refine ⟨g a, ?_, ?_, ?_⟩
  · show KV W (d.enc (f (g a))) cs
    rw [hfg]
    exact hk
  · show good (f (g a))
    rw [hfg]
    exact hg
  · show mes (f (g a)) ≤ _
    rw [hfg]
    simp only [uptoBulk]
    omega

/-- What is told of a type by another number of it. -/
theorem opens_imp {α : Type} {P : Program} {t : TypeId} {d : Cd α} {good good' : α → Prop} {mes mes' : α → Nat} (h : Opens P t d good mes) (hg : ∀ a, good a → good' a) (hm : ∀ a, mes' a ≤ mes a) : Opens P t d good' mes' :=
  ⟨h.1, fun H enc W fuel cs x ht hz => by
    obtain ⟨a, hk, hga, hma⟩ := h.2 H enc W fuel cs x ht hz
    exact ⟨a, hk, hg a hga, Nat.le_trans (hm a) hma⟩⟩

/-- One argument of a row. -/
theorem arg_opens {α : Type} {P : Program} {t : TypeId} {d : Cd α} {good : α → Prop} {mes : α → Nat} (h : Opens P t d good mes) {H : Type} {enc : TypeId × Value → H} {W : World} {v : Value} {dat : DataW H} {ps : List MemPlace} (ht : DataW.Trod enc P W 0 (fun _ => true) true t v dat ps)
    {ts : List TypeId} {ds : List (DataW H)} (hsz : (DataW.weightsEach P ts ds).all (· ≤ reachBytes) = true) {j : Nat} (hj : ts[j]? = some t) (hd : ds[j]? = some dat) : ∃ a, KV W (d.enc a) v.cells.toList ∧ good a ∧ mes a ≤ uptoBulk dat := by
  obtain ⟨fuel, hf⟩ := ht
  exact h.2 H enc W fuel _ (dat, ps) hf (fun n hn => by
    have := List.all_eq_true.1 hsz n (DataW.weights_mem_each hj hd n hn)
    simpa using this)

theorem agg_of_struct {P : Program} {t : TypeId} {fs : Array Field} {W : World} {base : Nat} {v : Value} (hu : P.underlying t = some (.struct fs)) (h : Value.okWide P W .any base t v) : ∃ cs, v = .agg cs := by
  unfold Value.okWide at h
  rw [hu] at h
  obtain ⟨cs, rfl, _⟩ := h
  exact ⟨cs, rfl⟩
open Go.ChangeShapes Go.WideShapes in
theorem int_of {P : Program} {H : Type} {enc : TypeId × Value → H} {W : World} {base : Nat} {t : TypeId} {k : IntKind} {v : Value} {d : DataW H} {p : List MemPlace} (hu : P.underlying t = some (.int k)) (hv : Value.okWide P W .any base t v) (h : DataW.Trod enc P W 0 (fun _ => true) true t v d p) : ∃ x, v = .int k x := by
  obtain ⟨x, rfl, _⟩ := open_int hu hv h
  exact ⟨x, rfl⟩
open Go.ChangeShapes Go.WideShapes in
theorem bool_of {P : Program} {H : Type} {enc : TypeId × Value → H} {W : World} {base : Nat} {t : TypeId} {v : Value} {d : DataW H} {p : List MemPlace} (hu : P.underlying t = some .bool) (hv : Value.okWide P W .any base t v) (h : DataW.Trod enc P W 0 (fun _ => true) true t v d p) : ∃ x, v = .bool x := by
  obtain ⟨x, rfl, _⟩ := open_bool hu hv h
  exact ⟨x, rfl⟩
open Go.ChangeShapes Go.WideShapes Go.ChangeMaps in
theorem string_of {P : Program} {H : Type} {enc : TypeId × Value → H} {W : World} {base : Nat} {t : TypeId} {v : Value} {d : DataW H} {p : List MemPlace} (hu : P.underlying t = some .string) (hv : Value.okWide P W .any base t v) (h : DataW.Trod enc P W 0 (fun _ => true) true t v d p) : ∃ x, v = .string x := by
  obtain ⟨x, rfl, _⟩ := open_string hu hv h
  exact ⟨x, rfl⟩
theorem kv_rel {w : World} {v : V} {cv : Value} (h : KV w [v] [cv]) : Rel (All w) (cl w) none0 v cv := h.2 0 v cv rfl rfl
theorem kv_agg {w : World} {row : List V} {cs : Array Value} (h : KV w row cs.toList) : Rel (All w) (cl w) none0 (.agg row) (.agg cs) :=
  .agg _ _ _ (by simpa using h.1) fun j v hv => by
    have hlt := (List.getElem?_eq_some_iff.1 hv).1
    have hs : cs.size = row.length := by simpa using h.1
    rw [Array.getD_eq_getD_getElem?, Array.getElem?_eq_getElem (by omega)]
    exact h.2 j v _ hv (by simp [Array.getElem?_eq_getElem, hs, hlt])

theorem relAll0 {F : Froz} {c : Nat → Nat → Option Value} {β : Place} : RelAll F c β [] #[] := ⟨rfl, by simp⟩
theorem relAll_cons {F : Froz} {c : Nat → Nat → Option Value} {β : Place} {v : V} {cv : Value} {vs : List V} {cvs : List Value} (h : Rel F c β v cv) (hs : RelAll F c β vs cvs.toArray) : RelAll F c β (v :: vs) (cv :: cvs).toArray :=
  ⟨by simpa using hs.size, fun j u hu => by
    cases j with
    | zero => simp at hu; subst hu; simpa [Array.getD] using h
    | succ j =>
      have := hs.at_ j u (by simpa using hu)
      rw [Array.getD_eq_getD_getElem?] at this ⊢
      simpa using this⟩

theorem inv0 (W : World) : Inv ⟨W, KOf none0 W, All W⟩ none0 (All W) [] W := by
  refine { os := rfl, tape := rfl, output := rfl, size := Nat.le_refl _, keep := fun _ _ => rfl, kin := fun _ h => h.1, inj := ?_, fresh := ?_, obs := ?_, froz := ?_, prot := ?_ }
  · intro i j oi oj l l' b h; simp [Heap.at?] at h
  · intro i l b h; simp [none0] at h
  · intro i o h; simp [Heap.at?] at h
  rotate_left
  · intro i b st C st' rows frz pure h; simp [none0] at h
  intro b o h
  refine ⟨?_, fun _ => h⟩
  unfold All cl World.cell? at h
  cases hb : W.heap[b]? with
  | none => simp [hb] at h
  | some x => exact (Array.getElem?_eq_some_iff.1 hb).1

/-- What the machine answers is what the call comes to; nothing that was there has turned. -/
theorem law_ok {P : Program} {g : FuncId} {fn : Fun} (hf : FunOK P g fn) {args : List V} {cargs : Array Value} {W : World} {b : Bool} {h : Heap} (heq : fn args [] = some (.bool b, h)) (hargs : RelAll (All W) (cl W) none0 args cargs) :
    Calls P g cargs W fun e W' => e = .returned (.bool b) ∧ Below W.heap.size W W' := by
  refine (hf args [] _ _ heq none0 (All W) W cargs (inv0 W) (fun _ _ => rfl) hargs).mono ?_
  rintro e w' ⟨cv, β', F', rfl, hp⟩
  have hr := hp.rel
  cases hr
  exact ⟨rfl, hp.inv.os, hp.inv.tape, hp.inv.output, hp.inv.size, fun k hk => hp.inv.keep k ⟨hk, fun i l h => by simp [none0] at h⟩⟩
end Go.Proofs.Ytfdemnefkfkghaa.R
/- The kinds of the laws' arguments: what they read as, as Lean values and as the machine's. -/
namespace Go.Proofs.Ytfdemnefkfkghaa.R
open Go Go.RowKit Go.Proofs
def g42 (x : Int) : Prop := (Lit.int .u32 x).wf = true
def m42 (_ : Int) : Nat := 1
theorem o42 : Opens Try.prog 42 (Cd.int .u32) g42 m42 := opens_int Try.underlying42 (by kernel_rfl)
def g4 (_ : Bool) : Prop := True
def m4 (_ : Bool) : Nat := 1
theorem o4 : Opens Try.prog 4 Cd.bool g4 m4 := opens_bool Try.underlying4 (by kernel_rfl)
def g9 (s : ByteArray) : Prop := s.size ≤ 140737488351232
def m9 (s : ByteArray) : Nat := s.size + 1
theorem o9 : Opens Try.prog 9 Cd.str g9 m9 := opens_string Try.underlying9 (by kernel_rfl)
structure S145 where
  f0 : ByteArray
  f1 : ByteArray
deriving DecidableEq
def k145 : Cd S145 := Cd.iso (Cd.pair Cd.str Cd.str) (fun x : S145 => (x.f0, x.f1))
theorem k145_enc (x : S145) : k145.enc x = [.str x.f0, .str x.f1] := rfl
theorem all145 (l : List S145) : ((l.map k145.enc).all fun r => r.length == 2) = true := all_enc k145 l
def g145 (x : S145) : Prop := g9 x.f0 ∧ g9 x.f1
def m145 (x : S145) : Nat := m9 x.f0 + m9 x.f1
theorem o145 : Opens Try.prog 145 k145 g145 m145 :=
  opens_imp (opens_struct (fun x : S145 => (x.f0, x.f1)) (fun x => ⟨x.1, x.2⟩) (fun _ => rfl) Try.underlying145 (by kernel_rfl) (by kernel_rfl) (opensF_cons o9 (opensF_one o9))) (fun _ h => h) (fun x => by simp only [m145]; omega)
def g51 (xs : List S145) : Prop := xs.length * 32 ≤ 140737488351232 ∧ ∀ a ∈ xs, g145 a
def m51 (xs : List S145) : Nat := (xs.map m145).sum + 1
theorem b51 : Try.prog.bytesOf 145 = 32 := by kernel_rfl
theorem o51 : Opens Try.prog 51 (Cd.slice k145) g51 m51 := by
  refine opens_imp (opens_slice Try.underlying51 (by kernel_rfl) (by decide) o145) (fun a h => ?_) (fun a => Nat.le_refl _)
  rw [b51] at h
  exact h
def g69 (xs : List ByteArray) : Prop := xs.length * 16 ≤ 140737488351232 ∧ ∀ a ∈ xs, g9 a
def m69 (xs : List ByteArray) : Nat := (xs.map m9).sum + 1
theorem b69 : Try.prog.bytesOf 9 = 16 := by kernel_rfl
theorem o69 : Opens Try.prog 69 (Cd.slice Cd.str) g69 m69 := by
  refine opens_imp (opens_slice Try.underlying69 (by kernel_rfl) (by decide) o9) (fun a h => ?_) (fun a => Nat.le_refl _)
  rw [b69] at h
  exact h
def g96 (x : Int) : Prop := (Lit.int .u16 x).wf = true
def m96 (_ : Int) : Nat := 1
theorem o96 : Opens Try.prog 96 (Cd.int .u16) g96 m96 := opens_int Try.underlying96 (by kernel_rfl)
structure S98 where
  f0 : ByteArray
  f1 : ByteArray
deriving DecidableEq
def k98 : Cd S98 := Cd.iso (Cd.pair Cd.str Cd.str) (fun x : S98 => (x.f0, x.f1))
theorem k98_enc (x : S98) : k98.enc x = [.str x.f0, .str x.f1] := rfl
theorem all98 (l : List S98) : ((l.map k98.enc).all fun r => r.length == 2) = true := all_enc k98 l
def g98 (x : S98) : Prop := g9 x.f0 ∧ g9 x.f1
def m98 (x : S98) : Nat := m9 x.f0 + m9 x.f1
theorem o98 : Opens Try.prog 98 k98 g98 m98 :=
  opens_imp (opens_struct (fun x : S98 => (x.f0, x.f1)) (fun x => ⟨x.1, x.2⟩) (fun _ => rfl) Try.underlying98 (by kernel_rfl) (by kernel_rfl) (opensF_cons o9 (opensF_one o9))) (fun _ h => h) (fun x => by simp only [m98]; omega)
structure S100 where
  f0 : Int
  f1 : Int
  f2 : S98
deriving DecidableEq
def k100 : Cd S100 := Cd.iso (Cd.pair (Cd.int .u32) (Cd.pair (Cd.int .u16) k98)) (fun x : S100 => (x.f0, x.f1, x.f2))
theorem k100_enc (x : S100) : k100.enc x = [.int .u32 x.f0, .int .u16 x.f1, .str x.f2.f0, .str x.f2.f1] := rfl
theorem all100 (l : List S100) : ((l.map k100.enc).all fun r => r.length == 4) = true := all_enc k100 l
def g100 (x : S100) : Prop := g42 x.f0 ∧ g96 x.f1 ∧ g98 x.f2
def m100 (x : S100) : Nat := m42 x.f0 + m96 x.f1 + m98 x.f2
theorem o100 : Opens Try.prog 100 k100 g100 m100 :=
  opens_imp (opens_struct (fun x : S100 => (x.f0, x.f1, x.f2)) (fun x => ⟨x.1, x.2.1, x.2.2⟩) (fun _ => rfl) Try.underlying100 (by kernel_rfl) (by kernel_rfl) (opensF_cons o42 (opensF_cons o96 (opensF_one o98)))) (fun _ h => h) (fun x => by simp only [m100]; omega)
def g90 (xs : List S100) : Prop := xs.length * 40 ≤ 140737488351232 ∧ ∀ a ∈ xs, g100 a
def m90 (xs : List S100) : Nat := (xs.map m100).sum + 1
theorem b90 : Try.prog.bytesOf 100 = 40 := by kernel_rfl
theorem o90 : Opens Try.prog 90 (Cd.slice k100) g90 m90 := by
  refine opens_imp (opens_slice Try.underlying90 (by kernel_rfl) (by decide) o100) (fun a h => ?_) (fun a => Nat.le_refl _)
  rw [b90] at h
  exact h
def g5 (x : Int) : Prop := (Lit.int .u8 x).wf = true
def m5 (_ : Int) : Nat := 1
theorem o5 : Opens Try.prog 5 (Cd.int .u8) g5 m5 := opens_int Try.underlying5 (by kernel_rfl)
structure S121 where
  f0 : Int
  f1 : ByteArray
  f2 : ByteArray
  f3 : Int
  f4 : Int
  f5 : ByteArray
deriving DecidableEq
def k121 : Cd S121 := Cd.iso (Cd.pair (Cd.int .u8) (Cd.pair Cd.str (Cd.pair Cd.str (Cd.pair (Cd.int .u32) (Cd.pair (Cd.int .u16) Cd.str))))) (fun x : S121 => (x.f0, x.f1, x.f2, x.f3, x.f4, x.f5))
theorem k121_enc (x : S121) : k121.enc x = [.int .u8 x.f0, .str x.f1, .str x.f2, .int .u32 x.f3, .int .u16 x.f4, .str x.f5] := rfl
theorem all121 (l : List S121) : ((l.map k121.enc).all fun r => r.length == 6) = true := all_enc k121 l
def g121 (x : S121) : Prop := g5 x.f0 ∧ g9 x.f1 ∧ g9 x.f2 ∧ g42 x.f3 ∧ g96 x.f4 ∧ g9 x.f5
def m121 (x : S121) : Nat := m5 x.f0 + m9 x.f1 + m9 x.f2 + m42 x.f3 + m96 x.f4 + m9 x.f5
theorem o121 : Opens Try.prog 121 k121 g121 m121 :=
  opens_imp (opens_struct (fun x : S121 => (x.f0, x.f1, x.f2, x.f3, x.f4, x.f5)) (fun x => ⟨x.1, x.2.1, x.2.2.1, x.2.2.2.1, x.2.2.2.2.1, x.2.2.2.2.2⟩) (fun _ => rfl) Try.underlying121 (by kernel_rfl) (by kernel_rfl) (opensF_cons o5 (opensF_cons o9 (opensF_cons o9 (opensF_cons o42 (opensF_cons o96 (opensF_one o9))))))) (fun _ h => h) (fun x => by simp only [m121]; omega)
def g91 (xs : List S121) : Prop := xs.length * 64 ≤ 140737488351232 ∧ ∀ a ∈ xs, g121 a
def m91 (xs : List S121) : Nat := (xs.map m121).sum + 1
theorem b91 : Try.prog.bytesOf 121 = 64 := by kernel_rfl
theorem o91 : Opens Try.prog 91 (Cd.slice k121) g91 m91 := by
  refine opens_imp (opens_slice Try.underlying91 (by kernel_rfl) (by decide) o121) (fun a h => ?_) (fun a => Nat.le_refl _)
  rw [b91] at h
  exact h
structure S93 where
  f0 : Bool
  f1 : (List S145)
  f2 : (List ByteArray)
  f3 : (List S100)
  f4 : (List S121)
deriving DecidableEq
def k93 : Cd S93 := Cd.iso (Cd.pair Cd.bool (Cd.pair (Cd.slice k145) (Cd.pair (Cd.slice Cd.str) (Cd.pair (Cd.slice k100) (Cd.slice k121))))) (fun x : S93 => (x.f0, x.f1, x.f2, x.f3, x.f4))
theorem k93_enc (x : S93) : k93.enc x = [.bool x.f0, .fz (x.f1.map k145.enc), .fz (x.f2.map Cd.str.enc), .fz (x.f3.map k100.enc), .fz (x.f4.map k121.enc)] := rfl
theorem all93 (l : List S93) : ((l.map k93.enc).all fun r => r.length == 5) = true := all_enc k93 l
def g93 (x : S93) : Prop := g4 x.f0 ∧ g51 x.f1 ∧ g69 x.f2 ∧ g90 x.f3 ∧ g91 x.f4
def m93 (x : S93) : Nat := m4 x.f0 + m51 x.f1 + m69 x.f2 + m90 x.f3 + m91 x.f4
theorem o93 : Opens Try.prog 93 k93 g93 m93 :=
  opens_imp (opens_struct (fun x : S93 => (x.f0, x.f1, x.f2, x.f3, x.f4)) (fun x => ⟨x.1, x.2.1, x.2.2.1, x.2.2.2.1, x.2.2.2.2⟩) (fun _ => rfl) Try.underlying93 (by kernel_rfl) (by kernel_rfl) (opensF_cons o4 (opensF_cons o51 (opensF_cons o69 (opensF_cons o90 (opensF_one o91)))))) (fun _ h => h) (fun x => by simp only [m93]; omega)
structure S95 where
  f0 : Int
  f1 : S93
deriving DecidableEq
def k95 : Cd S95 := Cd.iso (Cd.pair (Cd.int .u32) k93) (fun x : S95 => (x.f0, x.f1))
theorem k95_enc (x : S95) : k95.enc x = [.int .u32 x.f0, .bool x.f1.f0, .fz (x.f1.f1.map k145.enc), .fz (x.f1.f2.map Cd.str.enc), .fz (x.f1.f3.map k100.enc), .fz (x.f1.f4.map k121.enc)] := rfl
theorem all95 (l : List S95) : ((l.map k95.enc).all fun r => r.length == 6) = true := all_enc k95 l
def g95 (x : S95) : Prop := g42 x.f0 ∧ g93 x.f1
def m95 (x : S95) : Nat := m42 x.f0 + m93 x.f1
theorem o95 : Opens Try.prog 95 k95 g95 m95 :=
  opens_imp (opens_struct (fun x : S95 => (x.f0, x.f1)) (fun x => ⟨x.1, x.2⟩) (fun _ => rfl) Try.underlying95 (by kernel_rfl) (by kernel_rfl) (opensF_cons o42 (opensF_one o93))) (fun _ h => h) (fun x => by simp only [m95]; omega)
def g22 (xs : List S95) : Prop := xs.length * 112 ≤ 140737488351232 ∧ ∀ a ∈ xs, g95 a
def m22 (xs : List S95) : Nat := (xs.map m95).sum + 1
theorem b22 : Try.prog.bytesOf 95 = 112 := by kernel_rfl
theorem o22 : Opens Try.prog 22 (Cd.slice k95) g22 m22 := by
  refine opens_imp (opens_slice Try.underlying22 (by kernel_rfl) (by decide) o95) (fun a h => ?_) (fun a => Nat.le_refl _)
  rw [b22] at h
  exact h
def g76 (xs : List Int) : Prop := xs.length * 4 ≤ 140737488351232 ∧ ∀ a ∈ xs, g42 a
def m76 (xs : List Int) : Nat := (xs.map m42).sum + 1
theorem b76 : Try.prog.bytesOf 42 = 4 := by kernel_rfl
theorem o76 : Opens Try.prog 76 (Cd.slice (Cd.int .u32)) g76 m76 := by
  refine opens_imp (opens_slice Try.underlying76 (by kernel_rfl) (by decide) o42) (fun a h => ?_) (fun a => Nat.le_refl _)
  rw [b76] at h
  exact h
structure S184 where
  f0 : Int
  f1 : Int
deriving DecidableEq
def k184 : Cd S184 := Cd.iso (Cd.pair (Cd.int .u32) (Cd.int .u32)) (fun x : S184 => (x.f0, x.f1))
theorem k184_enc (x : S184) : k184.enc x = [.int .u32 x.f0, .int .u32 x.f1] := rfl
theorem all184 (l : List S184) : ((l.map k184.enc).all fun r => r.length == 2) = true := all_enc k184 l
def g184 (x : S184) : Prop := g42 x.f0 ∧ g42 x.f1
def m184 (x : S184) : Nat := m42 x.f0 + m42 x.f1
theorem o184 : Opens Try.prog 184 k184 g184 m184 :=
  opens_imp (opens_struct (fun x : S184 => (x.f0, x.f1)) (fun x => ⟨x.1, x.2⟩) (fun _ => rfl) Try.underlying184 (by kernel_rfl) (by kernel_rfl) (opensF_cons o42 (opensF_one o42))) (fun _ h => h) (fun x => by simp only [m184]; omega)
def g77 (xs : List S184) : Prop := xs.length * 8 ≤ 140737488351232 ∧ ∀ a ∈ xs, g184 a
def m77 (xs : List S184) : Nat := (xs.map m184).sum + 1
theorem b77 : Try.prog.bytesOf 184 = 8 := by kernel_rfl
theorem o77 : Opens Try.prog 77 (Cd.slice k184) g77 m77 := by
  refine opens_imp (opens_slice Try.underlying77 (by kernel_rfl) (by decide) o184) (fun a h => ?_) (fun a => Nat.le_refl _)
  rw [b77] at h
  exact h
structure S179 where
  f0 : ByteArray
  f1 : Int
  f2 : Int
deriving DecidableEq
def k179 : Cd S179 := Cd.iso (Cd.pair Cd.str (Cd.pair (Cd.int .u32) (Cd.int .u16))) (fun x : S179 => (x.f0, x.f1, x.f2))
theorem k179_enc (x : S179) : k179.enc x = [.str x.f0, .int .u32 x.f1, .int .u16 x.f2] := rfl
theorem all179 (l : List S179) : ((l.map k179.enc).all fun r => r.length == 3) = true := all_enc k179 l
def g179 (x : S179) : Prop := g9 x.f0 ∧ g42 x.f1 ∧ g96 x.f2
def m179 (x : S179) : Nat := m9 x.f0 + m42 x.f1 + m96 x.f2
theorem o179 : Opens Try.prog 179 k179 g179 m179 :=
  opens_imp (opens_struct (fun x : S179 => (x.f0, x.f1, x.f2)) (fun x => ⟨x.1, x.2.1, x.2.2⟩) (fun _ => rfl) Try.underlying179 (by kernel_rfl) (by kernel_rfl) (opensF_cons o9 (opensF_cons o42 (opensF_one o96)))) (fun _ h => h) (fun x => by simp only [m179]; omega)
def g78 (xs : List S179) : Prop := xs.length * 24 ≤ 140737488351232 ∧ ∀ a ∈ xs, g179 a
def m78 (xs : List S179) : Nat := (xs.map m179).sum + 1
theorem b78 : Try.prog.bytesOf 179 = 24 := by kernel_rfl
theorem o78 : Opens Try.prog 78 (Cd.slice k179) g78 m78 := by
  refine opens_imp (opens_slice Try.underlying78 (by kernel_rfl) (by decide) o179) (fun a h => ?_) (fun a => Nat.le_refl _)
  rw [b78] at h
  exact h
structure S80 where
  f0 : (List Int)
  f1 : (List S184)
  f2 : (List S179)
deriving DecidableEq
def k80 : Cd S80 := Cd.iso (Cd.pair (Cd.slice (Cd.int .u32)) (Cd.pair (Cd.slice k184) (Cd.slice k179))) (fun x : S80 => (x.f0, x.f1, x.f2))
theorem k80_enc (x : S80) : k80.enc x = [.fz (x.f0.map (Cd.int .u32).enc), .fz (x.f1.map k184.enc), .fz (x.f2.map k179.enc)] := rfl
theorem all80 (l : List S80) : ((l.map k80.enc).all fun r => r.length == 3) = true := all_enc k80 l
def g80 (x : S80) : Prop := g76 x.f0 ∧ g77 x.f1 ∧ g78 x.f2
def m80 (x : S80) : Nat := m76 x.f0 + m77 x.f1 + m78 x.f2
theorem o80 : Opens Try.prog 80 k80 g80 m80 :=
  opens_imp (opens_struct (fun x : S80 => (x.f0, x.f1, x.f2)) (fun x => ⟨x.1, x.2.1, x.2.2⟩) (fun _ => rfl) Try.underlying80 (by kernel_rfl) (by kernel_rfl) (opensF_cons o76 (opensF_cons o77 (opensF_one o78)))) (fun _ h => h) (fun x => by simp only [m80]; omega)
end Go.Proofs.Ytfdemnefkfkghaa.R
/- No bounds any more: what a function answers once the bounds on rounds and depth are great enough. -/
namespace Go.Proofs.Ytfdemnefkfkghaa.R
set_option linter.unusedVariables false
set_option linter.unusedSimpArgs false
open Go

section
variable {α : Type}

/-- What becomes of a slice hangs on nothing that comes behind it. -/
def MsLeaf (H : Heap) (ms : Nat → Nat → Nat → Nat → (V → Upd → Rd α) → Rd α) : Prop := ∀ (i st o n : Nat) (l : List Nat), (∀ k : V → Upd → Rd α, (ms i st o n k).run H l = none) ∨ ∃ x' u l1, ∀ k : V → Upd → Rd α, (ms i st o n k).run H l = (k x' u).run H l1
mutual
theorem frzG_leaf (H : Heap) {ms : Nat → Nat → Nat → Nat → (V → Upd → Rd α) → Rd α} (hms : MsLeaf H ms) : ∀ (x : V) (l : List Nat), (∀ k : V → Upd → Rd α, (frzG ms x k).run H l = none) ∨ ∃ x' u l1, ∀ k : V → Upd → Rd α, (frzG ms x k).run H l = (k x' u).run H l1
  | .ms i st o n c, l => by
    simp only [frzG]
    exact hms i st o n l
  | .nils, l => .inr ⟨_, _, _, fun k => by simp only [frzG]; rfl⟩
  | .agg cs, l => by
    rcases frzGAll_leaf H hms cs l with h | ⟨x', u, l1, h⟩
    · exact .inl fun k => by simp only [frzG]; exact h _
    · exact .inr ⟨.agg x', u, l1, fun k => by simp only [frzG]; exact h _⟩
  | .tup cs, l => by
    rcases frzGAll_leaf H hms cs l with h | ⟨x', u, l1, h⟩
    · exact .inl fun k => by simp only [frzG]; exact h _
    · exact .inr ⟨.tup x', u, l1, fun k => by simp only [frzG]; exact h _⟩
  | .undef, l | .bool _, l | .int _ _, l | .str _, l | .fz _, l | .nilp, l | .ptr _ _ _, l | .el _ _, l | .nilm, l | .map _, l | .nilf, l | .clo _ _, l | .nili, l | .ifc _ _, l => .inr ⟨_, _, _, fun k => by simp only [frzG]; rfl⟩
theorem frzGAll_leaf (H : Heap) {ms : Nat → Nat → Nat → Nat → (V → Upd → Rd α) → Rd α} (hms : MsLeaf H ms) : ∀ (xs : List V) (l : List Nat), (∀ k : List V → Upd → Rd α, (frzGAll ms xs k).run H l = none) ∨ ∃ x' u l1, ∀ k : List V → Upd → Rd α, (frzGAll ms xs k).run H l = (k x' u).run H l1
  | [], l => .inr ⟨_, _, _, fun k => by simp only [frzGAll]; rfl⟩
  | x :: r, l => by
    rcases frzG_leaf H hms x l with h | ⟨x', u, l1, h⟩
    · exact .inl fun k => by simp only [frzGAll]; exact h _
    · rcases frzGAll_leaf H hms r l1 with h2 | ⟨r', u', l2, h2⟩
      · exact .inl fun k => by simp only [frzGAll]; rw [h]; exact h2 _
      · exact .inr ⟨x' :: r', u ++ u', l2, fun k => by simp only [frzGAll]; rw [h]; exact h2 _⟩
end
theorem frzGRows_leaf (H : Heap) {ms : Nat → Nat → Nat → Nat → (V → Upd → Rd α) → Rd α} (hms : MsLeaf H ms) : ∀ (xs : List (List V)) (l : List Nat), (∀ k : List (List V) → Upd → Rd α, (frzGRows ms xs k).run H l = none) ∨ ∃ x' u l1, ∀ k : List (List V) → Upd → Rd α, (frzGRows ms xs k).run H l = (k x' u).run H l1
  | [], l => .inr ⟨_, _, _, fun k => by simp only [frzGRows]; rfl⟩
  | x :: r, l => by
    rcases frzGAll_leaf H hms x l with h | ⟨x', u, l1, h⟩
    · exact .inl fun k => by simp only [frzGRows]; exact h _
    · rcases frzGRows_leaf H hms r l1 with h2 | ⟨r', u', l2, h2⟩
      · exact .inl fun k => by simp only [frzGRows]; rw [h]; exact h2 _
      · exact .inr ⟨x' :: r', u ++ u', l2, fun k => by simp only [frzGRows]; rw [h]; exact h2 _⟩
theorem msUp_leaf (H : Heap) {ms : Nat → Nat → Nat → Nat → (V → Upd → Rd α) → Rd α} (hms : MsLeaf H ms) : MsLeaf H (msUp ms) := fun i st o n l => by
  cases h : H.at? i with
  | none => exact .inl fun k => by simp [msUp, Rd.run, h]
  | some ob =>
    cases ob with
    | mp es p => exact .inl fun k => by simp [msUp, Rd.run, h]
    | buf st' rows f p =>
      cases p with
      | false =>
        by_cases hc : st' = st ∧ o + n ≤ rows.length
        · rcases frzGRows_leaf H hms rows (i :: l) with h2 | ⟨rows', u, l1, h2⟩
          · exact .inl fun k => by simp only [msUp, Rd.run, h, if_pos hc]; exact h2 _
          · by_cases ha : (rows'.all fun r => r.all fun v => v.isCell && !v.hasIds) = true
            · exact .inr ⟨_, _, _, fun k => by simp only [msUp, Rd.run, h, if_pos hc]; rw [h2, if_pos ha]⟩
            · exact .inl fun k => by simp only [msUp, Rd.run, h, if_pos hc]; rw [h2, if_neg ha]; rfl
        · exact .inl fun k => by simp [msUp, Rd.run, h, if_neg hc]
      | true =>
        by_cases hc : st' = st ∧ o + n ≤ rows.length
        · exact .inr ⟨_, _, _, fun k => by simp only [msUp, Rd.run, h, if_pos hc]; rfl⟩
        · exact .inl fun k => by simp [msUp, Rd.run, h, if_neg hc]
theorem ms2_leaf (H : Heap) : MsLeaf (α := α) H ms2 := msUp_leaf H (msUp_leaf H (msUp_leaf H fun _ _ _ _ _ => .inl fun _ => rfl))
theorem frz_leaf (H : Heap) (x : V) (l : List Nat) : (∀ k : V → Upd → Rd α, (frz x k).run H l = none) ∨ ∃ x' u l1, ∀ k : V → Upd → Rd α, (frz x k).run H l = (k x' u).run H l1 := frzG_leaf H (ms2_leaf H) x l

theorem frzArgs_leaf (H : Heap) : ∀ (xs : List V) (m : List Bool) (l : List Nat), (∀ k : List V → Upd → Rd α, (frzArgs xs m k).run H l = none) ∨ ∃ x' u l1, ∀ k : List V → Upd → Rd α, (frzArgs xs m k).run H l = (k x' u).run H l1
  | [], m, l => .inr ⟨_, _, _, fun k => by simp only [frzArgs]; rfl⟩
  | x :: r, m, l => by
    have keep : ∀ m', (∀ k : List V → Upd → Rd α, (frzArgs (x :: r) m k) = frzArgs r m' fun r u' => k (x :: r) u') → (∀ k : List V → Upd → Rd α, (frzArgs (x :: r) m k).run H l = none) ∨ ∃ x' u l1, ∀ k : List V → Upd → Rd α, (frzArgs (x :: r) m k).run H l = (k x' u).run H l1 := by
      intro m' hm
      rcases frzArgs_leaf H r m' l with h2 | ⟨r', u', l2, h2⟩
      · exact .inl fun k => by rw [hm]; exact h2 _
      · exact .inr ⟨x :: r', u', l2, fun k => by rw [hm]; exact h2 _⟩
    cases m with
    | nil => exact keep (List.tail []) fun k => by simp only [frzArgs]
    | cons b m =>
      cases b with
      | false => exact keep (List.tail (false :: m)) fun k => by simp only [frzArgs]
      | true =>
        rcases frz_leaf H x l with h | ⟨x', u, l1, h⟩
        · exact .inl fun k => by simp only [frzArgs]; exact h _
        · rcases frzArgs_leaf H r m l1 with h2 | ⟨r', u', l2, h2⟩
          · exact .inl fun k => by simp only [frzArgs]; rw [h]; exact h2 _
          · exact .inr ⟨x' :: r', u ++ u', l2, fun k => by simp only [frzArgs]; rw [h]; exact h2 _⟩

theorem collect_leaf (H : Heap) : ∀ (n : Nat) (todo : List Nat) (acc : List (Nat × Ob)) (l : List Nat), (∀ k : List (Nat × Ob) → Rd α, (collect n todo acc k).run H l = none) ∨ ∃ obs l1, ∀ k : List (Nat × Ob) → Rd α, (collect n todo acc k).run H l = (k obs).run H l1
  | 0, todo, acc, l => .inl fun k => by simp [collect, Rd.run]
  | n + 1, [], acc, l => .inr ⟨acc, l, fun k => by simp only [collect]⟩
  | n + 1, i :: todo, acc, l => by
    by_cases hc : (acc.map (·.1)).contains i = true
    · rcases collect_leaf H n todo acc l with h | ⟨obs, l1, h⟩
      · exact .inl fun k => by simp only [collect, if_pos hc]; exact h _
      · exact .inr ⟨obs, l1, fun k => by simp only [collect, if_pos hc]; exact h _⟩
    · cases ho : H.at? i with
      | none => exact .inl fun k => by simp [collect, if_neg hc, Rd.run, ho]
      | some o =>
        rcases collect_leaf H n (o.ids ++ todo) (acc ++ [(i, o)]) (i :: l) with h | ⟨obs, l1, h⟩
        · exact .inl fun k => by simp only [collect, if_neg hc, Rd.run, ho]; exact h _
        · exact .inr ⟨obs, l1, fun k => by simp only [collect, if_neg hc, Rd.run, ho]; exact h _⟩
end

/-- A call's answer hangs on what the function answers at one place. -/
theorem with_leaf (H : Heap) (n : Nat) (args : List V) (u : Upd) (obs : List (Nat × Ob)) (l : List Nat) : (∀ fn : Fun, (withR fn n args u obs).run H l = none) ∨ ∃ a hs, ∃ K : V × Heap → Option ((V × Upd) × List Nat), ∀ fn : Fun, (withR fn n args u obs).run H l = (fn a hs).bind K := by
  unfold withR
  simp only
  split
  · split
    · rename_i a hs _ _
      refine .inr ⟨a, hs, fun r => (if (obs.map (·.1)).length ≤ r.2.length then afterR n (obs.map (·.1)) u r.1 r.2 else .fail).run H l, fun fn => ?_⟩
      cases fn a hs with
      | none => rfl
      | some r => rfl
    · exact .inl fun _ => rfl
  · exact .inl fun _ => rfl

theorem callR_leaf (H : Heap) (pfz : List Bool) (n : Nat) (args : List V) (l : List Nat) : (∀ fn : Fun, (callR fn pfz n args).run H l = none) ∨ ∃ a hs, ∃ K : V × Heap → Option ((V × Upd) × List Nat), ∀ fn : Fun, (callR fn pfz n args).run H l = (fn a hs).bind K := by
  unfold callR
  rcases frzArgs_leaf (α := V × Upd) H args pfz l with h | ⟨a1, u, l1, h⟩
  · exact .inl fun fn => h _
  · rcases collect_leaf (α := V × Upd) H 4096 (V.allIds a1) [] l1 with h2 | ⟨obs, l2, h2⟩
    · exact .inl fun fn => by rw [h]; exact h2 _
    · rcases with_leaf H n a1 u obs l2 with h3 | ⟨a, hs, K, h3⟩
      · exact .inl fun fn => by rw [h, h2]; exact h3 fn
      · exact .inr ⟨a, hs, K, fun fn => by rw [h, h2]; exact h3 fn⟩

section
variable (T : TT) (fns : FuncId → Option AFn)

theorem aop_leaf (H : Heap) (n : Nat) (e : Env) (o : Oper) (l : List Nat) : (∃ r, ∀ call, (aop { T, fns, call } n e o).run H l = r) ∨ ∃ g a hs, ∃ K : V × Heap → Option ((V × Upd) × List Nat), ∀ call : FuncId → Fun, (aop { T, fns, call } n e o).run H l = (call g a hs).bind K := by
  have one : ∀ {x : Option ((V × Upd) × List Nat)}, (∀ call, (aop { T, fns, call } n e o).run H l = x) → (∃ r, ∀ call, (aop { T, fns, call } n e o).run H l = r) ∨ ∃ g a hs, ∃ K : V × Heap → Option ((V × Upd) × List Nat), ∀ call : FuncId → Fun, (aop { T, fns, call } n e o).run H l = (call g a hs).bind K := fun h => .inl ⟨_, h⟩
  let w : Option ((V × Upd) × List Nat) := (aop { T, fns, call := fun _ _ _ => none } n e o).run H l
  obtain ⟨dst, op, ty, pos, after, guard⟩ := o
  cases op with
  | call c =>
    obtain ⟨callee, ars, ats⟩ := c
    cases callee with
    | builtin b => exact one (x := w) fun call => rfl
    | value f =>
      show (∃ r, ∀ call, (callV { T, fns, call } n (ev e f) (evs e ars.toList)).run H l = r) ∨ ∃ g a hs, ∃ K : V × Heap → Option ((V × Upd) × List Nat), ∀ call : FuncId → Fun, (callV { T, fns, call } n (ev e f) (evs e ars.toList)).run H l = (call g a hs).bind K
      unfold callV
      cases ev e f with
      | clo g caps =>
        simp only
        cases fns g with
        | none => exact .inl ⟨none, fun call => rfl⟩
        | some fn =>
          simp only
          rcases callR_leaf H fn.pfz n (evs e ars.toList ++ caps) l with h | ⟨a, hs, K, h⟩
          · exact .inl ⟨none, fun call => h _⟩
          · exact .inr ⟨g, a, hs, K, fun call => h _⟩
      | _ => exact .inl ⟨none, fun call => rfl⟩
    | invoke _ _ => exact one (x := w) fun call => rfl
  | makeFunc f first caps => cases f <;> exact one (x := w) fun call => rfl
  | makeMap t x => cases x <;> exact one (x := w) fun call => rfl
  | _ => exact one (x := w) fun call => rfl

/-- Bounds great enough. -/
def Evt (g : FuncId) (a : List V) (h : List Ob) (r : V × Heap) : Prop := ∃ i, ∀ R d, i ≤ R → i ≤ d → acall T fns R d g a h = some r

open Classical in
/-- What a function answers, whatever the bounds, once they are great enough. -/
noncomputable def lim : FuncId → Fun := fun g a h => if hx : ∃ r, Evt T fns g a h r then some hx.choose else none

theorem lim_evt {g : FuncId} {a : List V} {h : List Ob} {r : V × Heap} (hl : lim T fns g a h = some r) : Evt T fns g a h r := by
  unfold lim at hl
  split at hl
  · rename_i hx
    cases hl
    exact hx.choose_spec
  · cases hl

theorem lim_of {g : FuncId} {a : List V} {h : List Ob} {r : V × Heap} (he : Evt T fns g a h r) : lim T fns g a h = some r := by
  unfold lim
  have hx : ∃ r, Evt T fns g a h r := ⟨r, he⟩
  rw [dif_pos hx]
  obtain ⟨i, hi⟩ := he
  obtain ⟨j, hj⟩ := hx.choose_spec
  have h1 := hi (max i j) (max i j) (by omega) (by omega)
  have h2 := hj (max i j) (max i j) (by omega) (by omega)
  rw [h1] at h2
  exact h2.symm

/-- The machine without bounds on depth. -/
noncomputable abbrev LX : Cx := { T, fns, call := lim T fns }
abbrev AX (R d : Nat) : Cx := { T, fns, call := acall T fns R d }

theorem aop_lim {H : Heap} {n : Nat} {e : Env} {o : Oper} {l : List Nat} {r : (V × Upd) × List Nat} (h : (aop (LX T fns) n e o).run H l = some r) : ∃ i, ∀ R d, i ≤ R → i ≤ d → (aop (AX T fns R d) n e o).run H l = some r := by
  rcases aop_leaf T fns H n e o l with ⟨x, hx⟩ | ⟨g, a, hs, K, hx⟩
  · exact ⟨0, fun R d _ _ => by rw [hx] at h ⊢; exact h⟩
  · rw [hx, Option.bind_eq_some_iff] at h
    obtain ⟨p, h1, h2⟩ := h
    obtain ⟨i, hi⟩ := lim_evt T fns h1
    exact ⟨i, fun R d hR hd => by rw [hx]; simp only [hi R d hR hd]; exact h2⟩

theorem ops_lim {ntmps : Nat} {ops : Array Oper} : ∀ {rest : List Oper} {s s' : St}, runOps (LX T fns) ntmps ops rest s = some s' → ∃ i, ∀ R d, i ≤ R → i ≤ d → runOps (AX T fns R d) ntmps ops rest s = some s'
  | [], s, s', h => ⟨0, fun R d _ _ => h⟩
  | o :: r, s, s', h => by
    simp only [runOps] at h ⊢
    split at h
    · cases h
    · simp only [Option.bind_eq_some_iff] at h ⊢
      obtain ⟨e, h1, h2⟩ := h
      obtain ⟨i, hi⟩ := ops_lim h2
      exact ⟨i, fun R d hR hd => ⟨e, h1, hi R d hR hd⟩⟩
    · split at h
      · cases h
      · rename_i v u l hrun
        simp only [Option.bind_eq_some_iff] at h
        obtain ⟨e, h1, h2⟩ := h
        obtain ⟨i, hi⟩ := aop_lim T fns hrun
        obtain ⟨j, hj⟩ := ops_lim h2
        exact ⟨max i j, fun R d hR hd => by
          rw [hi R d (by omega) (by omega)]
          simp only [Option.bind_eq_some_iff]
          exact ⟨e, h1, hj R d (by omega) (by omega)⟩⟩

theorem draw_lim {ntmps : Nat} {ops : Array Oper} {bef : Array Nat} : ∀ {rest : List Oper} {j : Nat} {s s' : St} {done : List Did}, runDraw (LX T fns) ntmps ops bef rest j s done = some s' → ∃ i, ∀ R d, i ≤ R → i ≤ d → runDraw (AX T fns R d) ntmps ops bef rest j s done = some s'
  | [], j, s, s', done, h => ⟨0, fun R d _ _ => h⟩
  | o :: r, j, s, s', done, h => by
    simp only [runDraw] at h ⊢
    split at h
    · cases h
    · simp only [Option.bind_eq_some_iff] at h ⊢
      obtain ⟨e, h1, h2⟩ := h
      obtain ⟨i, hi⟩ := draw_lim h2
      exact ⟨i, fun R d hR hd => ⟨e, h1, hi R d hR hd⟩⟩
    · split at h
      · cases h
      · rename_i v u l hrun
        split at h
        · rename_i hap
          simp only [Option.bind_eq_some_iff] at h
          obtain ⟨e, h1, h2⟩ := h
          obtain ⟨i, hi⟩ := aop_lim T fns hrun
          obtain ⟨k, hk⟩ := draw_lim h2
          exact ⟨max i k, fun R d hR hd => by
            rw [hi R d (by omega) (by omega)]
            simp only [if_pos hap, Option.bind_eq_some_iff]
            exact ⟨e, h1, hk R d (by omega) (by omega)⟩⟩
        · cases h

theorem iops_lim {cb : CB} {cbs : Nat → Nat → CB} (hcb : ∀ args h x, cb args h = some x → ∃ i, ∀ R d, i ≤ R → i ≤ d → cbs R d args h = some x) {nt : Nat} {ops : Array Oper} : ∀ {rest : List Oper} {s s' : ISt}, iOps (LX T fns) nt cb ops rest s = some s' → ∃ i, ∀ R d, i ≤ R → i ≤ d → iOps (AX T fns R d) nt (cbs R d) ops rest s = some s'
  | [], s, s', h => ⟨0, fun R d _ _ => h⟩
  | o :: r, s, s', h => by
    simp only [iOps] at h ⊢
    cases hw : wants ops s.env o with
    | none => simp [hw] at h
    | some b =>
      cases b with
      | false =>
        simp only [hw, Option.bind_eq_some_iff] at h ⊢
        obtain ⟨e, h1, h2⟩ := h
        obtain ⟨i, hi⟩ := iops_lim hcb h2
        exact ⟨i, fun R d hR hd => ⟨e, h1, hi R d hR hd⟩⟩
      | true =>
        simp only [hw] at h ⊢
        cases hy : yArgs o s.y with
        | some ars =>
          simp only [hy] at h ⊢
          cases hst : s.stop with
          | some x => simp [hst] at h
          | none =>
            simp only [hst] at h ⊢
            cases hcbr : cb (evs s.env ars) s.heap with
            | none => simp [hcbr] at h
            | some x =>
              obtain ⟨st, h'⟩ := x
              simp only [hcbr, Option.bind_eq_some_iff] at h
              obtain ⟨e, h1, h2⟩ := h
              obtain ⟨i, hi⟩ := hcb _ _ _ hcbr
              obtain ⟨j, hj⟩ := iops_lim hcb h2
              refine ⟨max i j, fun R d hR hd => ?_⟩
              simp only [hi R d (by omega) (by omega), Option.bind_eq_some_iff]
              exact ⟨e, h1, hj R d (by omega) (by omega)⟩
        | none =>
          simp only [hy] at h ⊢
          cases hrun : (aop (LX T fns) s.heap.length s.env o).run s.heap [] with
          | none => simp [hrun] at h
          | some x =>
            obtain ⟨⟨v, u⟩, l⟩ := x
            simp only [hrun, Option.bind_eq_some_iff] at h
            obtain ⟨e, h1, h2⟩ := h
            obtain ⟨i, hi⟩ := aop_lim T fns hrun
            obtain ⟨j, hj⟩ := iops_lim hcb h2
            refine ⟨max i j, fun R d hR hd => ?_⟩
            simp only [hi R d (by omega) (by omega), Option.bind_eq_some_iff]
            exact ⟨e, h1, hj R d (by omega) (by omega)⟩

theorem icode_lim {cb : CB} {cbs : Nat → Nat → CB} (hcb : ∀ args h x, cb args h = some x → ∃ i, ∀ R d, i ≤ R → i ≤ d → cbs R d args h = some x) {ntmps keep : Nat} {gcs : List AGc} {R0 : Nat} : ∀ {c : Code} {id : Option Nat} {s : ISt} {r : Ex × ISt}, icode (LX T fns) ntmps keep R0 gcs cb c id s = some r → ∃ i, ∀ R d, i ≤ R → i ≤ d → icode (AX T fns R d) ntmps keep R gcs (cbs R d) c id s = some r
  | .skip, id, s, r, h => ⟨0, fun R d _ _ => h⟩
  | .region rid ops draw, id, s, r, h => by
    simp only [icode] at h ⊢
    cases draw with
    | false =>
      simp only [Bool.false_eq_true, if_false, Option.map_eq_some_iff] at h ⊢
      obtain ⟨s1, h1, h2⟩ := h
      obtain ⟨i, hi⟩ := iops_lim T fns hcb h1
      exact ⟨i, fun R d hR hd => ⟨s1, hi R d hR hd, h2⟩⟩
    | true =>
      simp only [if_true] at h ⊢
      split at h
      · rename_i hall
        simp only [if_pos hall]
        simp only [Option.map_eq_some_iff] at h ⊢
        obtain ⟨s1, h1, h2⟩ := h
        obtain ⟨i, hi⟩ := draw_lim T fns h1
        exact ⟨i, fun R d hR hd => ⟨s1, hi R d hR hd, h2⟩⟩
      · cases h
  | .seq x y, id, s, r, h => by
    simp only [icode, Option.bind_eq_some_iff] at h ⊢
    obtain ⟨⟨ex, s1⟩, h1, h2⟩ := h
    obtain ⟨i, hi⟩ := icode_lim hcb h1
    cases ex with
    | normal =>
      obtain ⟨j, hj⟩ := icode_lim hcb h2
      exact ⟨max i j, fun R d hR hd => ⟨_, hi R d (by omega) (by omega), hj R d (by omega) (by omega)⟩⟩
    | exit k => exact ⟨i, fun R d hR hd => ⟨_, hi R d hR hd, h2⟩⟩
    | ret => exact ⟨i, fun R d hR hd => ⟨_, hi R d hR hd, h2⟩⟩
  | .cond c x y, id, s, r, h => by
    simp only [icode] at h ⊢
    split at h
    · exact icode_lim hcb h
    · exact icode_lim hcb h
    · cases h
  | .block b c, id, s, r, h => by
    simp only [icode, Option.map_eq_some_iff] at h ⊢
    obtain ⟨r1, h1, h2⟩ := h
    obtain ⟨i, hi⟩ := icode_lim hcb h1
    exact ⟨i, fun R d hR hd => ⟨r1, hi R d hR hd, h2⟩⟩
  | .loop c, id, s, r, h => by
    simp only [icode] at h ⊢
    have key : ∀ (n : Nat) (s : ISt), iRounds (fun s => (head keep (gcOf gcs id) { env := s.env, heap := s.heap }).bind fun t => icode (LX T fns) ntmps keep R0 gcs cb c none { env := t.env, heap := t.heap, y := yHead (gcOf gcs id) s.y, stop := s.stop }) n s = some r →
        ∃ i, ∀ R d m, i ≤ R → i ≤ d → n ≤ m → iRounds (fun s => (head keep (gcOf gcs id) { env := s.env, heap := s.heap }).bind fun t => icode (AX T fns R d) ntmps keep R gcs (cbs R d) c none { env := t.env, heap := t.heap, y := yHead (gcOf gcs id) s.y, stop := s.stop }) m s = some r := by
      intro n
      induction n with
      | zero => intro s h; simp [iRounds] at h
      | succ n ih =>
        intro s h
        unfold iRounds at h
        cases hb : (head keep (gcOf gcs id) { env := s.env, heap := s.heap }).bind fun t => icode (LX T fns) ntmps keep R0 gcs cb c none { env := t.env, heap := t.heap, y := yHead (gcOf gcs id) s.y, stop := s.stop } with
        | none => simp [hb] at h
        | some r1 =>
          simp only [hb] at h
          rw [Option.bind_eq_some_iff] at hb
          obtain ⟨s0, h1, h2⟩ := hb
          obtain ⟨i, hi⟩ := icode_lim hcb h2
          have hb2 : ∀ R d, i ≤ R → i ≤ d → ((head keep (gcOf gcs id) { env := s.env, heap := s.heap }).bind fun t => icode (AX T fns R d) ntmps keep R gcs (cbs R d) c none { env := t.env, heap := t.heap, y := yHead (gcOf gcs id) s.y, stop := s.stop }) = some r1 := fun R d hR hd => by
            rw [Option.bind_eq_some_iff]
            exact ⟨s0, h1, hi R d hR hd⟩
          obtain ⟨ex, s1⟩ := r1
          cases ex with
          | normal =>
            obtain ⟨j, hj⟩ := ih s1 h
            refine ⟨max i j, fun R d m hR hd hm => ?_⟩
            obtain ⟨m, rfl⟩ : ∃ m', m = m' + 1 := ⟨m - 1, by omega⟩
            unfold iRounds
            simp only [hb2 R d (by omega) (by omega)]
            exact hj R d m (by omega) (by omega) (by omega)
          | exit k =>
            refine ⟨i, fun R d m hR hd hm => ?_⟩
            obtain ⟨m, rfl⟩ : ∃ m', m = m' + 1 := ⟨m - 1, by omega⟩
            unfold iRounds
            simp only [hb2 R d (by omega) (by omega)]
            exact h
          | ret =>
            refine ⟨i, fun R d m hR hd hm => ?_⟩
            obtain ⟨m, rfl⟩ : ∃ m', m = m' + 1 := ⟨m - 1, by omega⟩
            unfold iRounds
            simp only [hb2 R d (by omega) (by omega)]
            exact h
    obtain ⟨i, hi⟩ := key R0 s h
    exact ⟨max i R0, fun R d hR hd => hi R d R (by omega) (by omega) (by omega)⟩
  | .exit i, id, s, r, h => ⟨0, fun R d _ _ => h⟩
  | .ret, id, s, r, h => ⟨0, fun R d _ _ => h⟩
  | .rangeFunc .., id, s, r, h | .scope .., id, s, r, h | .label .., id, s, r, h | .goto .., id, s, r, h | .refuse .., id, s, r, h => by simp [icode] at h

theorem code_lim {ntmps : Nat} {gcs : List AGc} {R0 : Nat} : ∀ {c : Code} {keep : Nat} {id : Option Nat} {s : St} {r : Ex × St}, acode (LX T fns) ntmps keep R0 gcs c id s = some r → ∃ i, ∀ R d, i ≤ R → i ≤ d → acode (AX T fns R d) ntmps keep R gcs c id s = some r
  | .skip, keep, id, s, r, h => ⟨0, fun R d _ _ => h⟩
  | .region rid ops draw, keep, id, s, r, h => by
    simp only [acode, aregion, Option.map_eq_some_iff] at h ⊢
    obtain ⟨s1, h1, h2⟩ := h
    cases draw with
    | false =>
      simp only [Bool.false_eq_true, if_false] at h1 ⊢
      obtain ⟨i, hi⟩ := ops_lim T fns h1
      exact ⟨i, fun R d hR hd => ⟨s1, hi R d hR hd, h2⟩⟩
    | true =>
      simp only [if_true] at h1 ⊢
      obtain ⟨i, hi⟩ := draw_lim T fns h1
      exact ⟨i, fun R d hR hd => ⟨s1, hi R d hR hd, h2⟩⟩
  | .seq x y, keep, id, s, r, h => by
    simp only [acode, Option.bind_eq_some_iff] at h ⊢
    obtain ⟨⟨ex, s1⟩, h1, h2⟩ := h
    obtain ⟨i, hi⟩ := code_lim h1
    cases ex with
    | normal =>
      obtain ⟨j, hj⟩ := code_lim h2
      exact ⟨max i j, fun R d hR hd => ⟨_, hi R d (by omega) (by omega), hj R d (by omega) (by omega)⟩⟩
    | exit k => exact ⟨i, fun R d hR hd => ⟨_, hi R d hR hd, h2⟩⟩
    | ret => exact ⟨i, fun R d hR hd => ⟨_, hi R d hR hd, h2⟩⟩
  | .cond c x y, keep, id, s, r, h => by
    simp only [acode] at h ⊢
    split at h
    · exact code_lim h
    · exact code_lim h
    · cases h
  | .block b c, keep, id, s, r, h => by
    simp only [acode, Option.map_eq_some_iff] at h ⊢
    obtain ⟨r1, h1, h2⟩ := h
    obtain ⟨i, hi⟩ := code_lim h1
    exact ⟨i, fun R d hR hd => ⟨r1, hi R d hR hd, h2⟩⟩
  | .loop c, keep, id, s, r, h => by
    simp only [acode] at h ⊢
    have key : ∀ (n : Nat) (s : St), rounds (fun s => (head keep (gcOf gcs id) s).bind fun s => acode (LX T fns) ntmps keep R0 gcs c none s) n s = some r →
        ∃ i, ∀ R d m, i ≤ R → i ≤ d → n ≤ m → rounds (fun s => (head keep (gcOf gcs id) s).bind fun s => acode (AX T fns R d) ntmps keep R gcs c none s) m s = some r := by
      intro n
      induction n with
      | zero => intro s h; simp [rounds] at h
      | succ n ih =>
        intro s h
        unfold rounds at h
        cases hb : (head keep (gcOf gcs id) s).bind fun s => acode (LX T fns) ntmps keep R0 gcs c none s with
        | none => simp [hb] at h
        | some r1 =>
          simp only [hb] at h
          rw [Option.bind_eq_some_iff] at hb
          obtain ⟨s0, h1, h2⟩ := hb
          obtain ⟨i, hi⟩ := code_lim h2
          have hb2 : ∀ R d, i ≤ R → i ≤ d → ((head keep (gcOf gcs id) s).bind fun s => acode (AX T fns R d) ntmps keep R gcs c none s) = some r1 := fun R d hR hd => by
            rw [Option.bind_eq_some_iff]
            exact ⟨s0, h1, hi R d hR hd⟩
          obtain ⟨ex, s1⟩ := r1
          cases ex with
          | normal =>
            obtain ⟨j, hj⟩ := ih s1 h
            refine ⟨max i j, fun R d m hR hd hm => ?_⟩
            obtain ⟨m, rfl⟩ : ∃ m', m = m' + 1 := ⟨m - 1, by omega⟩
            unfold rounds
            simp only [hb2 R d (by omega) (by omega)]
            exact hj R d m (by omega) (by omega) (by omega)
          | exit k =>
            refine ⟨i, fun R d m hR hd hm => ?_⟩
            obtain ⟨m, rfl⟩ : ∃ m', m = m' + 1 := ⟨m - 1, by omega⟩
            unfold rounds
            simp only [hb2 R d (by omega) (by omega)]
            exact h
          | ret =>
            refine ⟨i, fun R d m hR hd hm => ?_⟩
            obtain ⟨m, rfl⟩ : ∃ m', m = m' + 1 := ⟨m - 1, by omega⟩
            unfold rounds
            simp only [hb2 R d (by omega) (by omega)]
            exact h
    obtain ⟨i, hi⟩ := key R0 s h
    exact ⟨max i R0, fun R d hR hd => hi R d R (by omega) (by omega) (by omega)⟩
  | .exit i, keep, id, s, r, h => ⟨0, fun R d _ _ => h⟩
  | .ret, keep, id, s, r, h => ⟨0, fun R d _ _ => h⟩
  | .rangeFunc g ps assign body, keep, id, s, r, h => by
    simp only [acode] at h ⊢
    cases hev : ev s.env g with
    | clo gf caps =>
      simp only [hev] at h ⊢
      cases hf : fns gf with
      | none => simp [hf] at h
      | some fn =>
        simp only [hf] at h ⊢
        split at h
        · cases h
        · rename_i hno
          simp only [if_neg hno]
          rw [Option.bind_eq_some_iff] at h
          obtain ⟨x, h1, h2⟩ := h
          obtain ⟨i, hi⟩ := icode_lim T fns (cbs := fun R d => roundOf ntmps ps.toList s.env (fun k s1 => acode (AX T fns R d) ntmps k R gcs assign none s1) (fun k s1 => acode (AX T fns R d) ntmps k R gcs body none s1)) (fun args h0 y hy => by
            unfold roundOf at hy ⊢
            split at hy
            · rename_i hl
              simp only [if_pos hl]
              cases ha : acode (LX T fns) ntmps h0.length R0 gcs assign none { env := bindPs ps.toList args s.env, heap := h0 } with
              | none => simp [ha] at hy
              | some z =>
                obtain ⟨ex, s1⟩ := z
                obtain ⟨i, hi⟩ := code_lim ha
                cases ex with
                | normal =>
                  simp only [ha, Option.map_eq_some_iff] at hy
                  obtain ⟨z, hz1, hz2⟩ := hy
                  obtain ⟨j, hj⟩ := code_lim hz1
                  refine ⟨max i j, fun R d hR hd => ?_⟩
                  simp only [hi R d (by omega) (by omega), Option.map_eq_some_iff]
                  exact ⟨z, hj R d (by omega) (by omega), hz2⟩
                | exit k => simp [ha] at hy
                | ret => simp [ha] at hy
            · cases hy) h1
          exact ⟨i, fun R d hR hd => by
            rw [Option.bind_eq_some_iff]
            exact ⟨x, hi R d hR hd, h2⟩⟩
    | _ => simp [hev] at h
  | .scope .., keep, id, s, r, h | .label .., keep, id, s, r, h | .goto .., keep, id, s, r, h | .refuse .., keep, id, s, r, h => by simp [acode] at h

/-- A function's answer out of its body's run. -/
theorem lim_run {g : FuncId} {fn : AFn} (hfn : fns g = some fn) (hi : fn.intr = none) {R0 : Nat} {args : List V} {hs : List Ob} {r : V × Heap} (h : runFn (LX T fns) fn R0 args hs = some r) : lim T fns g args hs = some r := by
  refine lim_of T fns ?_
  unfold runFn at h
  split at h
  · cases h
  · rename_i hl
    rw [Option.bind_eq_some_iff] at h
    obtain ⟨x, h1, h2⟩ := h
    obtain ⟨i, hi'⟩ := code_lim T fns h1
    refine ⟨i + 1, fun R d hR hd => ?_⟩
    obtain ⟨d, rfl⟩ : ∃ d', d = d' + 1 := ⟨d - 1, by omega⟩
    simp only [acall, hfn, hi]
    unfold runFn
    rw [if_neg hl, Option.bind_eq_some_iff]
    exact ⟨x, hi' R d (by omega) (by omega), h2⟩

theorem lim_clone {g : FuncId} {fn : AFn} (hfn : fns g = some fn) {st bytes : Nat} (hi : fn.intr = some (st, bytes)) {args : List V} {hs : List Ob} {r : V × Heap} (h : cloneFn st bytes args hs = some r) : lim T fns g args hs = some r := by
  refine lim_of T fns ⟨1, fun R d hR hd => ?_⟩
  obtain ⟨d, rfl⟩ : ∃ d', d = d' + 1 := ⟨d - 1, by omega⟩
  simp only [acall, hfn, hi]
  exact h

theorem lim_ok {P : Program} (h : ∀ R d g, FunOK P g (acall T fns R d g)) (g : FuncId) : FunOK P g (lim T fns g) := fun args hs r hp heq => by
  obtain ⟨i, hi⟩ := lim_evt T fns heq
  exact h i i g args hs r hp (hi i i (Nat.le_refl _) (Nat.le_refl _))
end

end Go.Proofs.Ytfdemnefkfkghaa.R
/- More calls answered, more rounds: nothing that was answered is answered otherwise. -/
namespace Go.Proofs.Ytfdemnefkfkghaa.R
set_option linter.unusedVariables false
set_option linter.unusedSimpArgs false
open Go

theorem rounds_mono {b b' : St → Option (Ex × St)} (hb : ∀ s r, b s = some r → b' s = some r) : ∀ {n m : Nat} {s : St} {r : Ex × St}, n ≤ m → rounds b n s = some r → rounds b' m s = some r
  | 0, m, s, r, _, h => by simp [rounds] at h
  | n + 1, m, s, r, hm, h => by
    obtain ⟨m, rfl⟩ : ∃ m', m = m' + 1 := ⟨m - 1, by omega⟩
    unfold rounds at h ⊢
    cases h1 : b s with
    | none => simp [h1] at h
    | some x =>
      simp only [h1] at h
      simp only [hb s x h1]
      obtain ⟨ex, s1⟩ := x
      cases ex with
      | normal => exact rounds_mono hb (by omega) h
      | exit i => exact h
      | ret => exact h

theorem iRounds_mono {b b' : ISt → Option (Ex × ISt)} (hb : ∀ s r, b s = some r → b' s = some r) : ∀ {n m : Nat} {s : ISt} {r : Ex × ISt}, n ≤ m → iRounds b n s = some r → iRounds b' m s = some r
  | 0, m, s, r, _, h => by simp [iRounds] at h
  | n + 1, m, s, r, hm, h => by
    obtain ⟨m, rfl⟩ : ∃ m', m = m' + 1 := ⟨m - 1, by omega⟩
    unfold iRounds at h ⊢
    cases h1 : b s with
    | none => simp [h1] at h
    | some x =>
      simp only [h1] at h
      simp only [hb s x h1]
      obtain ⟨ex, s1⟩ := x
      cases ex with
      | normal => exact iRounds_mono hb (by omega) h
      | exit i => exact h
      | ret => exact h

section
variable (T : TT) (fns : FuncId → Option AFn) {c c' : FuncId → Fun} (hc : ∀ g a h r, c g a h = some r → c' g a h = some r)
include hc

theorem aop_imp {H : Heap} {n : Nat} {e : Env} {o : Oper} {l : List Nat} {r : (V × Upd) × List Nat} (h : (aop { T, fns, call := c } n e o).run H l = some r) : (aop { T, fns, call := c' } n e o).run H l = some r := by
  rcases aop_leaf T fns H n e o l with ⟨x, hx⟩ | ⟨g, a, hs, K, hx⟩
  · rw [hx] at h ⊢
    exact h
  · rw [hx, Option.bind_eq_some_iff] at h
    obtain ⟨p, h1, h2⟩ := h
    rw [hx, hc _ _ _ _ h1]
    exact h2

theorem ops_imp {ntmps : Nat} {ops : Array Oper} : ∀ {rest : List Oper} {s s' : St}, runOps { T, fns, call := c } ntmps ops rest s = some s' → runOps { T, fns, call := c' } ntmps ops rest s = some s'
  | [], s, s', h => h
  | o :: r, s, s', h => by
    simp only [runOps] at h ⊢
    split at h
    · cases h
    · simp only [Option.bind_eq_some_iff] at h ⊢
      obtain ⟨e, h1, h2⟩ := h
      exact ⟨e, h1, ops_imp h2⟩
    · split at h
      · cases h
      · rename_i v u l hrun
        simp only [Option.bind_eq_some_iff] at h
        obtain ⟨e, h1, h2⟩ := h
        rw [aop_imp T fns hc hrun]
        simp only [Option.bind_eq_some_iff]
        exact ⟨e, h1, ops_imp h2⟩

theorem draw_imp {ntmps : Nat} {ops : Array Oper} {bef : Array Nat} : ∀ {rest : List Oper} {j : Nat} {s s' : St} {done : List Did}, runDraw { T, fns, call := c } ntmps ops bef rest j s done = some s' → runDraw { T, fns, call := c' } ntmps ops bef rest j s done = some s'
  | [], j, s, s', done, h => h
  | o :: r, j, s, s', done, h => by
    simp only [runDraw] at h ⊢
    split at h
    · cases h
    · simp only [Option.bind_eq_some_iff] at h ⊢
      obtain ⟨e, h1, h2⟩ := h
      exact ⟨e, h1, draw_imp h2⟩
    · split at h
      · cases h
      · rename_i v u l hrun
        split at h
        · rename_i hap
          simp only [Option.bind_eq_some_iff] at h
          obtain ⟨e, h1, h2⟩ := h
          rw [aop_imp T fns hc hrun]
          simp only [if_pos hap, Option.bind_eq_some_iff]
          exact ⟨e, h1, draw_imp h2⟩
        · cases h

theorem iops_le {cb cb' : CB} (hcb : ∀ args h x, cb args h = some x → cb' args h = some x) {nt : Nat} {ops : Array Oper} : ∀ {rest : List Oper} {s s' : ISt}, iOps { T, fns, call := c } nt cb ops rest s = some s' → iOps { T, fns, call := c' } nt cb' ops rest s = some s'
  | [], s, s', h => h
  | o :: r, s, s', h => by
    simp only [iOps] at h ⊢
    cases hw : wants ops s.env o with
    | none => simp [hw] at h
    | some b =>
      cases b with
      | false =>
        simp only [hw, Option.bind_eq_some_iff] at h ⊢
        obtain ⟨e, h1, h2⟩ := h
        exact ⟨e, h1, iops_le hcb h2⟩
      | true =>
        simp only [hw] at h ⊢
        cases hy : yArgs o s.y with
        | some ars =>
          simp only [hy] at h ⊢
          cases hst : s.stop with
          | some x => simp [hst] at h
          | none =>
            simp only [hst] at h ⊢
            cases hcbr : cb (evs s.env ars) s.heap with
            | none => simp [hcbr] at h
            | some x =>
              obtain ⟨st, h'⟩ := x
              simp only [hcbr, hcb _ _ _ hcbr, Option.bind_eq_some_iff] at h ⊢
              obtain ⟨e, h1, h2⟩ := h
              exact ⟨e, h1, iops_le hcb h2⟩
        | none =>
          simp only [hy] at h ⊢
          cases hrun : (aop { T, fns, call := c } s.heap.length s.env o).run s.heap [] with
          | none => simp [hrun] at h
          | some x =>
            obtain ⟨⟨v, u⟩, l⟩ := x
            simp only [hrun, aop_imp T fns hc hrun, Option.bind_eq_some_iff] at h ⊢
            obtain ⟨e, h1, h2⟩ := h
            exact ⟨e, h1, iops_le hcb h2⟩

theorem icode_le {cb cb' : CB} (hcb : ∀ args h x, cb args h = some x → cb' args h = some x) {nt keep : Nat} {gcs : List AGc} {R R' : Nat} (hR : R ≤ R') : ∀ {k : Code} {id : Option Nat} {s : ISt} {r : Ex × ISt}, icode { T, fns, call := c } nt keep R gcs cb k id s = some r → icode { T, fns, call := c' } nt keep R' gcs cb' k id s = some r
  | .skip, id, s, r, h => h
  | .region rid ops draw, id, s, r, h => by
    simp only [icode] at h ⊢
    cases draw with
    | false =>
      simp only [Bool.false_eq_true, if_false, Option.map_eq_some_iff] at h ⊢
      obtain ⟨s1, h1, h2⟩ := h
      exact ⟨s1, iops_le T fns hc hcb h1, h2⟩
    | true =>
      simp only [if_true] at h ⊢
      split at h
      · rename_i hall
        rw [if_pos hall]
        simp only [Option.map_eq_some_iff] at h ⊢
        obtain ⟨s1, h1, h2⟩ := h
        exact ⟨s1, draw_imp T fns hc h1, h2⟩
      · cases h
  | .seq x y, id, s, r, h => by
    simp only [icode, Option.bind_eq_some_iff] at h ⊢
    obtain ⟨⟨ex, s1⟩, h1, h2⟩ := h
    cases ex with
    | normal => exact ⟨_, icode_le hcb hR h1, icode_le hcb hR h2⟩
    | exit k => exact ⟨_, icode_le hcb hR h1, h2⟩
    | ret => exact ⟨_, icode_le hcb hR h1, h2⟩
  | .cond x a b, id, s, r, h => by
    simp only [icode] at h ⊢
    split at h
    · exact icode_le hcb hR h
    · exact icode_le hcb hR h
    · cases h
  | .block b x, id, s, r, h => by
    simp only [icode, Option.map_eq_some_iff] at h ⊢
    obtain ⟨r1, h1, h2⟩ := h
    exact ⟨r1, icode_le hcb hR h1, h2⟩
  | .loop x, id, s, r, h => by
    simp only [icode] at h ⊢
    refine iRounds_mono (fun s r hb => ?_) hR h
    rw [Option.bind_eq_some_iff] at hb ⊢
    obtain ⟨s0, h1, h2⟩ := hb
    exact ⟨s0, h1, icode_le hcb hR h2⟩
  | .exit i, id, s, r, h => h
  | .ret, id, s, r, h => h
  | .rangeFunc .., id, s, r, h | .scope .., id, s, r, h | .label .., id, s, r, h | .goto .., id, s, r, h | .refuse .., id, s, r, h => by simp [icode] at h

theorem acode_le {nt : Nat} {gcs : List AGc} {R R' : Nat} (hR : R ≤ R') : ∀ {k : Code} {keep : Nat} {id : Option Nat} {s : St} {r : Ex × St}, acode { T, fns, call := c } nt keep R gcs k id s = some r → acode { T, fns, call := c' } nt keep R' gcs k id s = some r
  | .skip, keep, id, s, r, h => h
  | .region rid ops draw, keep, id, s, r, h => by
    simp only [acode, aregion, Option.map_eq_some_iff] at h ⊢
    obtain ⟨s1, h1, h2⟩ := h
    cases draw with
    | false =>
      simp only [Bool.false_eq_true, if_false] at h1 ⊢
      exact ⟨s1, ops_imp T fns hc h1, h2⟩
    | true =>
      simp only [if_true] at h1 ⊢
      exact ⟨s1, draw_imp T fns hc h1, h2⟩
  | .seq x y, keep, id, s, r, h => by
    simp only [acode, Option.bind_eq_some_iff] at h ⊢
    obtain ⟨⟨ex, s1⟩, h1, h2⟩ := h
    cases ex with
    | normal => exact ⟨_, acode_le hR h1, acode_le hR h2⟩
    | exit k => exact ⟨_, acode_le hR h1, h2⟩
    | ret => exact ⟨_, acode_le hR h1, h2⟩
  | .cond x a b, keep, id, s, r, h => by
    simp only [acode] at h ⊢
    split at h
    · exact acode_le hR h
    · exact acode_le hR h
    · cases h
  | .block b x, keep, id, s, r, h => by
    simp only [acode, Option.map_eq_some_iff] at h ⊢
    obtain ⟨r1, h1, h2⟩ := h
    exact ⟨r1, acode_le hR h1, h2⟩
  | .loop x, keep, id, s, r, h => by
    simp only [acode] at h ⊢
    refine rounds_mono (fun s r hb => ?_) hR h
    rw [Option.bind_eq_some_iff] at hb ⊢
    obtain ⟨s0, h1, h2⟩ := hb
    exact ⟨s0, h1, acode_le hR h2⟩
  | .exit i, keep, id, s, r, h => h
  | .ret, keep, id, s, r, h => h
  | .rangeFunc g ps assign body, keep, id, s, r, h => by
    simp only [acode] at h ⊢
    cases hev : ev s.env g with
    | clo gf caps =>
      simp only [hev] at h ⊢
      cases hf : fns gf with
      | none => simp [hf] at h
      | some fn =>
        simp only [hf] at h ⊢
        split at h
        · cases h
        · rename_i hno
          rw [if_neg hno]
          rw [Option.bind_eq_some_iff] at h ⊢
          obtain ⟨x, h1, h2⟩ := h
          refine ⟨x, icode_le T fns hc (fun args h0 y hy => ?_) hR h1, h2⟩
          unfold roundOf at hy ⊢
          split at hy
          · rename_i hl
            rw [if_pos hl]
            cases ha : acode { T, fns, call := c } nt h0.length R gcs assign none { env := bindPs ps.toList args s.env, heap := h0 } with
            | none => simp [ha] at hy
            | some z =>
              obtain ⟨ex, s1⟩ := z
              simp only [ha, acode_le hR ha] at hy ⊢
              cases ex with
              | normal =>
                simp only [Option.map_eq_some_iff] at hy ⊢
                obtain ⟨z, hz1, hz2⟩ := hy
                exact ⟨z, acode_le hR hz1, hz2⟩
              | exit k => cases hy
              | ret => cases hy
          · cases hy
    | _ => simp [hev] at h
  | .scope .., keep, id, s, r, h | .label .., keep, id, s, r, h | .goto .., keep, id, s, r, h | .refuse .., keep, id, s, r, h => by simp [acode] at h
end

theorem acode_mono {cx : Cx} {nt keep R R' : Nat} {gcs : List AGc} (hR : R ≤ R') {c : Code} {id : Option Nat} {s : St} {r : Ex × St} (h : acode cx nt keep R gcs c id s = some r) : acode cx nt keep R' gcs c id s = some r :=
  acode_le cx.T cx.fns (c := cx.call) (fun _ _ _ _ h => h) hR h
end Go.Proofs.Ytfdemnefkfkghaa.R
/- Stepping: what is to be shown of a run, from its beginning to its end. -/
namespace Go.Proofs.Ytfdemnefkfkghaa.R
set_option linter.unusedVariables false
set_option linter.unusedSimpArgs false
open Go

/-- How a function is run: slots, objects that came in, what stays at loops' heads. -/
structure Fr where
  nt : Nat
  keep : Nat
  gcs : List AGc

abbrev Aft := Ex → St → Prop

/-- Code, run from 's' on, ends as 'Q' says. -/
def W (cx : Cx) (fr : Fr) (c : Code) (id : Option Nat) (s : St) (Q : Aft) : Prop := ∃ R ex s', acode cx fr.nt fr.keep R fr.gcs c id s = some (ex, s') ∧ Q ex s'
/-- And then other code. -/
def SQ (cx : Cx) (fr : Fr) (b : Code) (Q : Aft) : Aft := fun ex s => match ex with
  | .normal => W cx fr b none s Q
  | ex => Q ex s
/-- Out of a block. -/
def BQ (i : Nat) (Q : Aft) : Aft := fun ex s => match ex with
  | .exit j => if j = i then Q .normal s else Q (.exit j) s
  | ex => Q ex s
def WC (cx : Cx) (fr : Fr) (v : V) (a b : Code) (s : St) (Q : Aft) : Prop := match v with
  | .bool x => if x = true then W cx fr a none s Q else W cx fr b none s Q
  | _ => False
/-- Operations, in the text's order. -/
def WO (cx : Cx) (nt : Nat) (ops : Array Oper) (rest : List Oper) (s : St) (Q : Aft) : Prop := ∃ s', runOps cx nt ops rest s = some s' ∧ Q .normal s'
/-- One operation's answer. -/
def WA (cx : Cx) (nt : Nat) (ops : Array Oper) (x : Option ((V × Upd) × List Nat)) (d : Option Tmp) (rest : List Oper) (e : Env) (h : Heap) (Q : Aft) : Prop := match x with
  | none => False
  | some ((v, u), _) => match d with
    | none => WO cx nt ops rest ⟨e, h.puts u⟩ Q
    | some d => d < nt ∧ WO cx nt ops rest ⟨(d, v) :: e, h.puts u⟩ Q
def WG (cx : Cx) (nt : Nat) (ops : Array Oper) (w : Option Bool) (o : Oper) (rest : List Oper) (s : St) (Q : Aft) : Prop := match w with
  | none => False
  | some true => WA cx nt ops ((aop cx s.heap.length s.env o).run s.heap []) o.dst rest s.env s.heap Q
  | some false => match o.dst with
    | none => WO cx nt ops rest s Q
    | some d => d < nt ∧ WO cx nt ops rest ⟨(d, .tup []) :: s.env, s.heap⟩ Q
/-- Operations in an order that is drawn. -/
def WD (cx : Cx) (nt : Nat) (ops : Array Oper) (bef : Array Nat) (rest : List Oper) (j : Nat) (s : St) (done : List Did) (Q : Aft) : Prop := ∃ s', runDraw cx nt ops bef rest j s done = some s' ∧ Q .normal s'

section
variable {cx : Cx} {fr : Fr} {nt : Nat} {ops : Array Oper} {a b c : Code} {id : Option Nat} {s : St} {Q : Aft}

theorem W_skip : W cx fr .skip id s Q ↔ Q .normal s := ⟨fun ⟨R, ex, s', h, q⟩ => by cases h; exact q, fun q => ⟨0, _, _, rfl, q⟩⟩
theorem W_exit {i : Nat} : W cx fr (.exit i) id s Q ↔ Q (.exit i) s := ⟨fun ⟨R, ex, s', h, q⟩ => by cases h; exact q, fun q => ⟨0, _, _, rfl, q⟩⟩
theorem W_ret : W cx fr .ret id s Q ↔ Q .ret s := ⟨fun ⟨R, ex, s', h, q⟩ => by cases h; exact q, fun q => ⟨0, _, _, rfl, q⟩⟩

theorem W_seq : W cx fr (.seq a b) id s Q ↔ W cx fr a none s (SQ cx fr b Q) := by
  constructor
  · rintro ⟨R, ex, s', h, q⟩
    simp only [acode, Option.bind_eq_some_iff] at h
    obtain ⟨⟨ex1, s1⟩, h1, h2⟩ := h
    refine ⟨R, ex1, s1, h1, ?_⟩
    cases ex1 with
    | normal => exact ⟨R, ex, s', h2, q⟩
    | exit k => cases h2; exact q
    | ret => cases h2; exact q
  · rintro ⟨R, ex, s', h, q⟩
    cases ex with
    | normal =>
      obtain ⟨R2, ex2, s2, h2, q2⟩ := q
      refine ⟨max R R2, ex2, s2, ?_, q2⟩
      simp only [acode, Option.bind_eq_some_iff]
      exact ⟨_, acode_mono (Nat.le_max_left _ _) h, acode_mono (Nat.le_max_right _ _) h2⟩
    | exit k => exact ⟨R, _, _, by simp only [acode, h]; rfl, q⟩
    | ret => exact ⟨R, _, _, by simp only [acode, h]; rfl, q⟩
theorem SQ_normal : SQ cx fr b Q .normal s ↔ W cx fr b none s Q := Iff.rfl
theorem SQ_exit {i : Nat} : SQ cx fr b Q (.exit i) s ↔ Q (.exit i) s := Iff.rfl
theorem SQ_ret : SQ cx fr b Q .ret s ↔ Q .ret s := Iff.rfl

theorem W_block {i : Nat} : W cx fr (.block i c) id s Q ↔ W cx fr c (some i) s (BQ i Q) := by
  constructor
  · rintro ⟨R, ex, s', h, q⟩
    simp only [acode, Option.map_eq_some_iff] at h
    obtain ⟨⟨ex1, s1⟩, h1, h2⟩ := h
    refine ⟨R, ex1, s1, h1, ?_⟩
    cases ex1 with
    | normal => cases h2; exact q
    | exit k =>
      simp only at h2
      show if k = i then _ else _
      split
      · rename_i e; rw [if_pos e] at h2; cases h2; exact q
      · rename_i e; rw [if_neg e] at h2; cases h2; exact q
    | ret => cases h2; exact q
  · rintro ⟨R, ex, s', h, q⟩
    cases ex with
    | normal => exact ⟨R, _, _, by simp only [acode, h]; rfl, q⟩
    | exit k =>
      by_cases e : k = i
      · have q' : Q .normal s' := by
          have : (if k = i then Q .normal s' else Q (.exit k) s') := q
          rwa [if_pos e] at this
        exact ⟨R, .normal, s', by simp only [acode, h, Option.map_some, if_pos e], q'⟩
      · have q' : Q (.exit k) s' := by
          have : (if k = i then Q .normal s' else Q (.exit k) s') := q
          rwa [if_neg e] at this
        exact ⟨R, .exit k, s', by simp only [acode, h, Option.map_some, if_neg e], q'⟩
    | ret => exact ⟨R, _, _, by simp only [acode, h]; rfl, q⟩
theorem BQ_normal {i : Nat} : BQ i Q .normal s ↔ Q .normal s := Iff.rfl
theorem BQ_exit {i j : Nat} : BQ i Q (.exit j) s ↔ if j = i then Q .normal s else Q (.exit j) s := Iff.rfl
theorem BQ_ret {i : Nat} : BQ i Q .ret s ↔ Q .ret s := Iff.rfl

theorem W_cond {x : Operand} : W cx fr (.cond x a b) id s Q ↔ WC cx fr (ev s.env x) a b s Q := by
  unfold W WC
  simp only [acode]
  generalize ev s.env x = v
  cases v with
  | bool y =>
    cases y with
    | true => rfl
    | false => simp [W]
  | _ => simp
theorem WC_bool {x : Bool} : WC cx fr (.bool x) a b s Q ↔ if x = true then W cx fr a none s Q else W cx fr b none s Q := Iff.rfl

theorem W_region {i : Nat} : W cx fr (.region i ops false) id s Q ↔ WO cx fr.nt ops ops.toList s Q := by
  constructor
  · rintro ⟨R, ex, s', h, q⟩
    simp only [acode, aregion, Bool.false_eq_true, if_false, Option.map_eq_some_iff, Prod.mk.injEq] at h
    obtain ⟨s1, h1, rfl, rfl⟩ := h
    exact ⟨s1, h1, q⟩
  · rintro ⟨s', h, q⟩
    exact ⟨0, _, _, by simp only [acode, aregion, Bool.false_eq_true, if_false, h]; rfl, q⟩
theorem W_draw {i : Nat} : W cx fr (.region i ops true) id s Q ↔ WD cx fr.nt ops (Region.before ops) ops.toList 0 s [] Q := by
  constructor
  · rintro ⟨R, ex, s', h, q⟩
    simp only [acode, aregion, if_true, Option.map_eq_some_iff, Prod.mk.injEq] at h
    obtain ⟨s1, h1, rfl, rfl⟩ := h
    exact ⟨s1, h1, q⟩
  · rintro ⟨s', h, q⟩
    exact ⟨0, _, _, by simp only [acode, aregion, if_true, h]; rfl, q⟩

theorem WO_nil : WO cx nt ops [] s Q ↔ Q .normal s := ⟨fun ⟨s', h, q⟩ => by cases h; exact q, fun q => ⟨s, rfl, q⟩⟩
theorem WO_any {o : Oper} {r : List Oper} : WO cx nt ops (o :: r) s Q ↔ WG cx nt ops (wants ops s.env o) o r s Q := by
  unfold WO WG
  simp only [runOps]
  cases hw : wants ops s.env o with
  | none => simp
  | some w =>
    cases w with
    | false =>
      simp only [putDst]
      cases o.dst with
      | none => rfl
      | some d =>
        simp only
        by_cases hd : d < nt
        · simp [hd, WO]
        · simp [hd]
    | true =>
      simp only [WA]
      cases (aop cx s.heap.length s.env o).run s.heap [] with
      | none => simp
      | some x =>
        obtain ⟨⟨v, u⟩, l⟩ := x
        simp only [putDst]
        cases o.dst with
        | none => rfl
        | some d =>
          simp only
          by_cases hd : d < nt
          · simp [hd, WO]
          · simp [hd]

/-- No guard. -/
theorem WO_cons {d : Option Tmp} {op : Op} {t : TypeId} {p : String} {af : Array Edge} {r : List Oper} {e : Env} {h : Heap} : WO cx nt ops ({ dst := d, op, type := t, pos := p, after := af, guard := none } :: r) ⟨e, h⟩ Q ↔
    WA cx nt ops ((aop cx h.length e { dst := d, op, type := t, pos := p, after := af, guard := none }).run h []) d r e h Q := WO_any
theorem WO_guard {d : Option Tmp} {op : Op} {t : TypeId} {p : String} {af : Array Edge} {j : Nat} {b : Bool} {r : List Oper} {e : Env} {h : Heap} : WO cx nt ops ({ dst := d, op, type := t, pos := p, after := af, guard := some (j, b) } :: r) ⟨e, h⟩ Q ↔
    WG cx nt ops (if skipped ops e j then some false else (yields ops e j).map (· == b)) { dst := d, op, type := t, pos := p, after := af, guard := some (j, b) } r ⟨e, h⟩ Q := WO_any
theorem WG_true {o : Oper} {r : List Oper} {e : Env} {h : Heap} : WG cx nt ops (some true) o r ⟨e, h⟩ Q ↔ WA cx nt ops ((aop cx h.length e o).run h []) o.dst r e h Q := Iff.rfl
theorem WG_false {op : Op} {d t : Nat} {p : String} {af : Array Edge} {g : Option (Nat × Bool)} {r : List Oper} {e : Env} {h : Heap} : WG cx nt ops (some false) { dst := some d, op, type := t, pos := p, after := af, guard := g } r ⟨e, h⟩ Q ↔ d < nt ∧ WO cx nt ops r ⟨(d, .tup []) :: e, h⟩ Q := Iff.rfl
theorem WG_ite {o : Oper} {r : List Oper} {p : Prop} [Decidable p] {x : Bool} : WG cx nt ops (some (decide p == x)) o r s Q ↔ if (decide p == x) = true then WG cx nt ops (some true) o r s Q else WG cx nt ops (some false) o r s Q := by
  cases h : (decide p == x) <;> simp
theorem WA_some {v : V} {u : Upd} {l : List Nat} {d : Nat} {r : List Oper} {e : Env} {h : Heap} : WA cx nt ops (some ((v, u), l)) (some d) r e h Q ↔ d < nt ∧ WO cx nt ops r ⟨(d, v) :: e, h.puts u⟩ Q := Iff.rfl
theorem WA_none {v : V} {u : Upd} {l : List Nat} {r : List Oper} {e : Env} {h : Heap} : WA cx nt ops (some ((v, u), l)) none r e h Q ↔ WO cx nt ops r ⟨e, h.puts u⟩ Q := Iff.rfl
theorem WO_move {d : Nat} {x : Operand} {t : TypeId} {p : String} {af : Array Edge} {r : List Oper} {e : Env} {h : Heap} : WO cx nt ops ({ dst := some d, op := .move x, type := t, pos := p, after := af, guard := none } :: r) ⟨e, h⟩ Q ↔ d < nt ∧ WO cx nt ops r ⟨(d, ev e x) :: e, h⟩ Q := WO_any
theorem WO_assign {d : Nat} {x : Operand} {t : TypeId} {p : String} {af : Array Edge} {r : List Oper} {e : Env} {h : Heap} : WO cx nt ops ({ dst := some d, op := .assign x, type := t, pos := p, after := af, guard := none } :: r) ⟨e, h⟩ Q ↔ d < nt ∧ WO cx nt ops r ⟨(d, ev e x) :: e, h⟩ Q := WO_any

/-- What was done so far, none of which turned an object. -/
structure QD where
  l : List Did
  q : ∀ c ∈ l, c.upd = []
def QD.nil : QD := ⟨[], by simp⟩
def QD.snoc (d : QD) (w : Bool) (v : V) (r : List Nat) : QD := ⟨d.l ++ [⟨w, v, [], r⟩], fun c hc => by
  rcases List.mem_append.1 hc with h | h
  · exact d.q c h
  · simp at h; subst h; rfl⟩
def WQ (cx : Cx) (nt : Nat) (ops : Array Oper) (bef : Array Nat) (rest : List Oper) (j : Nat) (s : St) (q : QD) (Q : Aft) : Prop := WD cx nt ops bef rest j s q.l Q
/-- One operation's answer, in an order that is drawn. -/
def QA (cx : Cx) (nt : Nat) (ops : Array Oper) (bef : Array Nat) (x : Option ((V × Upd) × List Nat)) (d : Option Tmp) (rest : List Oper) (j : Nat) (e : Env) (h : Heap) (q : QD) (Q : Aft) : Prop := match x with
  | none => False
  | some ((v, []), l) => (match d with
    | none => WQ cx nt ops bef rest (j + 1) ⟨e, Heap.pad (h.length + 1) h⟩ (q.snoc true v l) Q
    | some d => d < nt ∧ WQ cx nt ops bef rest (j + 1) ⟨(d, v) :: e, Heap.pad (h.length + 1) h⟩ (q.snoc true v l) Q)
  | some ((v, u), l) => apart bef q.l j ⟨true, v, u, l⟩ = true ∧ (match d with
    | none => WD cx nt ops bef rest (j + 1) ⟨e, Heap.pad (h.length + 1) (h.puts u)⟩ (q.l ++ [⟨true, v, u, l⟩]) Q
    | some d => d < nt ∧ WD cx nt ops bef rest (j + 1) ⟨(d, v) :: e, Heap.pad (h.length + 1) (h.puts u)⟩ (q.l ++ [⟨true, v, u, l⟩]) Q)
def QG (cx : Cx) (nt : Nat) (ops : Array Oper) (bef : Array Nat) (w : Option Bool) (o : Oper) (rest : List Oper) (j : Nat) (s : St) (q : QD) (Q : Aft) : Prop := match w with
  | none => False
  | some true => QA cx nt ops bef ((aop cx s.heap.length s.env o).run s.heap []) o.dst rest j s.env s.heap q Q
  | some false => match o.dst with
    | none => WQ cx nt ops bef rest (j + 1) s (q.snoc false (.tup []) []) Q
    | some d => d < nt ∧ WQ cx nt ops bef rest (j + 1) ⟨(d, .tup []) :: s.env, s.heap⟩ (q.snoc false (.tup []) []) Q

theorem W_draw_q {i : Nat} : W cx fr (.region i ops true) id s Q ↔ WQ cx fr.nt ops (Region.before ops) ops.toList 0 s QD.nil Q := W_draw
theorem WQ_nil {bef : Array Nat} {j : Nat} {q : QD} : WQ cx nt ops bef [] j s q Q ↔ Q .normal s := ⟨fun ⟨s', h, q⟩ => by cases h; exact q, fun q => ⟨s, rfl, q⟩⟩
theorem apart_quiet (bef : Array Nat) (q : QD) (j : Nat) (v : V) (l : List Nat) : apart bef q.l j ⟨true, v, [], l⟩ = true := by
  unfold apart
  rw [List.all_eq_true]
  rintro ⟨c, i⟩ hm
  have hc : c ∈ q.l := by
    obtain ⟨k, hk⟩ := List.mem_iff_getElem?.1 hm
    rw [List.getElem?_zipIdx, Option.map_eq_some_iff] at hk
    obtain ⟨c', h1, h2⟩ := hk
    cases h2
    exact List.mem_of_getElem? h1
  simp [clash, Did.touches, q.q c hc]
theorem WQ_any {bef : Array Nat} {o : Oper} {r : List Oper} {j : Nat} {q : QD} : WQ cx nt ops bef (o :: r) j s q Q ↔ QG cx nt ops bef (wants ops s.env o) o r j s q Q := by
  unfold WQ WD QG
  simp only [runDraw]
  cases hw : wants ops s.env o with
  | none => simp
  | some w =>
    cases w with
    | false =>
      simp only [putDst]
      cases o.dst with
      | none => rfl
      | some d =>
        simp only
        by_cases hd : d < nt
        · simp [hd, WQ, WD, QD.snoc]
        · simp [hd]
    | true =>
      simp only [QA]
      cases (aop cx s.heap.length s.env o).run s.heap [] with
      | none => simp
      | some x =>
        obtain ⟨⟨v, u⟩, l⟩ := x
        cases u with
        | nil =>
          simp only [apart_quiet, if_true, putDst, Heap.puts]
          cases o.dst with
          | none => rfl
          | some d =>
            simp only
            by_cases hd : d < nt
            · simp [hd, WQ, WD, QD.snoc]
            · simp [hd]
        | cons p u =>
          simp only
          by_cases ha : apart bef q.l j ⟨true, v, p :: u, l⟩ = true
          · rw [if_pos ha]
            simp only [ha, true_and, putDst]
            cases o.dst with
            | none => rfl
            | some d =>
              simp only
              by_cases hd : d < nt
              · simp [hd, WD]
              · simp [hd]
          · rw [if_neg ha]
            simp [ha]
theorem WQ_cons {bef : Array Nat} {d : Option Tmp} {op : Op} {t : TypeId} {p : String} {af : Array Edge} {r : List Oper} {j : Nat} {e : Env} {h : Heap} {q : QD} : WQ cx nt ops bef ({ dst := d, op, type := t, pos := p, after := af, guard := none } :: r) j ⟨e, h⟩ q Q ↔
    QA cx nt ops bef ((aop cx h.length e { dst := d, op, type := t, pos := p, after := af, guard := none }).run h []) d r j e h q Q := WQ_any
theorem WQ_guard {bef : Array Nat} {d : Option Tmp} {op : Op} {t : TypeId} {p : String} {af : Array Edge} {i : Nat} {b : Bool} {r : List Oper} {j : Nat} {e : Env} {h : Heap} {q : QD} : WQ cx nt ops bef ({ dst := d, op, type := t, pos := p, after := af, guard := some (i, b) } :: r) j ⟨e, h⟩ q Q ↔
    QG cx nt ops bef (if skipped ops e i then some false else (yields ops e i).map (· == b)) { dst := d, op, type := t, pos := p, after := af, guard := some (i, b) } r j ⟨e, h⟩ q Q := WQ_any
theorem QG_true {bef : Array Nat} {o : Oper} {r : List Oper} {j : Nat} {e : Env} {h : Heap} {q : QD} : QG cx nt ops bef (some true) o r j ⟨e, h⟩ q Q ↔ QA cx nt ops bef ((aop cx h.length e o).run h []) o.dst r j e h q Q := Iff.rfl
theorem QG_false {bef : Array Nat} {op : Op} {d t : Nat} {p : String} {af : Array Edge} {g : Option (Nat × Bool)} {r : List Oper} {j : Nat} {e : Env} {h : Heap} {q : QD} : QG cx nt ops bef (some false) { dst := some d, op, type := t, pos := p, after := af, guard := g } r j ⟨e, h⟩ q Q ↔
    d < nt ∧ WQ cx nt ops bef r (j + 1) ⟨(d, .tup []) :: e, h⟩ (q.snoc false (.tup []) []) Q := Iff.rfl
theorem QA_quiet {bef : Array Nat} {v : V} {l : List Nat} {d : Nat} {r : List Oper} {j : Nat} {e : Env} {h : Heap} {q : QD} : QA cx nt ops bef (some ((v, []), l)) (some d) r j e h q Q ↔ d < nt ∧ WQ cx nt ops bef r (j + 1) ⟨(d, v) :: e, Heap.pad (h.length + 1) h⟩ (q.snoc true v l) Q := Iff.rfl

/-- A loop: what stands at its head, and that each round leads on or out. -/
def LP (fr : Fr) (id : Option Nat) {ι : Type} (S : ι → St) (m : ι → Nat) (I : ι → Prop) (Q : Aft) (n : Nat) : Aft := fun ex s => match ex with
  | .normal => ∃ y, I y ∧ m y < n ∧ head fr.keep (gcOf fr.gcs id) s = some (S y)
  | ex => Q ex s
theorem LP_exit {ι : Type} {S : ι → St} {m : ι → Nat} {I : ι → Prop} {n i : Nat} : LP fr id S m I Q n (.exit i) s ↔ Q (.exit i) s := Iff.rfl
theorem LP_ret {ι : Type} {S : ι → St} {m : ι → Nat} {I : ι → Prop} {n : Nat} : LP fr id S m I Q n .ret s ↔ Q .ret s := Iff.rfl

theorem loop_rule {ι : Type} (S : ι → St) (m : ι → Nat) (I : ι → Prop) (step : ∀ x, I x → W cx fr c none (S x) (LP fr id S m I Q (m x))) : ∀ (x : ι) (s : St), I x → head fr.keep (gcOf fr.gcs id) s = some (S x) → W cx fr (.loop c) id s Q := by
  have key : ∀ (n : Nat) (x : ι) (s : St), m x < n → I x → head fr.keep (gcOf fr.gcs id) s = some (S x) → W cx fr (.loop c) id s Q := by
    intro n
    induction n with
    | zero => intro x s h; omega
    | succ n ih =>
      intro x s hm hI hs
      obtain ⟨R, ex, s', h, q⟩ := step x hI
      cases ex with
      | normal =>
        obtain ⟨y, hy, hlt, hh⟩ := q
        obtain ⟨R2, ex2, s2, h2, q2⟩ := ih y s' (by omega) hy hh
        refine ⟨max R R2 + 1, ex2, s2, ?_, q2⟩
        simp only [acode] at h2 ⊢
        unfold rounds
        rw [hs]
        simp only [Option.bind_some, acode_mono (show R ≤ max R R2 + 1 by omega) h]
        refine rounds_mono (fun s r hb => ?_) (show R2 ≤ max R R2 by omega) h2
        rw [Option.bind_eq_some_iff] at hb ⊢
        obtain ⟨s0, h3, h4⟩ := hb
        exact ⟨s0, h3, acode_mono (by omega) h4⟩
      | exit i =>
        refine ⟨R + 1, _, _, ?_, q⟩
        simp only [acode]
        unfold rounds
        rw [hs]
        simp only [Option.bind_some, acode_mono (show R ≤ R + 1 by omega) h]
      | ret =>
        refine ⟨R + 1, _, _, ?_, q⟩
        simp only [acode]
        unfold rounds
        rw [hs]
        simp only [Option.bind_some, acode_mono (show R ≤ R + 1 by omega) h]
  exact fun x s hI hs => key _ x s (Nat.lt_succ_self _) hI hs

theorem W_mono {Q' : Aft} (h : ∀ ex s, Q ex s → Q' ex s) : W cx fr c id s Q → W cx fr c id s Q' := fun ⟨R, ex, s', h1, q⟩ => ⟨R, ex, s', h1, h _ _ q⟩
end

/-- A function's end. -/
def FQ (T : TT) (res : List ResultVar) (rfz : Bool) (keep : Nat) (r : V × Heap) : Aft := fun ex s => match ex with
  | .normal | .ret => ((resAll T s res).bind fun vs => finish keep rfz (oneOf vs) s.heap) = some r
  | _ => False

theorem fn_rule {T : TT} {fns : FuncId → Option AFn} {g : FuncId} {fn : AFn} (hfn : fns g = some fn) (hi : fn.intr = none) {args : List V} {hs : List Ob} {r : V × Heap} (hl : args.length ≤ fn.ntmps)
    (h : W (LX T fns) ⟨fn.ntmps, hs.length, fn.gcs⟩ fn.body none ⟨argEnv 0 args, hs.map some⟩ (FQ T fn.res fn.rfz hs.length r)) : lim T fns g args hs = some r := by
  obtain ⟨R, ex, s', h1, q⟩ := h
  refine lim_run T fns hfn hi (R0 := R) ?_
  unfold runFn
  rw [if_neg (by omega), Option.bind_eq_some_iff]
  refine ⟨_, h1, ?_⟩
  cases ex with
  | normal => exact q
  | ret => exact q
  | exit i => exact q.elim

mutual
/-- A value that leads to no object, and isn't frozen into another one. -/
def V.plain : V → Bool
  | .undef | .bool _ | .int .. | .str _ | .fz _ | .nilp | .el .. | .nilm | .nilf | .nili => true
  | .clo _ cs => V.allPlain cs
  | .agg cs => V.allPlain cs
  | .tup vs => V.allPlain vs
  | .ifc _ v => V.plain v
  | _ => false
def V.allPlain : List V → Bool
  | [] => true
  | v :: r => V.plain v && V.allPlain r
end

mutual
theorem plain_re (f : Nat → Option Nat) : ∀ v : V, v.plain = true → V.re f v = some v
  | .clo g cs, h => by simp only [V.plain] at h; simp [V.re, plainAll_re f cs h]
  | .agg cs, h => by simp only [V.plain] at h; simp [V.re, plainAll_re f cs h]
  | .tup cs, h => by simp only [V.plain] at h; simp [V.re, plainAll_re f cs h]
  | .ifc t v, h => by simp only [V.plain] at h; simp [V.re, plain_re f v h]
  | .undef, _ | .bool _, _ | .int _ _, _ | .str _, _ | .fz _, _ | .nilp, _ | .el _ _, _ | .nilm, _ | .nilf, _ | .nili, _ => rfl
theorem plainAll_re (f : Nat → Option Nat) : ∀ l : List V, V.allPlain l = true → V.reAll f l = some l
  | [], _ => rfl
  | v :: r, h => by
    simp only [V.allPlain, Bool.and_eq_true] at h
    simp [V.reAll, plain_re f v h.1, plainAll_re f r h.2]
end

mutual
theorem plain_ids : ∀ v : V, v.plain = true → V.ids v = []
  | .clo g cs, h => by simp only [V.plain] at h; simp [V.ids, plainAll_ids cs h]
  | .agg cs, h => by simp only [V.plain] at h; simp [V.ids, plainAll_ids cs h]
  | .tup cs, h => by simp only [V.plain] at h; simp [V.ids, plainAll_ids cs h]
  | .ifc t v, h => by simp only [V.plain] at h; simp [V.ids, plain_ids v h]
  | .undef, _ | .bool _, _ | .int _ _, _ | .str _, _ | .fz _, _ | .nilp, _ | .el _ _, _ | .nilm, _ | .nilf, _ | .nili, _ => rfl
theorem plainAll_ids : ∀ l : List V, V.allPlain l = true → V.allIds l = []
  | [], _ => rfl
  | v :: r, h => by
    simp only [V.allPlain, Bool.and_eq_true] at h
    simp [V.allIds, plain_ids v h.1, plainAll_ids r h.2]
end

section
variable {α : Type} {ms : Nat → Nat → Nat → Nat → (V → Upd → Rd α) → Rd α}
mutual
theorem plain_frzG (k : V → Upd → Rd α) : ∀ v : V, v.plain = true → frzG ms v k = k v []
  | .agg cs, h => by simp only [V.plain] at h; simp only [frzG]; rw [plainAll_frzG (fun cs u => k (.agg cs) u) cs h]
  | .tup cs, h => by simp only [V.plain] at h; simp only [frzG]; rw [plainAll_frzG (fun cs u => k (.tup cs) u) cs h]
  | .clo g cs, h => by simp only [frzG]
  | .ifc t v, h => by simp only [frzG]
  | .undef, _ | .bool _, _ | .int _ _, _ | .str _, _ | .fz _, _ | .nilp, _ | .el _ _, _ | .nilm, _ | .nilf, _ | .nili, _ => by simp only [frzG]
theorem plainAll_frzG (k : List V → Upd → Rd α) : ∀ l : List V, V.allPlain l = true → frzGAll ms l k = k l []
  | [], _ => by simp only [frzGAll]
  | v :: r, h => by
    simp only [V.allPlain, Bool.and_eq_true] at h
    simp only [frzGAll]
    rw [plain_frzG _ v h.1, plainAll_frzG _ r h.2]
    rfl
end
end
theorem plain_frz {α : Type} (k : V → Upd → Rd α) (v : V) (h : v.plain = true) : frz v k = k v [] := plain_frzG k v h
theorem plainAll_frz {α : Type} (k : List V → Upd → Rd α) (l : List V) (h : V.allPlain l = true) : frzAll l k = k l [] := plainAll_frzG k l h
theorem plainArgs_frz {α : Type} : ∀ (l : List V) (m : List Bool) (k : List V → Upd → Rd α), V.allPlain l = true → frzArgs l m k = k l []
  | [], m, k, _ => by simp only [frzArgs]
  | v :: r, m, k, h => by
    simp only [V.allPlain, Bool.and_eq_true] at h
    cases m with
    | nil => simp only [frzArgs]; exact plainArgs_frz r _ _ h.2
    | cons b m =>
      cases b with
      | false => simp only [frzArgs]; exact plainArgs_frz r _ _ h.2
      | true =>
        simp only [frzArgs]
        rw [plain_frz _ v h.1, plainArgs_frz r _ _ h.2]
        rfl

theorem allPlain_append : ∀ (a b : List V), V.allPlain (a ++ b) = (V.allPlain a && V.allPlain b)
  | [], b => rfl
  | v :: r, b => by simp [V.allPlain, allPlain_append r b, Bool.and_assoc]

/-- A call with arguments that lead to no object, and such an answer. -/
theorem callV_plain {T : TT} {fns : FuncId → Option AFn} {g : FuncId} {fn : AFn} (hfn : fns g = some fn) {args caps : List V} {r : V} (ha : V.allPlain (args ++ caps) = true) (hr : r.plain = true) (h : lim T fns g (args ++ caps) [] = some (r, [])) (n : Nat) :
    callV (LX T fns) n (.clo g caps) args = .pure (r, []) := by
  unfold callV
  simp only [hfn]
  unfold callR
  rw [plainArgs_frz _ _ _ ha, plainAll_ids _ ha]
  show withR (lim T fns g) n (args ++ caps) [] [] = _
  unfold withR
  simp only [List.map_nil, upd1, List.all_nil, Bool.and_self, if_true, plainAll_re _ _ ha, pullObs, h, List.length_nil, Nat.le_refl]
  unfold afterR
  simp [plain_re _ _ hr, pushObs]

/-! A function's end, where its answer leads to no object. -/
theorem FQ_ret {T : TT} {res : List ResultVar} {rfz : Bool} {keep : Nat} {r : V × Heap} {s : St} : FQ T res rfz keep r .ret s ↔ ((resAll T s res).bind fun vs => finish keep rfz (oneOf vs) s.heap) = some r := Iff.rfl
theorem FQ_normal {T : TT} {res : List ResultVar} {rfz : Bool} {keep : Nat} {r : V × Heap} {s : St} : FQ T res rfz keep r .normal s ↔ ((resAll T s res).bind fun vs => finish keep rfz (oneOf vs) s.heap) = some r := Iff.rfl

/-- What is left of an answer that is frozen. -/
def FZ (x : Option ((V × Upd) × List Nat)) : Option (V × Heap) := match x with
  | some ((v, _), _) => if v.plain = true then some (v, []) else none
  | none => none
theorem finish_plain {v : V} {h : Heap} {rfz : Bool} (hp : v.plain = true) : finish 0 rfz v h = some (v, []) := by
  have key : ∀ h : Heap, (let l := reach 0 h 4096 (upto 0 (V.ids v)) []
      if begins 0 0 l then (V.re (idx l) v).bind fun v => (pull h (idx l) l).map fun h => (v, h) else none) = some (v, []) := by
    intro h
    rw [plain_ids v hp]
    show (V.re (idx []) v).bind (fun v => (pull h (idx []) []).map fun h => (v, h)) = _
    rw [plain_re _ v hp]
    rfl
  unfold finish
  cases rfz with
  | false => exact key h
  | true =>
    simp only [if_true]
    rw [plain_frz _ v hp]
    exact key _
theorem finish_true {v : V} {h : Heap} {v' : V} {u : Upd} {l : List Nat} (hf : (frz v fun v u => Rd.pure (v, u)).run h [] = some ((v', u), l)) (hp : v'.plain = true) : finish 0 true v h = some (v', []) := by
  have := finish_plain (h := h.puts u) (rfz := false) hp
  unfold finish at this ⊢
  simp only [if_true, hf, Option.map_some, Option.bind_some]
  simpa using this
theorem finish_fz {v : V} {h : Heap} {r : V × Heap} (hf : FZ ((frz v fun v u => Rd.pure (v, u)).run h []) = some r) : finish 0 true v h = some r := by
  unfold FZ at hf
  split at hf
  · rename_i v' u l hx
    split at hf
    · rename_i hp
      rw [finish_true hx hp]
      exact hf
    · cases hf
  · cases hf

theorem natOf_cast (k : IntKind) (n : Nat) : natOf (.int k (n : Int)) = some n := by simp [natOf]
theorem wrap_i64 {n : Int} (h0 : -9223372036854775808 ≤ n) (h1 : n < 9223372036854775808) : IntKind.i64.wrap n = n := by
  simp [IntKind.wrap, IntKind.signed, IntKind.bits]
  omega
theorem wrap_i64s {n : Nat} (h : n < 1000000000000000000) : IntKind.i64.wrap ((n : Int) + 1) = ((n + 1 : Nat) : Int) := by
  rw [wrap_i64 (by omega) (by omega)]
  omega
theorem pl_int (k : IntKind) (n : Int) : V.plain (.int k n) = true := id rfl
theorem pl_bool (b : Bool) : V.plain (.bool b) = true := id rfl
theorem pl_str (s : ByteArray) : V.plain (.str s) = true := id rfl
theorem pl_fz (rows : List (List V)) : V.plain (.fz rows) = true := id rfl
theorem pl_agg (cs : List V) : V.plain (.agg cs) = V.allPlain cs := id rfl
theorem pl_tup (cs : List V) : V.plain (.tup cs) = V.allPlain cs := id rfl
theorem pl_clo (g : FuncId) (cs : List V) : V.plain (.clo g cs) = V.allPlain cs := id rfl
theorem pl_undef : V.plain .undef = true := id rfl
theorem pl_nil : V.allPlain [] = true := id rfl
theorem pl_cons (v : V) (r : List V) : V.allPlain (v :: r) = (V.plain v && V.allPlain r) := id rfl

theorem ba_beq (a b : ByteArray) : (a == b) = decide (a = b) := by
  obtain ⟨a⟩ := a
  obtain ⟨b⟩ := b
  show (a == b) = _
  by_cases h : a = b
  · subst h; simp
  · have : (a == b) = false := by simpa using h
    rw [this]
    simp [h]
theorem ba_toList (a b : ByteArray) : (a.toList == b.toList) = decide (a = b) := by
  rw [ByteArray.toList_eq, ByteArray.toList_eq]
  obtain ⟨a⟩ := a
  obtain ⟨b⟩ := b
  by_cases h : a = b
  · subst h; simp
  · have : ¬ a.toList = b.toList := fun e => h (Array.toList_inj.1 e)
    simp [h, this]

/-- Lists that are as long, and the same so far. -/
theorem take_eq_len {α : Type} {a b : List α} (hl : a.length = b.length) {i : Nat} (h : a.take i = b.take i) (hi : a.length ≤ i) : a = b := by
  rwa [List.take_of_length_le hi, List.take_of_length_le (by omega)] at h
theorem take_eq_step {α : Type} {a b : List α} {i : Nat} (h : a.take i = b.take i) (ha : i < a.length) (hb : i < b.length) (he : a[i] = b[i]) : a.take (i + 1) = b.take (i + 1) := by
  rw [List.take_succ_eq_append_getElem ha, List.take_succ_eq_append_getElem hb, h, he]
end Go.Proofs.Ytfdemnefkfkghaa.R
/- Stepping through an order that is drawn, where objects are turned: what was done so far is kept as the objects that were turned, and looked at. -/
namespace Go.Proofs.Ytfdemnefkfkghaa.R
set_option linter.unusedVariables false
set_option linter.unusedSimpArgs false
open Go

def hasN (x : Nat) : List Nat → Bool
  | [] => false
  | y :: r => Nat.beq x y || hasN x r
def hits : List Nat → List Nat → Bool
  | [], _ => false
  | x :: r, b => hasN x b || hits r b
def bitN (bef : Array Nat) (j i : Nat) : Bool := (bef.getD j 0).testBit i
abbrev Book := List (List Nat × List Nat)
/-- Operation j, which turns and looks at so much, clashes with those alone that are told to be ahead of it. -/
def apB (bef : Array Nat) (j : Nat) (ids rds : List Nat) : Nat → Book → Bool
  | _, [] => true
  | i, (a, b) :: r => (!(hits a rds || hits a ids || hits ids b) || bitN bef j i) && apB bef j ids rds (i + 1) r

def ids1 : Upd → List Nat
  | [] => []
  | p :: u => p.1 :: ids1 u
def sigD (d : Did) : List Nat × List Nat := (ids1 d.upd, d.reads)
def ofB (p : List Nat × List Nat) : Did := ⟨true, .undef, p.1.map fun i => (i, none), p.2⟩

theorem nbeq (x y : Nat) : Nat.beq x y = decide (x = y) := by
  rw [Bool.eq_iff_iff, decide_eq_true_eq, Nat.beq_eq]
theorem hasN_iff {x : Nat} : ∀ {l : List Nat}, hasN x l = l.contains x
  | [] => rfl
  | y :: r => by
    simp only [hasN, List.contains_cons, hasN_iff, nbeq]
    rfl
theorem hits_any {b : List Nat} : ∀ {u : Upd}, hits (ids1 u) b = u.any fun p => b.contains p.1
  | [] => rfl
  | p :: u => by simp only [ids1, hits, List.any_cons, hasN_iff, hits_any]
theorem ids_has {x : Nat} : ∀ {u : Upd}, hasN x (ids1 u) = u.any fun q => q.1 == x
  | [] => rfl
  | p :: u => by
    have h : Nat.beq x p.1 = (p.1 == x) := by
      rw [nbeq, Bool.eq_iff_iff, decide_eq_true_eq, beq_iff_eq]
      exact ⟨fun h => h.symm, fun h => h.symm⟩
    simp only [ids1, hasN, List.any_cons, ids_has, h]
theorem hits_upd {v : Upd} : ∀ {u : Upd}, hits (ids1 u) (ids1 v) = u.any fun p => v.any fun q => q.1 == p.1
  | [] => rfl
  | p :: u => by simp only [ids1, hits, List.any_cons, ids_has, hits_upd]
theorem any_or {α : Type} {f g : α → Bool} : ∀ {l : List α}, (l.any fun x => f x || g x) = (l.any f || l.any g)
  | [] => rfl
  | x :: l => by
    have ih := any_or (f := f) (g := g) (l := l)
    simp only [List.any_cons, ih]
    cases f x <;> cases g x <;> cases l.any f <;> cases l.any g <;> rfl
theorem touches_hits (a b : Did) : a.touches b = (hits (ids1 a.upd) b.reads || hits (ids1 a.upd) (ids1 b.upd)) := by
  unfold Did.touches
  rw [any_or, hits_any, hits_upd]
theorem hits_comm {u v : Upd} : hits (ids1 u) (ids1 v) = hits (ids1 v) (ids1 u) := by
  rw [hits_upd, hits_upd, Bool.eq_iff_iff]
  simp only [List.any_eq_true, beq_iff_eq]
  constructor
  · rintro ⟨p, hp, q, hq, e⟩
    exact ⟨q, hq, p, hp, e.symm⟩
  · rintro ⟨p, hp, q, hq, e⟩
    exact ⟨q, hq, p, hp, e.symm⟩
theorem clash_sig (a b : Did) : clash a b = (hits (sigD a).1 (sigD b).2 || hits (sigD a).1 (sigD b).1 || hits (sigD b).1 (sigD a).2) := by
  unfold clash sigD
  rw [touches_hits, touches_hits]
  rw [hits_comm (u := b.upd) (v := a.upd)]
  cases hits (ids1 a.upd) b.reads <;> cases hits (ids1 a.upd) (ids1 b.upd) <;> cases hits (ids1 b.upd) a.reads <;> rfl
theorem apart_sig (bef : Array Nat) (j : Nat) (d : Did) : ∀ (done : List Did) (i : Nat), ((done.zipIdx i).all fun (c, i) => !clash c d || (bef.getD j 0).testBit i) = apB bef j (sigD d).1 (sigD d).2 i (done.map sigD)
  | [], i => rfl
  | c :: r, i => by
    simp only [List.zipIdx_cons, List.all_cons, List.map_cons, apB, ← apart_sig bef j d r (i + 1), clash_sig]
    rfl
theorem apart_eq (bef : Array Nat) (done : List Did) (j : Nat) (d : Did) : apart bef done j d = apB bef j (sigD d).1 (sigD d).2 0 (done.map sigD) := apart_sig bef j d done 0
theorem sig_of (p : List Nat × List Nat) : sigD (ofB p) = p := by
  obtain ⟨a, b⟩ := p
  unfold sigD ofB
  have : ∀ a : List Nat, ids1 (a.map fun i => (i, (none : Option Ob))) = a := by
    intro a
    induction a with
    | nil => rfl
    | cons x r ih => simp only [List.map_cons, ids1, ih]
  simp only [this]

variable {cx : Cx} {nt : Nat} {ops : Array Oper} {bef : Array Nat} {Q : Aft}
theorem draw_sig : ∀ {rest : List Oper} {j : Nat} {s : St} {done done' : List Did}, done.map sigD = done'.map sigD → runDraw cx nt ops bef rest j s done = runDraw cx nt ops bef rest j s done'
  | [], j, s, done, done', h => rfl
  | o :: r, j, s, done, done', h => by
    simp only [runDraw]
    cases wants ops s.env o with
    | none => rfl
    | some w =>
      cases w with
      | false =>
        simp only
        cases putDst nt s.env o.dst (.tup []) with
        | none => rfl
        | some e => exact draw_sig (by simp [h])
      | true =>
        simp only
        cases (aop cx s.heap.length s.env o).run s.heap [] with
        | none => rfl
        | some x =>
          obtain ⟨⟨v, u⟩, l⟩ := x
          simp only [apart_eq, h]
          split
          · cases putDst nt s.env o.dst v with
            | none => rfl
            | some e => exact draw_sig (by simp [h])
          · rfl

/-- With what was done so far as a book. -/
def WB (cx : Cx) (nt : Nat) (ops : Array Oper) (bef : Array Nat) (rest : List Oper) (j : Nat) (s : St) (b : Book) (Q : Aft) : Prop := WD cx nt ops bef rest j s (b.map ofB) Q
theorem WD_book {rest : List Oper} {j : Nat} {s : St} {done : List Did} {b : Book} (h : done.map sigD = b) : WD cx nt ops bef rest j s done Q ↔ WB cx nt ops bef rest j s b Q := by
  unfold WB WD
  rw [draw_sig (done' := b.map ofB)]
  subst h
  rw [List.map_map, List.map_map]
  exact List.map_congr_left fun d _ => (sig_of _).symm
/-- One operation's answer. -/
def BA (cx : Cx) (nt : Nat) (ops : Array Oper) (bef : Array Nat) (x : Option ((V × Upd) × List Nat)) (d : Option Tmp) (rest : List Oper) (j : Nat) (e : Env) (h : Heap) (b : Book) (Q : Aft) : Prop := match x with
  | none => False
  | some ((v, u), l) => apB bef j (ids1 u) l 0 b = true ∧ (match d with
    | none => WB cx nt ops bef rest (j + 1) ⟨e, Heap.pad (h.length + 1) (h.puts u)⟩ (b ++ [(ids1 u, l)]) Q
    | some d => d < nt ∧ WB cx nt ops bef rest (j + 1) ⟨(d, v) :: e, Heap.pad (h.length + 1) (h.puts u)⟩ (b ++ [(ids1 u, l)]) Q)
def BG (cx : Cx) (nt : Nat) (ops : Array Oper) (bef : Array Nat) (w : Option Bool) (o : Oper) (rest : List Oper) (j : Nat) (s : St) (b : Book) (Q : Aft) : Prop := match w with
  | none => False
  | some true => BA cx nt ops bef ((aop cx s.heap.length s.env o).run s.heap []) o.dst rest j s.env s.heap b Q
  | some false => match o.dst with
    | none => WB cx nt ops bef rest (j + 1) s (b ++ [([], [])]) Q
    | some d => d < nt ∧ WB cx nt ops bef rest (j + 1) ⟨(d, .tup []) :: s.env, s.heap⟩ (b ++ [([], [])]) Q
theorem book_map (b : Book) : (b.map ofB).map sigD = b := by
  rw [List.map_map]
  exact (List.map_congr_left fun p _ => sig_of p).trans (List.map_id b)
theorem WB_any {o : Oper} {r : List Oper} {j : Nat} {s : St} {b : Book} : WB cx nt ops bef (o :: r) j s b Q ↔ BG cx nt ops bef (wants ops s.env o) o r j s b Q := by
  unfold WB WD BG
  simp only [runDraw]
  cases hw : wants ops s.env o with
  | none => simp
  | some w =>
    cases w with
    | false =>
      simp only [putDst]
      cases o.dst with
      | none =>
        simp only [Option.bind_some]
        exact WD_book (by simp only [List.map_append, book_map]; rfl)
      | some d =>
        simp only
        by_cases hd : d < nt
        · simp only [hd, if_true, Option.bind_some, true_and]
          exact WD_book (by simp only [List.map_append, book_map]; rfl)
        · simp [hd]
    | true =>
      simp only [BA]
      cases (aop cx s.heap.length s.env o).run s.heap [] with
      | none => simp
      | some x =>
        obtain ⟨⟨v, u⟩, l⟩ := x
        simp only [apart_eq, book_map]
        have hs : sigD (⟨true, v, u, l⟩ : Did) = (ids1 u, l) := rfl
        simp only [hs]
        by_cases ha : apB bef j (ids1 u) l 0 b = true
        · rw [if_pos ha]
          simp only [ha, true_and, putDst]
          cases o.dst with
          | none =>
            simp only [Option.bind_some]
            exact WD_book (by simp only [List.map_append, book_map]; rfl)
          | some d =>
            simp only
            by_cases hd : d < nt
            · simp only [hd, if_true, Option.bind_some, true_and]
              exact WD_book (by simp only [List.map_append, book_map]; rfl)
            · simp [hd]
        · rw [if_neg ha]
          simp [ha]
theorem WB_cons {d : Option Tmp} {op : Op} {t : TypeId} {p : String} {af : Array Edge} {r : List Oper} {j : Nat} {e : Env} {h : Heap} {b : Book} : WB cx nt ops bef ({ dst := d, op, type := t, pos := p, after := af, guard := none } :: r) j ⟨e, h⟩ b Q ↔
    BA cx nt ops bef ((aop cx h.length e { dst := d, op, type := t, pos := p, after := af, guard := none }).run h []) d r j e h b Q := WB_any
theorem WB_guard {d : Option Tmp} {op : Op} {t : TypeId} {p : String} {af : Array Edge} {i : Nat} {w : Bool} {r : List Oper} {j : Nat} {e : Env} {h : Heap} {b : Book} : WB cx nt ops bef ({ dst := d, op, type := t, pos := p, after := af, guard := some (i, w) } :: r) j ⟨e, h⟩ b Q ↔
    BG cx nt ops bef (if skipped ops e i then some false else (yields ops e i).map (· == w)) { dst := d, op, type := t, pos := p, after := af, guard := some (i, w) } r j ⟨e, h⟩ b Q := WB_any
theorem WB_nil {j : Nat} {s : St} {b : Book} : WB cx nt ops bef [] j s b Q ↔ Q .normal s := ⟨fun ⟨s', h, q⟩ => by cases h; exact q, fun q => ⟨s, rfl, q⟩⟩
theorem BG_true {o : Oper} {r : List Oper} {j : Nat} {e : Env} {h : Heap} {b : Book} : BG cx nt ops bef (some true) o r j ⟨e, h⟩ b Q ↔ BA cx nt ops bef ((aop cx h.length e o).run h []) o.dst r j e h b Q := Iff.rfl
theorem BG_false {op : Op} {d t : Nat} {p : String} {af : Array Edge} {g : Option (Nat × Bool)} {r : List Oper} {j : Nat} {e : Env} {h : Heap} {b : Book} : BG cx nt ops bef (some false) { dst := some d, op, type := t, pos := p, after := af, guard := g } r j ⟨e, h⟩ b Q ↔
    d < nt ∧ WB cx nt ops bef r (j + 1) ⟨(d, .tup []) :: e, h⟩ (b ++ [([], [])]) Q := Iff.rfl
theorem BG_false_none {op : Op} {t : Nat} {p : String} {af : Array Edge} {g : Option (Nat × Bool)} {r : List Oper} {j : Nat} {e : Env} {h : Heap} {b : Book} : BG cx nt ops bef (some false) { dst := none, op, type := t, pos := p, after := af, guard := g } r j ⟨e, h⟩ b Q ↔
    WB cx nt ops bef r (j + 1) ⟨e, h⟩ (b ++ [([], [])]) Q := Iff.rfl
theorem BA_some {v : V} {u : Upd} {l : List Nat} {d : Nat} {r : List Oper} {j : Nat} {e : Env} {h : Heap} {b : Book} : BA cx nt ops bef (some ((v, u), l)) (some d) r j e h b Q ↔ apB bef j (ids1 u) l 0 b = true ∧ d < nt ∧ WB cx nt ops bef r (j + 1) ⟨(d, v) :: e, Heap.pad (h.length + 1) (h.puts u)⟩ (b ++ [(ids1 u, l)]) Q := Iff.rfl
theorem BA_none {v : V} {u : Upd} {l : List Nat} {r : List Oper} {j : Nat} {e : Env} {h : Heap} {b : Book} : BA cx nt ops bef (some ((v, u), l)) none r j e h b Q ↔ apB bef j (ids1 u) l 0 b = true ∧ WB cx nt ops bef r (j + 1) ⟨e, Heap.pad (h.length + 1) (h.puts u)⟩ (b ++ [(ids1 u, l)]) Q := Iff.rfl

/-! Out of what was quiet so far. -/
def sigQ (q : QD) : Book := q.l.map sigD
theorem sigQ_nil : sigQ QD.nil = [] := rfl
theorem sigQ_snoc {q : QD} {w : Bool} {v : V} {l : List Nat} : sigQ (q.snoc w v l) = sigQ q ++ [([], l)] := by
  unfold sigQ QD.snoc
  simp only [List.map_append]
  rfl
theorem QA_noise {p : Nat × Option Ob} {v : V} {u : Upd} {l : List Nat} {d : Nat} {r : List Oper} {j : Nat} {e : Env} {h : Heap} {q : QD} : QA cx nt ops bef (some ((v, p :: u), l)) (some d) r j e h q Q ↔
    apB bef j (ids1 (p :: u)) l 0 (sigQ q) = true ∧ d < nt ∧ WB cx nt ops bef r (j + 1) ⟨(d, v) :: e, Heap.pad (h.length + 1) (h.puts (p :: u))⟩ (sigQ q ++ [(ids1 (p :: u), l)]) Q := by
  unfold QA
  simp only [apart_eq]
  refine and_congr Iff.rfl (and_congr Iff.rfl ?_)
  exact WD_book (by simp only [List.map_append]; rfl)
theorem QA_noise_none {p : Nat × Option Ob} {v : V} {u : Upd} {l : List Nat} {r : List Oper} {j : Nat} {e : Env} {h : Heap} {q : QD} : QA cx nt ops bef (some ((v, p :: u), l)) none r j e h q Q ↔
    apB bef j (ids1 (p :: u)) l 0 (sigQ q) = true ∧ WB cx nt ops bef r (j + 1) ⟨e, Heap.pad (h.length + 1) (h.puts (p :: u))⟩ (sigQ q ++ [(ids1 (p :: u), l)]) Q := by
  unfold QA
  simp only [apart_eq]
  refine and_congr Iff.rfl ?_
  exact WD_book (by simp only [List.map_append]; rfl)

/-! A call's answer that is a new object. -/
theorem callV_clone {T : TT} {fns : FuncId → Option AFn} {g : FuncId} {fn : AFn} (hfn : fns g = some fn) {st bytes : Nat} (hi : fn.intr = some (st, bytes)) (hst : st ≠ 0) {rows : List (List V)} (hr : rows.all (fun r => r.length == st) = true) (hb : rows.length * bytes ≤ 140737488355328) (n : Nat) :
    callV (LX T fns) n (.clo g []) [.fz rows] = .pure (.ms n st 0 rows.length none, [(n, some (.buf st rows false true))]) := by
  have h : lim T fns g [.fz rows] [] = some (.ms 0 st 0 rows.length none, [some (.buf st rows false true)]) := lim_of T fns ⟨1, fun R d hR hd => by
    obtain ⟨d, rfl⟩ : ∃ d', d = d' + 1 := ⟨d - 1, by omega⟩
    simp only [acall, hfn, hi, cloneFn]
    rw [if_pos ⟨hst, hr, hb⟩]⟩
  unfold callV
  simp only [hfn]
  unfold callR
  rw [plainArgs_frz _ _ _ (by rfl), plainAll_ids _ (by rfl)]
  show withR (lim T fns g) n [.fz rows] [] [] = _
  unfold withR
  simp only [List.map_nil, upd1, List.all_nil, Bool.and_self, if_true, plainAll_re _ [.fz rows] (by rfl), pullObs, h, List.length_nil, Nat.zero_le]
  unfold afterR
  simp only [List.length_cons, List.length_nil, Nat.zero_add, V.re, back, nth, Nat.lt_one_iff, if_true, Option.map_some, pushObs, Ob.re, Option.bind_some, List.isEmpty_cons, Bool.and_false, Bool.false_and, Bool.false_eq_true, if_false, Nat.sub_self, Nat.add_zero, List.append_nil]
end Go.Proofs.Ytfdemnefkfkghaa.R
/- What a run within bounds answers is answered without bounds. -/
namespace Go.Proofs.Ytfdemnefkfkghaa.R
set_option linter.unusedVariables false
set_option linter.unusedSimpArgs false
open Go

section
variable (T : TT) (fns : FuncId → Option AFn) {c c' : FuncId → Fun} (hc : ∀ g a h r, c g a h = some r → c' g a h = some r)
include hc

theorem code_imp {ntmps keep : Nat} {gcs : List AGc} {R : Nat} {k : Code} {id : Option Nat} {s : St} {r : Ex × St} (h : acode { T, fns, call := c } ntmps keep R gcs k id s = some r) : acode { T, fns, call := c' } ntmps keep R gcs k id s = some r :=
  acode_le T fns hc (Nat.le_refl _) h

theorem runFn_imp {fn : AFn} {R : Nat} {args : List V} {hs : List Ob} {r : V × Heap} (h : runFn { T, fns, call := c } fn R args hs = some r) : runFn { T, fns, call := c' } fn R args hs = some r := by
  unfold runFn at h ⊢
  split at h
  · cases h
  · rename_i hl
    rw [if_neg hl]
    rw [Option.bind_eq_some_iff] at h ⊢
    obtain ⟨x, h1, h2⟩ := h
    exact ⟨x, code_imp T fns hc h1, h2⟩
end

theorem acall_lim {T : TT} {fns : FuncId → Option AFn} {R : Nat} : ∀ {d : Nat} {g : FuncId} {a : List V} {h : List Ob} {r : V × Heap}, acall T fns R d g a h = some r → lim T fns g a h = some r
  | 0, g, a, h, r, hx => by simp [acall] at hx
  | d + 1, g, a, h, r, hx => by
    unfold acall at hx
    cases hf : fns g with
    | none => simp [hf] at hx
    | some fn =>
      simp only [hf] at hx
      cases hi : fn.intr with
      | some p =>
        simp only [hi] at hx
        refine lim_of T fns ⟨1, fun R' d' _ hd => ?_⟩
        obtain ⟨d', rfl⟩ : ∃ d'', d' = d'' + 1 := ⟨d' - 1, by omega⟩
        simp only [acall, hf, hi]
        exact hx
      | none =>
        simp only [hi] at hx
        exact lim_run T fns hf hi (runFn_imp T fns (fun g a h r hx => acall_lim hx) hx)
/-- An answer without bounds is one within some. -/
theorem lim_acall {T : TT} {fns : FuncId → Option AFn} {g : FuncId} {a : List V} {h : List Ob} {r : V × Heap} (hx : lim T fns g a h = some r) : ∃ R d, acall T fns R d g a h = some r := by
  obtain ⟨i, hi⟩ := lim_evt T fns hx
  exact ⟨i, i, hi i i (Nat.le_refl _) (Nat.le_refl _)⟩

/-! An answer that is told of, not named. -/
def PF (P : V × Heap → Prop) (x : Option (V × Heap)) : Prop := ∃ r, x = some r ∧ P r
def EQ (T : TT) (res : List ResultVar) (rfz : Bool) (keep : Nat) (P : V × Heap → Prop) : Aft := fun ex s => match ex with
  | .normal | .ret => PF P ((resAll T s res).bind fun vs => finish keep rfz (oneOf vs) s.heap)
  | _ => False
theorem EQ_ret {T : TT} {res : List ResultVar} {rfz : Bool} {keep : Nat} {P : V × Heap → Prop} {s : St} : EQ T res rfz keep P .ret s ↔ PF P ((resAll T s res).bind fun vs => finish keep rfz (oneOf vs) s.heap) := Iff.rfl
theorem EQ_normal {T : TT} {res : List ResultVar} {rfz : Bool} {keep : Nat} {P : V × Heap → Prop} {s : St} : EQ T res rfz keep P .normal s ↔ PF P ((resAll T s res).bind fun vs => finish keep rfz (oneOf vs) s.heap) := Iff.rfl
theorem fn_rule_ex {T : TT} {fns : FuncId → Option AFn} {g : FuncId} {fn : AFn} (hfn : fns g = some fn) (hi : fn.intr = none) {args : List V} {hs : List Ob} {P : V × Heap → Prop} (hl : args.length ≤ fn.ntmps)
    (h : W (LX T fns) ⟨fn.ntmps, hs.length, fn.gcs⟩ fn.body none ⟨argEnv 0 args, hs.map some⟩ (EQ T fn.res fn.rfz hs.length P)) : ∃ r, lim T fns g args hs = some r ∧ P r := by
  obtain ⟨R, ex, s', h1, q⟩ := h
  have key : ∀ r, ((resAll T s' fn.res).bind fun vs => finish hs.length fn.rfz (oneOf vs) s'.heap) = some r → (ex = .normal ∨ ex = .ret) → lim T fns g args hs = some r := by
    intro r hr he
    refine lim_run T fns hfn hi (R0 := R) ?_
    unfold runFn
    rw [if_neg (by omega), Option.bind_eq_some_iff]
    refine ⟨_, h1, ?_⟩
    rcases he with rfl | rfl <;> exact hr
  cases ex with
  | normal =>
    obtain ⟨r, hr, hP⟩ := q
    exact ⟨r, key r hr (.inl rfl), hP⟩
  | ret =>
    obtain ⟨r, hr, hP⟩ := q
    exact ⟨r, key r hr (.inr rfl), hP⟩
  | exit i => exact q.elim
end Go.Proofs.Ytfdemnefkfkghaa.R
/- Stepping: lists that grow. -/
namespace Go.Proofs.Ytfdemnefkfkghaa.R
set_option linter.unusedVariables false
set_option linter.unusedSimpArgs false
open Go

theorem append_one {ti : TI} {n i st l : Nat} {row : List V} {np : Bool} {h : Heap} {tr : List Nat} {st' : Nat} {rows : List (List V)} {frz pure : Bool} (hat : h.at? i = some (.buf st' rows frz pure))
    (h1 : st = ti.size) (h2 : st' = ti.size) (h3 : l = rows.length) (h4 : (l + 1) * ti.bytes ≤ 140737488355328) (h5 : l + 1 ≤ 140737488355328) :
    (appendR ti n (.ms i st 0 l none) [row] np).run h tr = some ((.ms n st 0 (l + 1) none, [(i, none), (n, some (.buf st (rows ++ [row]) frz (pure && np)))]), i :: tr) := by
  subst h1
  subst h2
  subst h3
  unfold appendR
  simp only [List.length_cons, List.length_nil, Nat.zero_add, Nat.add_one_ne_zero, if_false, if_true, Rd.run, hat]
  rw [if_pos ⟨trivial, Nat.le_refl _, h4, h5⟩]
  unfold appendM
  simp only [List.length_cons, List.length_nil, Nat.zero_add]
  rw [if_neg (by omega), if_pos (by simp)]
  simp [Rd.run]

/-- As simp sees it: the object first, then one element behind it. -/
def appL (ti : TI) (n i st l : Nat) (row : List V) (np : Bool) (h : Heap) (tr : List Nat) (x : Option Ob) : Option ((V × Upd) × List Nat) := match x with
  | some o => (appendR ti n (.ms i st 0 l none) [row] np).run (Heap.put [] i (some o)) tr
  | none => none
theorem append_look {ti : TI} {n i st l : Nat} {row : List V} {np : Bool} {h : Heap} {tr : List Nat} : (appendR ti n (.ms i st 0 l none) [row] np).run h tr = appL ti n i st l row np h tr (h.at? i) := by
  unfold appL
  by_cases hst : st = ti.size
  · cases ho : h.at? i with
    | none =>
      unfold appendR
      simp [hst, Rd.run, ho]
    | some o =>
      have hp : Heap.at? (Heap.put [] i (some o)) i = some o := by rw [at?_put, if_pos rfl]
      unfold appendR
      simp only [List.length_cons, List.length_nil, Nat.zero_add, Nat.add_one_ne_zero, if_false, hst, if_true, Rd.run, ho, hp]
      cases o with
      | mp es p => rfl
      | buf st' rows frz pure =>
        simp only
        split
        · unfold appendM
          simp only
          split
          · split <;> rfl
          · split <;> rfl
        · rfl
  · unfold appendR
    cases h.at? i with
    | none => simp [hst, Rd.run]
    | some o => simp [hst, Rd.run]
theorem appL_some {ti : TI} {n i st l : Nat} {row : List V} {np : Bool} {h : Heap} {tr : List Nat} {st' : Nat} {rows : List (List V)} {frz pure : Bool} 
    (h1 : st = ti.size) (h2 : st' = ti.size) (h3 : l = rows.length) (h4 : (l + 1) * ti.bytes ≤ 140737488355328) (h5 : l + 1 ≤ 140737488355328) :
    appL ti n i st l row np h tr (some (.buf st' rows frz pure)) = some ((.ms n st 0 (l + 1) none, [(i, none), (n, some (.buf st (rows ++ [row]) frz (pure && np)))]), i :: tr) :=
  append_one (by rw [at?_put, if_pos rfl]) h1 h2 h3 h4 h5

/-- The answer is a whole list of an object of the call's own. -/
theorem finish_ms {h : Heap} {i st n : Nat} {c : Option Nat} {rows : List (List V)} {f : Bool} (hat : h.at? i = some (.buf st rows f true)) (hl : n = rows.length) : finish 0 true (.ms i st 0 n c) h = some (.fz rows, []) := by
  refine finish_true (u := [(i, some (.buf st rows true true))]) (l := [i]) ?_ rfl
  simp only [frz, frzAll, frzG, frzGAll, ms2, msUp, Rd.run, hat]
  rw [if_pos ⟨trivial, by omega⟩, hl]
  simp [Rd.run]

/-! Many elements. -/
theorem append_more {ti : TI} {n i st l : Nat} {new : List (List V)} {np : Bool} {h : Heap} {tr : List Nat} {st' : Nat} {rows : List (List V)} {frz pure : Bool} (hat : h.at? i = some (.buf st' rows frz pure)) (h0 : new.length ≠ 0)
    (h1 : st = ti.size) (h2 : st' = ti.size) (h3 : l = rows.length) (h4 : (l + new.length) * ti.bytes ≤ 140737488355328) (h5 : l + new.length ≤ 140737488355328) :
    (appendR ti n (.ms i st 0 l none) new np).run h tr = some ((.ms n st 0 (l + new.length) none, [(i, none), (n, some (.buf st (rows ++ new) frz (pure && np)))]), i :: tr) := by
  subst h1
  subst h2
  subst h3
  unfold appendR
  simp only [h0, if_false, if_true, Rd.run, hat]
  rw [if_pos ⟨trivial, by omega, h4, h5⟩]
  unfold appendM
  simp only
  rw [if_neg (by omega), if_pos (by simp)]
  simp [Rd.run]
def appN (ti : TI) (n i st l : Nat) (new : List (List V)) (np : Bool) (h : Heap) (tr : List Nat) (x : Option Ob) : Option ((V × Upd) × List Nat) := match x with
  | some o => (appendR ti n (.ms i st 0 l none) new np).run (Heap.put [] i (some o)) tr
  | none => none
theorem append_many {ti : TI} {n i st l : Nat} {new : List (List V)} {np : Bool} {h : Heap} {tr : List Nat} (h0 : new.length ≠ 0) : (appendR ti n (.ms i st 0 l none) new np).run h tr = appN ti n i st l new np h tr (h.at? i) := by
  unfold appN
  by_cases hst : st = ti.size
  · cases ho : h.at? i with
    | none =>
      unfold appendR
      simp only [h0, if_false, hst, if_true, Rd.run, ho]
    | some o =>
      have hp : Heap.at? (Heap.put [] i (some o)) i = some o := by rw [at?_put, if_pos rfl]
      unfold appendR
      simp only [h0, if_false, hst, if_true, Rd.run, ho, hp]
      cases o with
      | mp es p => rfl
      | buf st' rows frz pure =>
        simp only
        split
        · unfold appendM
          simp only
          split
          · split <;> rfl
          · split <;> rfl
        · rfl
  · unfold appendR
    simp only [h0, if_false, hst]
    cases h.at? i with
    | none => simp [Rd.run]
    | some o => simp [Rd.run]
theorem appN_some {ti : TI} {n i st l : Nat} {new : List (List V)} {np : Bool} {h : Heap} {tr : List Nat} {st' : Nat} {rows : List (List V)} {frz pure : Bool} (h0 : new.length ≠ 0)
    (h1 : st = ti.size) (h2 : st' = ti.size) (h3 : l = rows.length) (h4 : (l + new.length) * ti.bytes ≤ 140737488355328) (h5 : l + new.length ≤ 140737488355328) :
    appN ti n i st l new np h tr (some (.buf st' rows frz pure)) = some ((.ms n st 0 (l + new.length) none, [(i, none), (n, some (.buf st (rows ++ new) frz (pure && np)))]), i :: tr) :=
  append_more (by rw [at?_put, if_pos rfl]) h0 h1 h2 h3 h4 h5
theorem append_none {ti : TI} {n i st o l : Nat} {c : Option Nat} {np : Bool} : appendR ti n (.ms i st o l c) [] np = .pure (.ms i st o l c, []) := by
  unfold appendR
  simp
end Go.Proofs.Ytfdemnefkfkghaa.R
/- Structs compared. -/
namespace Go.Proofs.Ytfdemnefkfkghaa.R
open Go
set_option linter.unusedSimpArgs false
theorem eqV4 (x y : Bool) : eqV T 4 (.bool x) (.bool y) = some (x == y) := by simp [eqV, T_4]
theorem eq145 (x y : S145) : eqV T 145 (.agg [.str x.f0, .str x.f1]) (.agg [.str y.f0, .str y.f1]) = some (decide (x = y)) := by
  obtain ⟨a0, a1⟩ := x
  obtain ⟨b0, b1⟩ := y
  by_cases h0 : a0 = b0
  case neg => simp [eqV, eqAgg, eqKind, ba_beq, T_9, T_145, h0]
  by_cases h1 : a1 = b1
  case neg => simp [eqV, eqAgg, eqKind, ba_beq, T_9, T_145, h0, h1]
  simp [eqV, eqAgg, eqKind, ba_beq, T_9, T_145, h0, h1]
theorem eq100 (x y : S100) : eqV T 100 (.agg [.int .u32 x.f0, .int .u16 x.f1, .str x.f2.f0, .str x.f2.f1]) (.agg [.int .u32 y.f0, .int .u16 y.f1, .str y.f2.f0, .str y.f2.f1]) = some (decide (x = y)) := by
  obtain ⟨a0, a1, ⟨a2, a3⟩⟩ := x
  obtain ⟨b0, b1, ⟨b2, b3⟩⟩ := y
  by_cases h0 : a0 = b0
  case neg => simp [eqV, eqAgg, eqKind, ba_beq, T_9, T_42, T_96, T_98, T_100, h0]
  by_cases h1 : a1 = b1
  case neg => simp [eqV, eqAgg, eqKind, ba_beq, T_9, T_42, T_96, T_98, T_100, h0, h1]
  by_cases h2 : a2 = b2
  case neg => simp [eqV, eqAgg, eqKind, ba_beq, T_9, T_42, T_96, T_98, T_100, h0, h1, h2]
  by_cases h3 : a3 = b3
  case neg => simp [eqV, eqAgg, eqKind, ba_beq, T_9, T_42, T_96, T_98, T_100, h0, h1, h2, h3]
  simp [eqV, eqAgg, eqKind, ba_beq, T_9, T_42, T_96, T_98, T_100, h0, h1, h2, h3]
theorem eq98 (x y : S98) : eqV T 98 (.agg [.str x.f0, .str x.f1]) (.agg [.str y.f0, .str y.f1]) = some (decide (x = y)) := by
  obtain ⟨a0, a1⟩ := x
  obtain ⟨b0, b1⟩ := y
  by_cases h0 : a0 = b0
  case neg => simp [eqV, eqAgg, eqKind, ba_beq, T_9, T_98, h0]
  by_cases h1 : a1 = b1
  case neg => simp [eqV, eqAgg, eqKind, ba_beq, T_9, T_98, h0, h1]
  simp [eqV, eqAgg, eqKind, ba_beq, T_9, T_98, h0, h1]
theorem eq121 (x y : S121) : eqV T 121 (.agg [.int .u8 x.f0, .str x.f1, .str x.f2, .int .u32 x.f3, .int .u16 x.f4, .str x.f5]) (.agg [.int .u8 y.f0, .str y.f1, .str y.f2, .int .u32 y.f3, .int .u16 y.f4, .str y.f5]) = some (decide (x = y)) := by
  obtain ⟨a0, a1, a2, a3, a4, a5⟩ := x
  obtain ⟨b0, b1, b2, b3, b4, b5⟩ := y
  by_cases h0 : a0 = b0
  case neg => simp [eqV, eqAgg, eqKind, ba_beq, T_5, T_9, T_42, T_96, T_121, h0]
  by_cases h1 : a1 = b1
  case neg => simp [eqV, eqAgg, eqKind, ba_beq, T_5, T_9, T_42, T_96, T_121, h0, h1]
  by_cases h2 : a2 = b2
  case neg => simp [eqV, eqAgg, eqKind, ba_beq, T_5, T_9, T_42, T_96, T_121, h0, h1, h2]
  by_cases h3 : a3 = b3
  case neg => simp [eqV, eqAgg, eqKind, ba_beq, T_5, T_9, T_42, T_96, T_121, h0, h1, h2, h3]
  by_cases h4 : a4 = b4
  case neg => simp [eqV, eqAgg, eqKind, ba_beq, T_5, T_9, T_42, T_96, T_121, h0, h1, h2, h3, h4]
  by_cases h5 : a5 = b5
  case neg => simp [eqV, eqAgg, eqKind, ba_beq, T_5, T_9, T_42, T_96, T_121, h0, h1, h2, h3, h4, h5]
  simp [eqV, eqAgg, eqKind, ba_beq, T_5, T_9, T_42, T_96, T_121, h0, h1, h2, h3, h4, h5]
theorem eq184 (x y : S184) : eqV T 184 (.agg [.int .u32 x.f0, .int .u32 x.f1]) (.agg [.int .u32 y.f0, .int .u32 y.f1]) = some (decide (x = y)) := by
  obtain ⟨a0, a1⟩ := x
  obtain ⟨b0, b1⟩ := y
  by_cases h0 : a0 = b0
  case neg => simp [eqV, eqAgg, eqKind, ba_beq, T_42, T_184, h0]
  by_cases h1 : a1 = b1
  case neg => simp [eqV, eqAgg, eqKind, ba_beq, T_42, T_184, h0, h1]
  simp [eqV, eqAgg, eqKind, ba_beq, T_42, T_184, h0, h1]
theorem eq179 (x y : S179) : eqV T 179 (.agg [.str x.f0, .int .u32 x.f1, .int .u16 x.f2]) (.agg [.str y.f0, .int .u32 y.f1, .int .u16 y.f2]) = some (decide (x = y)) := by
  obtain ⟨a0, a1, a2⟩ := x
  obtain ⟨b0, b1, b2⟩ := y
  by_cases h0 : a0 = b0
  case neg => simp [eqV, eqAgg, eqKind, ba_beq, T_9, T_42, T_96, T_179, h0]
  by_cases h1 : a1 = b1
  case neg => simp [eqV, eqAgg, eqKind, ba_beq, T_9, T_42, T_96, T_179, h0, h1]
  by_cases h2 : a2 = b2
  case neg => simp [eqV, eqAgg, eqKind, ba_beq, T_9, T_42, T_96, T_179, h0, h1, h2]
  simp [eqV, eqAgg, eqKind, ba_beq, T_9, T_42, T_96, T_179, h0, h1, h2]
end Go.Proofs.Ytfdemnefkfkghaa.R
/- Stepping through loops over iterators. -/
namespace Go.Proofs.Ytfdemnefkfkghaa.R
set_option linter.unusedVariables false
set_option linter.unusedSimpArgs false
open Go

/-- Rounds, by the bound: with more of it there is no other answer. -/
structure CBs where
  f : Nat → CB
  mono : ∀ R R', R ≤ R' → ∀ args h x, f R args h = some x → f R' args h = some x

abbrev AftI := Ex → ISt → Prop
/-- An iterator's code, run from 's' on, ends as 'Q' says. -/
def WI (cx : Cx) (fr : Fr) (cb : CBs) (c : Code) (id : Option Nat) (s : ISt) (Q : AftI) : Prop := ∃ R ex s', icode cx fr.nt fr.keep R fr.gcs (cb.f R) c id s = some (ex, s') ∧ Q ex s'
def SQI (cx : Cx) (fr : Fr) (cb : CBs) (b : Code) (Q : AftI) : AftI := fun ex s => match ex with
  | .normal => WI cx fr cb b none s Q
  | ex => Q ex s
def BQI (i : Nat) (Q : AftI) : AftI := fun ex s => match ex with
  | .exit j => if j = i then Q .normal s else Q (.exit j) s
  | ex => Q ex s
def WCI (cx : Cx) (fr : Fr) (cb : CBs) (v : V) (a b : Code) (s : ISt) (Q : AftI) : Prop := match v with
  | .bool x => if x = true then WI cx fr cb a none s Q else WI cx fr cb b none s Q
  | _ => False
def WIO (cx : Cx) (nt : Nat) (cb : CBs) (ops : Array Oper) (rest : List Oper) (s : ISt) (Q : AftI) : Prop := ∃ R s', iOps cx nt (cb.f R) ops rest s = some s' ∧ Q .normal s'
/-- A round. -/
def CW (cb : CBs) (args : List V) (h : Heap) (K : Option Ex → Heap → Prop) : Prop := ∃ R st h', cb.f R args h = some (st, h') ∧ K st h'
def WIN (cx : Cx) (nt : Nat) (cb : CBs) (ops : Array Oper) (d : Option Tmp) (v : V) (rest : List Oper) (e : Env) (h : Heap) (y : List Nat) (st : Option Ex) (Q : AftI) : Prop := match d with
  | none => WIO cx nt cb ops rest ⟨e, h, y, st⟩ Q
  | some d => d < nt ∧ WIO cx nt cb ops rest ⟨(d, v) :: e, h, y, st⟩ Q
def WIY (cx : Cx) (nt : Nat) (cb : CBs) (ops : Array Oper) (ya : Option (List Operand)) (x : Option ((V × Upd) × List Nat)) (o : Oper) (rest : List Oper) (e : Env) (h : Heap) (y : List Nat) (st : Option Ex) (Q : AftI) : Prop := match ya with
  | some ars => st = none ∧ CW cb (evs e ars) h (fun st' h' => WIN cx nt cb ops o.dst (.bool st'.isNone) rest e h' (yDrop o.dst y) st' Q)
  | none => match x with
    | none => False
    | some ((v, u), _) => WIN cx nt cb ops o.dst v rest e (h.puts u) (yNext o y) st Q
def YQ (ops : Array Oper) (y : List Nat) (st : Option Ex) (Q : AftI) : Aft := fun ex t => Q ex ⟨t.env, t.heap, yDrops ops.toList y, st⟩

section
variable {cx : Cx} {fr : Fr} {nt : Nat} {cb : CBs} {ops : Array Oper} {a b c : Code} {id : Option Nat} {s : ISt} {Q : AftI}

theorem icode_mono {keep R R' : Nat} {gcs : List AGc} (hR : R ≤ R') {r : Ex × ISt} (h : icode cx nt keep R gcs (cb.f R) c id s = some r) : icode cx nt keep R' gcs (cb.f R') c id s = some r :=
  icode_le cx.T cx.fns (c := cx.call) (fun _ _ _ _ h => h) (cb.mono R R' hR) hR h
theorem iops_mono {R R' : Nat} (hR : R ≤ R') {rest : List Oper} {s' : ISt} (h : iOps cx nt (cb.f R) ops rest s = some s') : iOps cx nt (cb.f R') ops rest s = some s' :=
  iops_le cx.T cx.fns (c := cx.call) (fun _ _ _ _ h => h) (cb.mono R R' hR) h

theorem WI_skip : WI cx fr cb .skip id s Q ↔ Q .normal s := ⟨fun ⟨R, ex, s', h, q⟩ => by cases h; exact q, fun q => ⟨0, _, _, rfl, q⟩⟩
theorem WI_exit {i : Nat} : WI cx fr cb (.exit i) id s Q ↔ Q (.exit i) s := ⟨fun ⟨R, ex, s', h, q⟩ => by cases h; exact q, fun q => ⟨0, _, _, rfl, q⟩⟩
theorem WI_ret : WI cx fr cb .ret id s Q ↔ Q .ret s := ⟨fun ⟨R, ex, s', h, q⟩ => by cases h; exact q, fun q => ⟨0, _, _, rfl, q⟩⟩
theorem WI_seq : WI cx fr cb (.seq a b) id s Q ↔ WI cx fr cb a none s (SQI cx fr cb b Q) := by
  constructor
  · rintro ⟨R, ex, s', h, q⟩
    simp only [icode, Option.bind_eq_some_iff] at h
    obtain ⟨⟨ex1, s1⟩, h1, h2⟩ := h
    refine ⟨R, ex1, s1, h1, ?_⟩
    cases ex1 with
    | normal => exact ⟨R, ex, s', h2, q⟩
    | exit k => cases h2; exact q
    | ret => cases h2; exact q
  · rintro ⟨R, ex, s', h, q⟩
    cases ex with
    | normal =>
      obtain ⟨R2, ex2, s2, h2, q2⟩ := q
      refine ⟨max R R2, ex2, s2, ?_, q2⟩
      simp only [icode, Option.bind_eq_some_iff]
      exact ⟨_, icode_mono (Nat.le_max_left _ _) h, icode_mono (Nat.le_max_right _ _) h2⟩
    | exit k => exact ⟨R, _, _, by simp only [icode, h]; rfl, q⟩
    | ret => exact ⟨R, _, _, by simp only [icode, h]; rfl, q⟩
theorem SQI_normal : SQI cx fr cb b Q .normal s ↔ WI cx fr cb b none s Q := Iff.rfl
theorem SQI_exit {i : Nat} : SQI cx fr cb b Q (.exit i) s ↔ Q (.exit i) s := Iff.rfl
theorem SQI_ret : SQI cx fr cb b Q .ret s ↔ Q .ret s := Iff.rfl

theorem WI_block {i : Nat} : WI cx fr cb (.block i c) id s Q ↔ WI cx fr cb c (some i) s (BQI i Q) := by
  constructor
  · rintro ⟨R, ex, s', h, q⟩
    simp only [icode, Option.map_eq_some_iff] at h
    obtain ⟨⟨ex1, s1⟩, h1, h2⟩ := h
    refine ⟨R, ex1, s1, h1, ?_⟩
    cases ex1 with
    | normal => cases h2; exact q
    | exit k =>
      simp only at h2
      show if k = i then _ else _
      split
      · rename_i e; rw [if_pos e] at h2; cases h2; exact q
      · rename_i e; rw [if_neg e] at h2; cases h2; exact q
    | ret => cases h2; exact q
  · rintro ⟨R, ex, s', h, q⟩
    cases ex with
    | normal => exact ⟨R, _, _, by simp only [icode, h]; rfl, q⟩
    | exit k =>
      by_cases e : k = i
      · have q' : Q .normal s' := by
          have : (if k = i then Q .normal s' else Q (.exit k) s') := q
          rwa [if_pos e] at this
        exact ⟨R, .normal, s', by simp only [icode, h, Option.map_some, if_pos e], q'⟩
      · have q' : Q (.exit k) s' := by
          have : (if k = i then Q .normal s' else Q (.exit k) s') := q
          rwa [if_neg e] at this
        exact ⟨R, .exit k, s', by simp only [icode, h, Option.map_some, if_neg e], q'⟩
    | ret => exact ⟨R, _, _, by simp only [icode, h]; rfl, q⟩
theorem BQI_normal {i : Nat} : BQI i Q .normal s ↔ Q .normal s := Iff.rfl
theorem BQI_exit {i j : Nat} : BQI i Q (.exit j) s ↔ if j = i then Q .normal s else Q (.exit j) s := Iff.rfl
theorem BQI_ret {i : Nat} : BQI i Q .ret s ↔ Q .ret s := Iff.rfl

theorem WI_cond {x : Operand} : WI cx fr cb (.cond x a b) id s Q ↔ WCI cx fr cb (ev s.env x) a b s Q := by
  unfold WI WCI
  simp only [icode]
  generalize ev s.env x = v
  cases v with
  | bool y =>
    cases y with
    | true => rfl
    | false => simp [WI]
  | _ => simp
theorem WCI_bool {x : Bool} : WCI cx fr cb (.bool x) a b s Q ↔ if x = true then WI cx fr cb a none s Q else WI cx fr cb b none s Q := Iff.rfl

theorem WI_region {i : Nat} : WI cx fr cb (.region i ops false) id s Q ↔ WIO cx fr.nt cb ops ops.toList s Q := by
  constructor
  · rintro ⟨R, ex, s', h, q⟩
    simp only [icode, Bool.false_eq_true, if_false, Option.map_eq_some_iff, Prod.mk.injEq] at h
    obtain ⟨s1, h1, rfl, rfl⟩ := h
    exact ⟨R, s1, h1, q⟩
  · rintro ⟨R, s', h, q⟩
    exact ⟨R, _, _, by simp only [icode, Bool.false_eq_true, if_false, h]; rfl, q⟩
theorem WI_draw {i : Nat} {e : Env} {h : Heap} {y : List Nat} {st : Option Ex} : WI cx fr cb (.region i ops true) id ⟨e, h, y, st⟩ Q ↔ (ops.toList.all (fun o => (yArgs o y).isNone)) = true ∧ WQ cx fr.nt ops (Region.before ops) ops.toList 0 ⟨e, h⟩ QD.nil (YQ ops y st Q) := by
  constructor
  · rintro ⟨R, ex, s', h, q⟩
    simp only [icode, if_true] at h
    split at h
    · rename_i hall
      simp only [Option.map_eq_some_iff, Prod.mk.injEq] at h
      obtain ⟨t, h1, rfl, rfl⟩ := h
      exact ⟨hall, t, h1, q⟩
    · cases h
  · rintro ⟨hall, t, h1, q⟩
    have h1' : runDraw cx fr.nt ops (Region.before ops) ops.toList 0 ⟨e, h⟩ [] = some t := h1
    exact ⟨0, _, _, by simp only [icode, if_true, if_pos hall, h1']; rfl, q⟩
theorem YQ_normal {y : List Nat} {st : Option Ex} {e : Env} {h : Heap} : YQ ops y st Q .normal ⟨e, h⟩ ↔ Q .normal ⟨e, h, yDrops ops.toList y, st⟩ := Iff.rfl

theorem WIO_nil : WIO cx nt cb ops [] s Q ↔ Q .normal s := ⟨fun ⟨R, s', h, q⟩ => by cases h; exact q, fun q => ⟨0, s, rfl, q⟩⟩
theorem WIN_some {d : Nat} {v : V} {r : List Oper} {e : Env} {h : Heap} {y : List Nat} {st : Option Ex} : WIN cx nt cb ops (some d) v r e h y st Q ↔ d < nt ∧ WIO cx nt cb ops r ⟨(d, v) :: e, h, y, st⟩ Q := Iff.rfl
theorem WIN_none {v : V} {r : List Oper} {e : Env} {h : Heap} {y : List Nat} {st : Option Ex} : WIN cx nt cb ops none v r e h y st Q ↔ WIO cx nt cb ops r ⟨e, h, y, st⟩ Q := Iff.rfl
theorem WIN_iff {d : Option Tmp} {v : V} {r : List Oper} {e : Env} {h : Heap} {y : List Nat} {st : Option Ex} : WIN cx nt cb ops d v r e h y st Q ↔ ∃ e', putDst nt e d v = some e' ∧ WIO cx nt cb ops r ⟨e', h, y, st⟩ Q := by
  cases d with
  | none => simp [WIN, putDst]
  | some d =>
    simp only [WIN, putDst]
    by_cases hd : d < nt
    · simp [hd]
    · simp [hd]
theorem WIO_cons {d : Option Tmp} {op : Op} {t : TypeId} {p : String} {af : Array Edge} {r : List Oper} {e : Env} {h : Heap} {y : List Nat} {st : Option Ex} : WIO cx nt cb ops ({ dst := d, op, type := t, pos := p, after := af, guard := none } :: r) ⟨e, h, y, st⟩ Q ↔
    WIY cx nt cb ops (yArgs { dst := d, op, type := t, pos := p, after := af, guard := none } y) ((aop cx h.length e { dst := d, op, type := t, pos := p, after := af, guard := none }).run h []) { dst := d, op, type := t, pos := p, after := af, guard := none } r e h y st Q := by
  generalize ho : ({ dst := d, op, type := t, pos := p, after := af, guard := none } : Oper) = o
  have hw : wants ops e o = some true := by subst ho; rfl
  unfold WIY
  constructor
  · rintro ⟨R, s', h1, q⟩
    simp only [iOps, hw] at h1
    cases hy : yArgs o y with
    | some ars =>
      simp only [hy] at h1 ⊢
      cases st with
      | some x => simp at h1
      | none =>
        simp only at h1
        cases hc : cb.f R (evs e ars) h with
        | none => simp [hc] at h1
        | some x =>
          obtain ⟨st', h'⟩ := x
          simp only [hc, Option.bind_eq_some_iff] at h1
          obtain ⟨e', h2, h3⟩ := h1
          exact ⟨rfl, R, st', h', hc, WIN_iff.2 ⟨e', h2, R, s', h3, q⟩⟩
    | none =>
      simp only [hy] at h1 ⊢
      cases hrun : (aop cx h.length e o).run h [] with
      | none => simp [hrun] at h1
      | some x =>
        obtain ⟨⟨v, u⟩, l⟩ := x
        simp only [hrun, Option.bind_eq_some_iff] at h1 ⊢
        obtain ⟨e', h2, h3⟩ := h1
        exact WIN_iff.2 ⟨e', h2, R, s', h3, q⟩
  · intro hh
    cases hy : yArgs o y with
    | some ars =>
      simp only [hy] at hh
      obtain ⟨rfl, R, st', h', hc, hk⟩ := hh
      obtain ⟨e', h2, R2, s', h3, q⟩ := WIN_iff.1 hk
      refine ⟨max R R2, s', ?_, q⟩
      simp only [iOps, hw, hy, cb.mono R _ (Nat.le_max_left R R2) _ _ _ hc, Option.bind_eq_some_iff]
      exact ⟨e', h2, iops_mono (Nat.le_max_right _ _) h3⟩
    | none =>
      simp only [hy] at hh
      cases hrun : (aop cx h.length e o).run h [] with
      | none => simp [hrun] at hh
      | some x =>
        obtain ⟨⟨v, u⟩, l⟩ := x
        simp only [hrun] at hh
        obtain ⟨e', h2, R2, s', h3, q⟩ := WIN_iff.1 hh
        refine ⟨R2, s', ?_, q⟩
        simp only [iOps, hw, hy, hrun, Option.bind_eq_some_iff]
        exact ⟨e', h2, h3⟩
theorem WIY_yield {ars : List Operand} {x : Option ((V × Upd) × List Nat)} {o : Oper} {r : List Oper} {e : Env} {h : Heap} {y : List Nat} {st : Option Ex} : WIY cx nt cb ops (some ars) x o r e h y st Q ↔ st = none ∧ CW cb (evs e ars) h (fun st' h' => WIN cx nt cb ops o.dst (.bool st'.isNone) r e h' (yDrop o.dst y) st' Q) := Iff.rfl
theorem WIY_quiet {v : V} {u : Upd} {l : List Nat} {o : Oper} {r : List Oper} {e : Env} {h : Heap} {y : List Nat} {st : Option Ex} : WIY cx nt cb ops none (some ((v, u), l)) o r e h y st Q ↔ WIN cx nt cb ops o.dst v r e (h.puts u) (yNext o y) st Q := Iff.rfl

/-- A loop of an iterator. -/
def LPI (fr : Fr) (id : Option Nat) {ι : Type} (S : ι → ISt) (m : ι → Nat) (I : ι → Prop) (Q : AftI) (n : Nat) : AftI := fun ex s => match ex with
  | .normal => ∃ y, I y ∧ m y < n ∧ head fr.keep (gcOf fr.gcs id) ⟨s.env, s.heap⟩ = some ⟨(S y).env, (S y).heap⟩ ∧ yHead (gcOf fr.gcs id) s.y = (S y).y ∧ s.stop = (S y).stop
  | ex => Q ex s
theorem LPI_exit {ι : Type} {S : ι → ISt} {m : ι → Nat} {I : ι → Prop} {n i : Nat} : LPI fr id S m I Q n (.exit i) s ↔ Q (.exit i) s := Iff.rfl
theorem LPI_ret {ι : Type} {S : ι → ISt} {m : ι → Nat} {I : ι → Prop} {n : Nat} : LPI fr id S m I Q n .ret s ↔ Q .ret s := Iff.rfl

theorem iloop_rule {ι : Type} (S : ι → ISt) (m : ι → Nat) (I : ι → Prop) (step : ∀ x, I x → WI cx fr cb c none (S x) (LPI fr id S m I Q (m x))) : ∀ (x : ι) (s : ISt), I x → head fr.keep (gcOf fr.gcs id) ⟨s.env, s.heap⟩ = some ⟨(S x).env, (S x).heap⟩ → yHead (gcOf fr.gcs id) s.y = (S x).y → s.stop = (S x).stop → WI cx fr cb (.loop c) id s Q := by
  have key : ∀ (n : Nat) (x : ι) (s : ISt), m x < n → I x → head fr.keep (gcOf fr.gcs id) ⟨s.env, s.heap⟩ = some ⟨(S x).env, (S x).heap⟩ → yHead (gcOf fr.gcs id) s.y = (S x).y → s.stop = (S x).stop → WI cx fr cb (.loop c) id s Q := by
    intro n
    induction n with
    | zero => intro x s h; omega
    | succ n ih =>
      intro x s hm hI hs hy hst
      obtain ⟨R, ex, s', h, q⟩ := step x hI
      have e0 : ({ env := (S x).env, heap := (S x).heap, y := yHead (gcOf fr.gcs id) s.y, stop := s.stop } : ISt) = S x := by rw [hy, hst]
      cases ex with
      | normal =>
        obtain ⟨y, hy1, hlt, hh1, hh2, hh3⟩ := q
        obtain ⟨R2, ex2, s2, h2, q2⟩ := ih y s' (by omega) hy1 hh1 hh2 hh3
        refine ⟨max R R2 + 1, ex2, s2, ?_, q2⟩
        simp only [icode] at h2 ⊢
        unfold iRounds
        rw [hs]
        simp only [Option.bind_some, e0, icode_mono (show R ≤ max R R2 + 1 by omega) h]
        refine iRounds_mono (fun s r hb => ?_) (show R2 ≤ max R R2 by omega) h2
        rw [Option.bind_eq_some_iff] at hb ⊢
        obtain ⟨s0, h3, h4⟩ := hb
        exact ⟨s0, h3, icode_mono (by omega) h4⟩
      | exit i =>
        refine ⟨R + 1, _, _, ?_, q⟩
        simp only [icode]
        unfold iRounds
        rw [hs]
        simp only [Option.bind_some, e0, icode_mono (show R ≤ R + 1 by omega) h]
      | ret =>
        refine ⟨R + 1, _, _, ?_, q⟩
        simp only [icode]
        unfold iRounds
        rw [hs]
        simp only [Option.bind_some, e0, icode_mono (show R ≤ R + 1 by omega) h]
  exact fun x s hI hs hy hst => key _ x s (Nat.lt_succ_self _) hI hs hy hst
theorem WI_mono {Q' : AftI} (h : ∀ ex s, Q ex s → Q' ex s) : WI cx fr cb c id s Q → WI cx fr cb c id s Q' := fun ⟨R, ex, s', h1, q⟩ => ⟨R, ex, s', h1, h _ _ q⟩
end

section
variable {cx : Cx} {fr : Fr} {id : Option Nat} {assign body : Code} {env : Env} {ps : List Tmp} {Q : Aft}
/-- The rounds of a loop over an iterator. -/
def rcb (cx : Cx) (nt : Nat) (gcs : List AGc) (ps : List Tmp) (env : Env) (assign body : Code) : CBs where
  f R := roundOf nt ps env (fun k s1 => acode cx nt k R gcs assign none s1) (fun k s1 => acode cx nt k R gcs body none s1)
  mono R R' hR args h x hx := by
    unfold roundOf at hx ⊢
    split at hx
    · rename_i hl
      rw [if_pos hl]
      cases ha : acode cx nt h.length R gcs assign none { env := bindPs ps args env, heap := h } with
      | none => simp [ha] at hx
      | some z =>
        obtain ⟨ex, s1⟩ := z
        simp only [ha, acode_mono hR ha] at hx ⊢
        cases ex with
        | normal =>
          simp only [Option.map_eq_some_iff] at hx ⊢
          obtain ⟨z, hz1, hz2⟩ := hx
          exact ⟨z, acode_mono hR hz1, hz2⟩
        | exit k => cases hx
        | ret => cases hx
    · cases hx
def stopOf : Ex → Option Ex
  | .normal => none
  | ex => some ex
def onlyN (P : St → Prop) : Aft := fun ex s => match ex with
  | .normal => P s
  | _ => False
theorem onlyN_normal {P : St → Prop} {s : St} : onlyN P .normal s ↔ P s := Iff.rfl
def stopped (K : Option Ex → Heap → Prop) : Aft := fun ex s => K (stopOf ex) s.heap
theorem stopped_normal {K : Option Ex → Heap → Prop} {e : Env} {h : Heap} : stopped K .normal ⟨e, h⟩ ↔ K none h := Iff.rfl
theorem stopped_ret {K : Option Ex → Heap → Prop} {e : Env} {h : Heap} : stopped K .ret ⟨e, h⟩ ↔ K (some .ret) h := Iff.rfl
theorem stopped_exit {K : Option Ex → Heap → Prop} {i : Nat} {e : Env} {h : Heap} : stopped K (.exit i) ⟨e, h⟩ ↔ K (some (.exit i)) h := Iff.rfl
theorem CW_round {nt : Nat} {gcs : List AGc} {args : List V} {h : Heap} {K : Option Ex → Heap → Prop} : CW (rcb cx nt gcs ps env assign body) args h K ↔
    (args.length = ps.length ∧ ps.all (· < nt) = true) ∧ W cx ⟨nt, h.length, gcs⟩ assign none ⟨bindPs ps args env, h⟩ (onlyN fun s1 => W cx ⟨nt, h.length, gcs⟩ body none s1 (stopped K)) := by
  constructor
  · rintro ⟨R, st, h', hx, hk⟩
    simp only [rcb] at hx
    unfold roundOf at hx
    split at hx
    · rename_i hl
      refine ⟨by simpa using hl, ?_⟩
      cases ha : acode cx nt h.length R gcs assign none { env := bindPs ps args env, heap := h } with
      | none => simp [ha] at hx
      | some z =>
        obtain ⟨ex, s1⟩ := z
        simp only [ha] at hx
        cases ex with
        | normal =>
          simp only [Option.map_eq_some_iff, Prod.mk.injEq] at hx
          obtain ⟨⟨ex, s2⟩, hz1, rfl, rfl⟩ := hx
          refine ⟨R, .normal, s1, ha, R, ex, s2, hz1, ?_⟩
          cases ex <;> exact hk
        | exit k => cases hx
        | ret => cases hx
    · cases hx
  · rintro ⟨hl, R, ex1, s1, ha, hb⟩
    cases ex1 with
    | normal =>
      obtain ⟨R2, ex, s2, hz, hk⟩ := hb
      refine ⟨max R R2, stopOf ex, s2.heap, ?_, hk⟩
      have ha' : acode cx nt h.length R gcs assign none ⟨bindPs ps args env, h⟩ = some (.normal, s1) := ha
      have hz' : acode cx nt h.length R2 gcs body none s1 = some (ex, s2) := hz
      simp only [rcb]
      unfold roundOf
      rw [if_pos (by simpa using hl)]
      simp only [acode_mono (Nat.le_max_left R R2) ha', acode_mono (Nat.le_max_right R R2) hz', Option.map_some]
      cases ex <;> rfl
    | exit k => exact hb.elim
    | ret => exact hb.elim

/-- Behind a loop over an iterator. -/
def RQ (env : Env) (Q : Aft) : AftI := fun ex t => match ex with
  | .normal | .ret => Q (match t.stop with | none => Ex.normal | some ex => ex) ⟨env, t.heap⟩
  | _ => False
theorem RQ_normal {e : Env} {h : Heap} {y : List Nat} {st : Option Ex} : RQ env Q .normal ⟨e, h, y, st⟩ ↔ Q (match st with | none => Ex.normal | some ex => ex) ⟨env, h⟩ := Iff.rfl
theorem RQ_ret {e : Env} {h : Heap} {y : List Nat} {st : Option Ex} : RQ env Q .ret ⟨e, h, y, st⟩ ↔ Q (match st with | none => Ex.normal | some ex => ex) ⟨env, h⟩ := Iff.rfl
def WR (cx : Cx) (fr : Fr) (v : V) (ps : Array Tmp) (assign body : Code) (s : St) (Q : Aft) : Prop := match v with
  | .clo gf caps => match cx.fns gf with
    | some fn => (fn.intr = none ∧ fn.res.length = 0 ∧ caps.length + 1 ≤ fn.ntmps) ∧ WI cx ⟨fn.ntmps, s.heap.length, fn.gcs⟩ (rcb cx fr.nt fr.gcs ps.toList s.env assign body) fn.body none ⟨argEnv 0 (.undef :: caps), s.heap, [0], none⟩ (RQ s.env Q)
    | none => False
  | _ => False
theorem W_range {g : Operand} {ps : Array Tmp} {s : St} : W cx fr (.rangeFunc g ps assign body) id s Q ↔ WR cx fr (ev s.env g) ps assign body s Q := by
  unfold W WR
  simp only [acode]
  generalize ev s.env g = v
  cases v with
  | clo gf caps =>
    simp only
    cases hf : cx.fns gf with
    | none => simp
    | some fn =>
      simp only
      have e0 : (fn.intr.isSome || fn.res.length != 0 || decide (fn.ntmps < caps.length + 1)) = false ↔ (fn.intr = none ∧ fn.res.length = 0 ∧ caps.length + 1 ≤ fn.ntmps) := by
        simp [and_assoc]
      constructor
      · rintro ⟨R, ex, s', h, q⟩
        split at h
        · cases h
        · rename_i hno
          refine ⟨e0.1 (by simpa using hno), ?_⟩
          rw [Option.bind_eq_some_iff] at h
          obtain ⟨⟨ex0, t⟩, h1, h2⟩ := h
          refine ⟨R, ex0, t, h1, ?_⟩
          cases ex0 with
          | normal => cases h2; exact q
          | ret => cases h2; exact q
          | exit i => cases h2
      · rintro ⟨hno, R, ex0, t, h1, q⟩
        have hno' := e0.2 hno
        have h1' : icode cx fn.ntmps s.heap.length R fn.gcs (roundOf fr.nt ps.toList s.env (fun k s1 => acode cx fr.nt k R fr.gcs assign none s1) (fun k s1 => acode cx fr.nt k R fr.gcs body none s1)) fn.body none ⟨argEnv 0 (.undef :: caps), s.heap, [0], none⟩ = some (ex0, t) := h1
        cases ex0 with
        | normal => exact ⟨R, _, _, by rw [if_neg (by rw [hno']; simp), h1']; rfl, q⟩
        | ret => exact ⟨R, _, _, by rw [if_neg (by rw [hno']; simp), h1']; rfl, q⟩
        | exit i => exact q.elim
  | _ => simp
end
end Go.Proofs.Ytfdemnefkfkghaa.R
/- The machine's steps, as one set. -/
namespace Go.Proofs.Ytfdemnefkfkghaa.R
open Go
attribute [go_sem] W_skip W_exit W_ret W_seq SQ_normal SQ_exit SQ_ret W_block BQ_normal BQ_exit BQ_ret W_cond WC_bool W_draw_q WQ_nil WQ_cons WQ_guard QG_true QG_false QA_quiet Heap.pad List.nil_append List.cons_append pickR List.take_succ_cons List.take_zero List.take_nil List.drop_zero List.drop_succ_cons binStr Nat.reduceLeDiff W_region WO_nil WO_cons WO_move WO_assign WO_guard WG_true WG_false WA_some WA_none LP_exit LP_ret aop ev evs lk ofConst ofCell Nat.beq cond_true cond_false Bool.false_eq_true if_false if_true bin binInt un ok Rd.run Nat.reduceLT true_and Heap.puts Heap.put Heap.at? decide_true decide_false yields skipped isSkip indexAddrR fieldAddrR loadR builtinR lenB lenKd lenR conv partOf TI.agg List.length_map List.length_cons List.length_nil List.getElem?_map List.getElem?_cons_zero List.getElem?_cons_succ Option.map_some Option.bind_some Nat.reduceAdd Nat.reduceEqDiff beq_iff_eq decide_eq_true_eq Int.natCast_eq_zero natOf_cast FQ_ret FQ_normal resAll resOne oneOf finish_plain pl_int pl_bool pl_str pl_fz pl_agg pl_tup pl_clo pl_undef pl_nil pl_cons Bool.and_self Bool.and_true all_int all_str int_enc str_enc bool_enc Int.ofNat_lt boxR allocR storeR overwrite buildR fillS Option.isSome_some V.cells V.isCell List.all_cons List.all_nil Bool.true_and not_false_eq_true and_true and_self V.anyIds V.hasIds Bool.or_false Bool.not_false Bool.or_self buildSliceR parts fillR List.replicate_succ List.replicate_zero List.set_cons_zero rowIds appendB rows? append_look appL_some append_none List.map_nil Nat.reduceMul List.length_append false_or ne_eq Nat.one_ne_zero Nat.lt_add_one or_self extractR max2 min2 List.getElem?_toArray List.singleton_append List.append_nil Bool.and_false Bool.false_and eqV4 Bool.true_beq Bool.false_beq Bool.not_true WB_nil WB_cons WB_guard BG_true BG_false BG_false_none BA_some BA_none QA_noise QA_noise_none sigQ_nil sigQ_snoc ids1 apB hits hasN Bool.true_or Bool.false_or Bool.or_true Nat.zero_add List.size_toArray EQ_ret EQ_normal W_range WR WI_skip WI_exit WI_ret WI_seq SQI_normal SQI_exit SQI_ret WI_block BQI_normal BQI_exit BQI_ret WI_cond WCI_bool WI_region WI_draw YQ_normal WIO_nil WIN_some WIN_none WIO_cons WIY_yield WIY_quiet LPI_exit LPI_ret CW_round onlyN_normal stopped_normal stopped_ret stopped_exit RQ_normal RQ_ret yArgs yNext yDrop yDrops bindPs okOr copyB clearB appendZ
end Go.Proofs.Ytfdemnefkfkghaa.R
/- Chapter 33's law: at, the same pairs, messages, targets, find. -/
namespace Go.Proofs.Ytfdemnefkfkghaa.R
open Go Go.Proofs
set_option linter.unusedSimpArgs false
set_option linter.unusedVariables false
set_option maxRecDepth 10000
set_option maxHeartbeats 1000000


def atGo (b : Int) : List S95 → List Int → Int
  | x :: l, d :: deep => if x.f0 = b then IntKind.u16.wrap d else atGo b l deep
  | _, _ => 0
def at_ (b : Int) (l : List S95) (deep : List Int) : Int := if deep.length = 0 then 1 else atGo b l deep

theorem atGo_drop {b : Int} {l : List S95} {deep : List Int} {i : Nat} (h : i < l.length) (h' : i < deep.length) : atGo b (l.drop i) (deep.drop i) = if l[i].f0 = b then IntKind.u16.wrap deep[i] else atGo b (l.drop (i + 1)) (deep.drop (i + 1)) := by
  rw [List.drop_eq_getElem_cons h, List.drop_eq_getElem_cons h']
  rfl

theorem lim135 (b : Int) (l : List S95) (deep : List Int) (hl : l.length < 1000000000000000000) (hd : deep.length = 0 ∨ deep.length = l.length) : lim T fns 135 [.int .u32 b, .fz (l.map k95.enc), .fz (deep.map (Cd.int .i64).enc)] [] = some (.int .u16 (at_ b l deep), []) := by
  refine fn_rule (fn := fn135) rfl rfl (by simp [fn135]) ?_
  unfold fn135
  simp only [Try.f135, Option.getD_some, argEnv, List.map_nil, List.length_nil]
  simp only [go_sem, T_3, T_4, T_5, T_9, T_22, T_42, T_51, T_69, T_90, T_91, T_93, T_95, T_96, T_98, T_100, T_112, T_121, T_145]
  split
  · rename_i h0
    simp only [at_, h0, if_true]
  · rename_i h0
    have hdl : deep.length = l.length := by omega
    refine loop_rule (ι := Nat) (S := fun i => ⟨[(0, .int .u32 b), (1, .fz (l.map k95.enc)), (2, .fz (deep.map (Cd.int .i64).enc)), (12, .int .i64 l.length), (13, .int .i64 i)], []⟩) (m := fun i => l.length + 1 - i)
      (I := fun i => i ≤ l.length ∧ atGo b (l.drop i) (deep.drop i) = at_ b l deep) ?_ 0 _ ⟨by omega, by simp [at_, h0]⟩ rfl
    rintro i ⟨hi, hg⟩
    by_cases hlt : i < l.length
    · have hx : l[i]? = some l[i] := List.getElem?_eq_getElem hlt
      have hd : deep[i]? = some (deep[i]'(by omega)) := List.getElem?_eq_getElem (by omega)
      rw [atGo_drop hlt (by omega)] at hg
      simp only [go_sem, T_3, T_4, T_5, T_9, T_22, T_42, T_51, T_69, T_90, T_91, T_93, T_95, T_96, T_98, T_100, T_112, T_121, T_145, all95, hlt, hx, hd, k95_enc, wrap_i64s (show i < 1000000000000000000 by omega)]
      split
      · rename_i hb
        rw [← hg, if_pos hb]
      · rename_i hb
        rw [if_neg hb] at hg
        exact ⟨i + 1, ⟨by omega, hg⟩, by simp only; omega, rfl⟩
    · rw [List.drop_eq_nil_of_le (show l.length ≤ i by omega)] at hg
      simp only [go_sem, T_3, T_4, T_5, T_9, T_22, T_42, T_51, T_69, T_90, T_91, T_93, T_95, T_96, T_98, T_100, T_112, T_121, T_145, hlt]
      rw [← hg]
      rfl
theorem lim44 (a b : List S145) (ha : a.length < 1000000000000000000) : lim T fns 44 [.fz (a.map k145.enc), .fz (b.map k145.enc)] [] = some (.bool (decide (a = b)), []) := by
  refine fn_rule (fn := fn44) rfl rfl (by simp [fn44]) ?_
  unfold fn44
  simp only [Try.f44, Option.getD_some, argEnv, List.map_nil, List.length_nil]
  simp only [go_sem, T_3, T_9, T_51, T_145]
  split
  · rename_i h0
    have : a ≠ b := by rintro rfl; simp at h0
    simp [this]
  · rename_i h0
    have hlen : a.length = b.length := by simp at h0; omega
    refine loop_rule (ι := Nat) (S := fun i => ⟨[(0, .fz (a.map k145.enc)), (1, .fz (b.map k145.enc)), (12, .int .i64 a.length), (13, .int .i64 i)], []⟩) (m := fun i => a.length + 1 - i)
      (I := fun i => i ≤ a.length ∧ a.take i = b.take i) ?_ 0 _ ⟨by omega, by simp⟩ rfl
    rintro i ⟨hi, hg⟩
    by_cases hlt : i < a.length
    · have hx : a[i]? = some a[i] := List.getElem?_eq_getElem hlt
      have hd : b[i]? = some (b[i]'(by omega)) := List.getElem?_eq_getElem (by omega)
      simp only [go_sem, T_3, T_9, T_51, T_145, all145, hlt, hx, hd, k145_enc, eq145, wrap_i64s (show i < 1000000000000000000 by omega)]
      split
      · rename_i he
        have : a ≠ b := by
          rintro rfl
          simp at he
        simp [this]
      · rename_i he
        exact ⟨i + 1, ⟨by omega, take_eq_step hg hlt (by omega) (by simpa using he)⟩, by simp only; omega, rfl⟩
    · simp only [go_sem, T_3, T_9, T_51, T_145, hlt]
      simp [take_eq_len hlen hg (by omega)]
theorem lim137 (a b : List S121) (ha : a.length < 1000000000000000000) : lim T fns 137 [.fz (a.map k121.enc), .fz (b.map k121.enc)] [] = some (.bool (decide (a = b)), []) := by
  refine fn_rule (fn := fn137) rfl rfl (by simp [fn137]) ?_
  unfold fn137
  simp only [Try.f137, Option.getD_some, argEnv, List.map_nil, List.length_nil]
  simp only [go_sem, T_3, T_5, T_9, T_42, T_91, T_96, T_121]
  split
  · rename_i h0
    have : a ≠ b := by rintro rfl; simp at h0
    simp [this]
  · rename_i h0
    have hlen : a.length = b.length := by simp at h0; omega
    refine loop_rule (ι := Nat) (S := fun i => ⟨[(0, .fz (a.map k121.enc)), (1, .fz (b.map k121.enc)), (12, .int .i64 a.length), (13, .int .i64 i)], []⟩) (m := fun i => a.length + 1 - i)
      (I := fun i => i ≤ a.length ∧ a.take i = b.take i) ?_ 0 _ ⟨by omega, by simp⟩ rfl
    rintro i ⟨hi, hg⟩
    by_cases hlt : i < a.length
    · have hx : a[i]? = some a[i] := List.getElem?_eq_getElem hlt
      have hd : b[i]? = some (b[i]'(by omega)) := List.getElem?_eq_getElem (by omega)
      simp only [go_sem, T_3, T_5, T_9, T_42, T_91, T_96, T_121, all121, hlt, hx, hd, k121_enc, eq121, wrap_i64s (show i < 1000000000000000000 by omega)]
      split
      · rename_i he
        have : a ≠ b := by
          rintro rfl
          simp at he
        simp [this]
      · rename_i he
        exact ⟨i + 1, ⟨by omega, take_eq_step hg hlt (by omega) (by simpa using he)⟩, by simp only; omega, rfl⟩
    · simp only [go_sem, T_3, T_5, T_9, T_42, T_91, T_96, T_121, hlt]
      simp [take_eq_len hlen hg (by omega)]

def gotos (l : List S121) : List Int := (l.filter (fun m => decide (m.f0 = 3))).map (·.f3)
def targets (n : S93) : List Int := n.f3.map (·.f0) ++ gotos n.f4

theorem gotos_snoc (l : List S121) (i : Nat) (h : i < l.length) : gotos (l.take (i + 1)) = if l[i].f0 = 3 then gotos (l.take i) ++ [l[i].f3] else gotos (l.take i) := by
  unfold gotos
  rw [List.take_succ_eq_append_getElem h, List.filter_append, List.map_append]
  by_cases e : l[i].f0 = 3 <;> simp [e]

theorem lim67 (n : S93) (h3 : n.f3.length < 1000000000000) (h4 : n.f4.length < 1000000000000) : lim T fns 67 [.agg (k93.enc n)] [] = some (.fz ((targets n).map (Cd.int .u32).enc), []) := by
  refine fn_rule (fn := fn67) rfl rfl (by simp [fn67]) ?_
  unfold fn67
  simp only [Try.f67, Option.getD_some, argEnv, List.map_nil, List.length_nil]
  simp only [go_sem, T_1, T_3, T_4, T_5, T_9, T_42, T_51, T_69, T_76, T_90, T_91, T_93, T_96, T_98, T_100, T_121, T_145, k93_enc]
  refine loop_rule (ι := Nat × List Int) (S := fun p => ⟨[(1, .ptr 0 0 0), (3, .ms 1 1 0 p.2.length none), (9, .int .i64 n.f3.length), (10, .int .i64 p.1)], [some (.buf 5 [k93.enc n] false true), some (.buf 1 (p.2.map (Cd.int .u32).enc) false true)]⟩)
    (m := fun p => n.f3.length + 1 - p.1) (I := fun p => p.1 ≤ n.f3.length ∧ p.2 = (n.f3.take p.1).map (·.f0)) ?_ (0, []) _ ⟨by simp, by simp⟩ rfl
  rintro ⟨i, out⟩ ⟨hi, ho⟩
  simp only at hi ho
  by_cases hlt : i < n.f3.length
  · have hx : n.f3[i]? = some n.f3[i] := List.getElem?_eq_getElem hlt
    have hol : out.length = i := by rw [ho]; simp; omega
    simp only [go_sem, T_1, T_3, T_4, T_5, T_9, T_42, T_51, T_69, T_76, T_90, T_91, T_93, T_96, T_98, T_100, T_121, T_145, all100, hlt, hx, k93_enc, k100_enc, wrap_i64s (show i < 1000000000000000000 by omega), show (out.length + 1) * 4 ≤ 140737488355328 by omega, show out.length + 1 ≤ 140737488355328 by omega]
    refine ⟨(i + 1, out ++ [n.f3[i].f0]), ⟨by simp only; omega, ?_⟩, by simp only; omega, by simp only [List.map_append, List.length_append]; rfl⟩
    simp only
    rw [List.take_succ_eq_append_getElem hlt, List.map_append, ho]
    rfl
  · have hall : out = n.f3.map (·.f0) := by rw [ho, List.take_of_length_le (by omega)]
    clear ho hi
    simp only [go_sem, T_1, T_3, T_4, T_5, T_9, T_42, T_51, T_69, T_76, T_90, T_91, T_93, T_96, T_98, T_100, T_121, T_145, hlt, k93_enc]
    refine loop_rule (ι := Nat × List Int) (S := fun p => ⟨[(1, .ptr 0 0 0), (3, .ms 1 1 0 p.2.length none), (25, .int .i64 n.f4.length), (26, .int .i64 p.1)], [some (.buf 5 [k93.enc n] false true), some (.buf 1 (p.2.map (Cd.int .u32).enc) false true)]⟩)
      (m := fun p => n.f4.length + 1 - p.1) (I := fun p => p.1 ≤ n.f4.length ∧ p.2 = out ++ gotos (n.f4.take p.1)) ?_ (0, out) _ ⟨by simp, by simp [gotos]⟩ rfl
    rintro ⟨i, o2⟩ ⟨hi, ho⟩
    simp only at hi ho
    by_cases hlt : i < n.f4.length
    · have hx : n.f4[i]? = some n.f4[i] := List.getElem?_eq_getElem hlt
      have hgl : (gotos (n.f4.take i)).length ≤ i := by
        unfold gotos
        rw [List.length_map]
        exact Nat.le_trans (List.length_filter_le _ _) (by simp; omega)
      have hol : o2.length ≤ n.f3.length + i := by rw [ho, hall]; simp; omega
      have hs := gotos_snoc n.f4 i hlt
      simp only [go_sem, T_1, T_3, T_4, T_5, T_9, T_42, T_51, T_69, T_76, T_90, T_91, T_93, T_96, T_98, T_100, T_121, T_145, all121, hlt, hx, k93_enc, k121_enc, wrap_i64s (show i < 1000000000000000000 by omega), show (o2.length + 1) * 4 ≤ 140737488355328 by omega, show o2.length + 1 ≤ 140737488355328 by omega]
      split
      · rename_i he
        rw [if_pos he] at hs
        refine ⟨(i + 1, o2 ++ [n.f4[i].f3]), ⟨by simp only; omega, by simp only; rw [hs, ho, List.append_assoc]⟩, by simp only; omega, by simp only [List.map_append, List.length_append]; rfl⟩
      · rename_i he
        rw [if_neg he] at hs
        refine ⟨(i + 1, o2), ⟨by simp only; omega, by simp only; rw [hs, ho]⟩, by simp only; omega, rfl⟩
    · have hall2 : o2 = targets n := by rw [ho, List.take_of_length_le (by omega), hall]; rfl
      simp only [go_sem, T_1, T_3, T_4, T_5, T_9, T_42, T_51, T_69, T_76, T_90, T_91, T_93, T_96, T_98, T_100, T_121, T_145, hlt, k93_enc]
      rw [finish_ms rfl (by simp), hall2]

def noNode : S93 := ⟨false, [], [], [], []⟩
def find (b : Int) : List S95 → Option S93
  | [] => none
  | x :: r => if x.f0 = b then some x.f1 else find b r
theorem find_drop {b : Int} {l : List S95} {i : Nat} (h : i < l.length) : find b (l.drop i) = if l[i].f0 = b then some l[i].f1 else find b (l.drop (i + 1)) := by
  rw [List.drop_eq_getElem_cons h]
  rfl

theorem lim68 (l : List S95) (b : Int) (hl : l.length < 1000000000000) : lim T fns 68 [.fz (l.map k95.enc), .int .u32 b] [] = some (.tup [.agg (k93.enc ((find b l).getD noNode)), .bool (find b l).isSome], []) := by
  refine fn_rule (fn := fn68) rfl rfl (by simp [fn68]) ?_
  unfold fn68
  simp only [Try.f68, Option.getD_some, argEnv, List.map_nil, List.length_nil]
  simp only [go_sem, T_3, T_4, T_5, T_9, T_22, T_42, T_51, T_69, T_90, T_91, T_93, T_95, T_96, T_98, T_100, T_121, T_145]
  refine loop_rule (ι := Nat) (S := fun i => ⟨[(0, .fz (l.map k95.enc)), (1, .int .u32 b), (4, .ptr 0 0 0), (8, .int .i64 l.length), (9, .int .i64 i)], [some (.buf 5 [[.bool false, .nils, .nils, .nils, .nils]] false true)]⟩)
    (m := fun i => l.length + 1 - i) (I := fun i => i ≤ l.length ∧ find b (l.drop i) = find b l) ?_ 0 _ ⟨by simp, by simp⟩ rfl
  rintro i ⟨hi, hf⟩
  by_cases hlt : i < l.length
  · have hx : l[i]? = some l[i] := List.getElem?_eq_getElem hlt
    rw [find_drop hlt] at hf
    simp only [go_sem, T_3, T_4, T_5, T_9, T_22, T_42, T_51, T_69, T_90, T_91, T_93, T_95, T_96, T_98, T_100, T_121, T_145, all95, hlt, hx, k95_enc, wrap_i64s (show i < 1000000000000000000 by omega)]
    split
    · rename_i he
      rw [if_pos he] at hf
      rw [← hf]
      rfl
    · rename_i he
      rw [if_neg he] at hf
      exact ⟨i + 1, ⟨by omega, hf⟩, by simp only; omega, rfl⟩
  · simp only [go_sem, T_3, T_4, T_5, T_9, T_22, T_42, T_51, T_69, T_90, T_91, T_93, T_95, T_96, T_98, T_100, T_121, T_145, hlt]
    rw [List.drop_eq_nil_of_le (by omega)] at hf
    rw [← hf]
    exact finish_true rfl rfl
end Go.Proofs.Ytfdemnefkfkghaa.R
/- Chapter 33's law: the same nodes, the same graphs. -/
namespace Go.Proofs.Ytfdemnefkfkghaa.R
open Go Go.Proofs
set_option linter.unusedSimpArgs false
set_option linter.unusedVariables false
set_option maxRecDepth 10000
set_option maxHeartbeats 1000000

/-- As long a list as may be. -/
def fewN (n : S93) : Prop := n.f1.length < 1000000000000 ∧ n.f2.length < 1000000000000 ∧ n.f3.length < 1000000000000 ∧ n.f4.length < 1000000000000

theorem call44 (a b : List S145) (ha : a.length < 1000000000000) (n : Nat) : callV (LX T fns) n (.clo 44 []) [.fz (a.map k145.enc), .fz (b.map k145.enc)] = .pure (.bool (decide (a = b)), []) := callV_plain (fn := fn44) rfl rfl rfl (lim44 a b (by omega)) n
theorem call137 (a b : List S121) (ha : a.length < 1000000000000) (n : Nat) : callV (LX T fns) n (.clo 137 []) [.fz (a.map k121.enc), .fz (b.map k121.enc)] = .pure (.bool (decide (a = b)), []) := callV_plain (fn := fn137) rfl rfl rfl (lim137 a b (by omega)) n

theorem lim70 (a b : S93) (ha : fewN a) : lim T fns 70 [.agg (k93.enc a), .agg (k93.enc b)] [] = some (.bool (decide (a = b)), []) := by
  obtain ⟨a1, a2, a3, a4⟩ := ha
  refine fn_rule (fn := fn70) rfl rfl (by simp [fn70]) ?_
  unfold fn70
  simp only [Try.f70, Option.getD_some, argEnv, List.map_nil, List.length_nil]
  by_cases h0 : a.f0 = b.f0
  case neg =>
    have e0 : (a.f0 == b.f0) = false := by simp [h0]
    have : a ≠ b := by rintro rfl; exact h0 rfl
    simp only [go_sem, T_3, T_4, T_5, T_9, T_42, T_51, T_69, T_90, T_91, T_93, T_96, T_98, T_100, T_121, T_145, k93_enc, e0, this]
  have e0 : (a.f0 == b.f0) = true := by simp [h0]
  by_cases h1 : a.f2.length = b.f2.length
  case neg =>
    have e1 : ((a.f2.length : Int) != (b.f2.length : Int)) = true := by simp; omega
    have : a ≠ b := by rintro rfl; exact h1 rfl
    simp only [go_sem, T_3, T_4, T_5, T_9, T_42, T_51, T_69, T_90, T_91, T_93, T_96, T_98, T_100, T_121, T_145, k93_enc, e0, e1, this]
  have e1 : ((a.f2.length : Int) != (b.f2.length : Int)) = false := by simp [h1]
  by_cases h2 : a.f3.length = b.f3.length
  case neg =>
    have e2 : ((a.f3.length : Int) != (b.f3.length : Int)) = true := by simp; omega
    have : a ≠ b := by rintro rfl; exact h2 rfl
    simp only [go_sem, T_3, T_4, T_5, T_9, T_42, T_51, T_69, T_90, T_91, T_93, T_96, T_98, T_100, T_121, T_145, k93_enc, e0, e1, e2, this]
  have e2 : ((a.f3.length : Int) != (b.f3.length : Int)) = false := by simp [h2]
  simp only [go_sem, T_3, T_4, T_5, T_9, T_42, T_51, T_69, T_90, T_91, T_93, T_96, T_98, T_100, T_121, T_145, k93_enc, e0, e1, e2]
  refine loop_rule (ι := Nat) (S := fun i => ⟨[(2, .ptr 0 0 0), (3, .ptr 1 0 0), (32, .int .i64 a.f2.length), (33, .int .i64 i)], [some (.buf 5 [k93.enc a] false true), some (.buf 5 [k93.enc b] false true)]⟩)
    (m := fun i => a.f2.length + 1 - i) (I := fun i => i ≤ a.f2.length ∧ a.f2.take i = b.f2.take i) ?_ 0 _ ⟨by simp, by simp⟩ rfl
  rintro i ⟨hi, hg⟩
  by_cases hlt : i < a.f2.length
  · have hx : a.f2[i]? = some a.f2[i] := List.getElem?_eq_getElem hlt
    have hy : b.f2[i]? = some (b.f2[i]'(by omega)) := List.getElem?_eq_getElem (by omega)
    simp only [go_sem, T_3, T_4, T_5, T_9, T_42, T_51, T_69, T_90, T_91, T_93, T_96, T_98, T_100, T_121, T_145, hlt, hx, hy, k93_enc, ba_toList, wrap_i64s (show i < 1000000000000000000 by omega)]
    split
    · rename_i he
      have : a ≠ b := by
        rintro rfl
        simp at he
      simp [this]
    · rename_i he
      exact ⟨i + 1, ⟨by omega, take_eq_step hg hlt (by omega) (by simpa using he)⟩, by simp only; omega, rfl⟩
  have e3 := take_eq_len h1 hg (by omega)
  simp only [go_sem, T_3, T_4, T_5, T_9, T_42, T_51, T_69, T_90, T_91, T_93, T_96, T_98, T_100, T_121, T_145, hlt, k93_enc]
  refine loop_rule (ι := Nat) (S := fun i => ⟨[(2, .ptr 0 0 0), (3, .ptr 1 0 0), (50, .int .i64 a.f3.length), (51, .int .i64 i)], [some (.buf 5 [k93.enc a] false true), some (.buf 5 [k93.enc b] false true)]⟩)
    (m := fun i => a.f3.length + 1 - i) (I := fun i => i ≤ a.f3.length ∧ a.f3.take i = b.f3.take i) ?_ 0 _ ⟨by simp, by simp⟩ rfl
  clear hi hg hlt
  rintro i ⟨hi, hg⟩
  by_cases hlt : i < a.f3.length
  · have hx : a.f3[i]? = some a.f3[i] := List.getElem?_eq_getElem hlt
    have hy : b.f3[i]? = some (b.f3[i]'(by omega)) := List.getElem?_eq_getElem (by omega)
    simp only [go_sem, T_3, T_4, T_5, T_9, T_42, T_51, T_69, T_90, T_91, T_93, T_96, T_98, T_100, T_121, T_145, hlt, hx, hy, all100, k93_enc, k100_enc, eq100, wrap_i64s (show i < 1000000000000000000 by omega)]
    split
    · rename_i he
      have : a ≠ b := by
        rintro rfl
        simp at he
      simp [this]
    · rename_i he
      exact ⟨i + 1, ⟨by omega, take_eq_step hg hlt (by omega) (by simpa using he)⟩, by simp only; omega, rfl⟩
  have e4 := take_eq_len h2 hg (by omega)
  have eab : (a = b) ↔ (a.f1 = b.f1 ∧ a.f4 = b.f4) := by
    obtain ⟨x0, x1, x2, x3, x4⟩ := a
    obtain ⟨y0, y1, y2, y3, y4⟩ := b
    simp_all
  by_cases h5 : a.f1 = b.f1
  · have e5 : decide (a.f1 = b.f1) = true := by simp [h5]
    simp only [go_sem, T_3, T_4, T_5, T_9, T_42, T_51, T_69, T_90, T_91, T_93, T_96, T_98, T_100, T_121, T_145, hlt, k93_enc, call44 a.f1 b.f1 a1, call137 a.f4 b.f4 a4, e5]
    simp [eab, h5]
  · have e5 : decide (a.f1 = b.f1) = false := by simp [h5]
    simp only [go_sem, T_3, T_4, T_5, T_9, T_42, T_51, T_69, T_90, T_91, T_93, T_96, T_98, T_100, T_121, T_145, hlt, k93_enc, call44 a.f1 b.f1 a1, call137 a.f4 b.f4 a4, e5]
    simp [eab, h5]
theorem call70 (a b : S93) (ha : fewN a) (n : Nat) : callV (LX T fns) n (.clo 70 []) [.agg (k93.enc a), .agg (k93.enc b)] = .pure (.bool (decide (a = b)), []) := callV_plain (fn := fn70) rfl rfl rfl (lim70 a b ha) n

/-- As many items as may be. -/
def fewL (l : List S95) : Prop := l.length < 1000000000000 ∧ ∀ x ∈ l, fewN x.f1

theorem lim18 (a b : List S95) (ha : fewL a) : lim T fns 18 [.fz (a.map k95.enc), .fz (b.map k95.enc)] [] = some (.bool (decide (a = b)), []) := by
  obtain ⟨ha, hn⟩ := ha
  refine fn_rule (fn := fn18) rfl rfl (by simp [fn18]) ?_
  unfold fn18
  simp only [Try.f18, Option.getD_some, argEnv, List.map_nil, List.length_nil]
  simp only [go_sem, T_3, T_4, T_5, T_9, T_22, T_42, T_51, T_69, T_90, T_91, T_93, T_95, T_96, T_98, T_100, T_121, T_145]
  split
  · rename_i h0
    have : a ≠ b := by rintro rfl; simp at h0
    simp [this]
  · rename_i h0
    have hlen : a.length = b.length := by simp at h0; omega
    refine loop_rule (ι := Nat) (S := fun i => ⟨[(0, .fz (a.map k95.enc)), (1, .fz (b.map k95.enc)), (12, .int .i64 a.length), (13, .int .i64 i)], []⟩) (m := fun i => a.length + 1 - i)
      (I := fun i => i ≤ a.length ∧ a.take i = b.take i) ?_ 0 _ ⟨by omega, by simp⟩ rfl
    rintro i ⟨hi, hg⟩
    by_cases hlt : i < a.length
    · have hx : a[i]? = some a[i] := List.getElem?_eq_getElem hlt
      have hd : b[i]? = some (b[i]'(by omega)) := List.getElem?_eq_getElem (by omega)
      have hc := call70 a[i].f1 (b[i]'(by omega)).f1 (hn _ (List.getElem_mem hlt))
      simp only [k93_enc] at hc
      have eab : (a[i] = b[i]'(by omega)) ↔ (a[i].f0 = (b[i]'(by omega)).f0 ∧ a[i].f1 = (b[i]'(by omega)).f1) := by
        generalize a[i] = x
        generalize b[i]'(by omega) = y
        obtain ⟨x0, x1⟩ := x
        obtain ⟨y0, y1⟩ := y
        simp
      by_cases h1 : a[i].f0 = (b[i]'(by omega)).f0
      · have e1 : (a[i].f0 != (b[i]'(by omega)).f0) = false := by simp [h1]
        simp only [go_sem, T_3, T_4, T_5, T_9, T_22, T_42, T_51, T_69, T_90, T_91, T_93, T_95, T_96, T_98, T_100, T_121, T_145, all95, hlt, hx, hd, k95_enc, e1, hc, wrap_i64s (show i < 1000000000000000000 by omega)]
        split
        · rename_i he
          have : a ≠ b := by
            rintro rfl
            simp at he
          simp [this]
        · rename_i he
          exact ⟨i + 1, ⟨by omega, take_eq_step hg hlt (by omega) (eab.2 ⟨h1, by simpa using he⟩)⟩, by simp only; omega, rfl⟩
      · have e1 : (a[i].f0 != (b[i]'(by omega)).f0) = true := by simp [h1]
        have : a ≠ b := by
          rintro rfl
          simp at h1
        simp only [go_sem, T_3, T_4, T_5, T_9, T_22, T_42, T_51, T_69, T_90, T_91, T_93, T_95, T_96, T_98, T_100, T_121, T_145, all95, hlt, hx, hd, k95_enc, e1, this]
    · simp only [go_sem, T_3, T_4, T_5, T_9, T_22, T_42, T_51, T_69, T_90, T_91, T_93, T_95, T_96, T_98, T_100, T_121, T_145, hlt]
      simp [take_eq_len hlen hg (by omega)]
theorem call18 (a b : List S95) (ha : fewL a) (n : Nat) : callV (LX T fns) n (.clo 18 []) [.fz (a.map k95.enc), .fz (b.map k95.enc)] = .pure (.bool (decide (a = b)), []) := callV_plain (fn := fn18) rfl rfl rfl (lim18 a b ha) n
end Go.Proofs.Ytfdemnefkfkghaa.R
/- Chapter 33's law: the program's targets. -/
namespace Go.Proofs.Ytfdemnefkfkghaa.R
open Go Go.Proofs
set_option linter.unusedSimpArgs false
set_option linter.unusedVariables false
set_option maxRecDepth 10000
set_option maxHeartbeats 1000000

theorem gotos_le (l : List S121) : (gotos l).length ≤ l.length := by
  unfold gotos
  rw [List.length_map]
  exact List.length_filter_le _ _

theorem lim125 (l : List S121) (hl : l.length < 1000000000000) : lim T fns 125 [.fz (l.map k121.enc)] [] = some (.fz ((gotos l).map (Cd.int .u32).enc), []) := by
  refine fn_rule (fn := fn125) rfl rfl (by simp [fn125]) ?_
  unfold fn125
  simp only [Try.f125, Option.getD_some, argEnv, List.map_nil, List.length_nil]
  simp only [go_sem, T_1, T_3, T_5, T_9, T_42, T_76, T_91, T_96, T_121]
  refine loop_rule (ι := Nat × List Int) (S := fun p => ⟨[(3, .ms 0 1 0 p.2.length none), (6, .fz (l.map k121.enc)), (7, .int .i64 l.length), (8, .int .i64 p.1)], [some (.buf 1 (p.2.map (Cd.int .u32).enc) false true)]⟩)
    (m := fun p => l.length + 1 - p.1) (I := fun p => p.1 ≤ l.length ∧ p.2 = gotos (l.take p.1)) ?_ (0, []) _ ⟨by simp, by simp [gotos]⟩ rfl
  rintro ⟨i, o2⟩ ⟨hi, ho⟩
  simp only at hi ho
  by_cases hlt : i < l.length
  · have hx : l[i]? = some l[i] := List.getElem?_eq_getElem hlt
    have hol : o2.length ≤ i := by
      rw [ho]
      exact Nat.le_trans (gotos_le _) (by simp; omega)
    have hs := gotos_snoc l i hlt
    simp only [go_sem, T_1, T_3, T_5, T_9, T_42, T_76, T_91, T_96, T_121, all121, hlt, hx, k121_enc, wrap_i64s (show i < 1000000000000000000 by omega), show (o2.length + 1) * 4 ≤ 140737488355328 by omega, show o2.length + 1 ≤ 140737488355328 by omega]
    split
    · rename_i he
      rw [if_pos he] at hs
      refine ⟨(i + 1, o2 ++ [l[i].f3]), ⟨by simp only; omega, by simp only; rw [hs, ho]⟩, by simp only; omega, by simp only [List.map_append, List.length_append]; rfl⟩
    · rename_i he
      rw [if_neg he] at hs
      refine ⟨(i + 1, o2), ⟨by simp only; omega, by simp only; rw [hs, ho]⟩, by simp only; omega, rfl⟩
  · simp only [go_sem, T_1, T_3, T_5, T_9, T_42, T_76, T_91, T_96, T_121, hlt]
    rw [finish_ms rfl (by simp), ho, List.take_of_length_le (by omega)]
theorem call125 (l : List S121) (hl : l.length < 1000000000000) (n : Nat) : callV (LX T fns) n (.clo 125 []) [.fz (l.map k121.enc)] = .pure (.fz ((gotos l).map (Cd.int .u32).enc), []) := callV_plain (fn := fn125) rfl rfl rfl (lim125 l hl) n

theorem lim131 (n : S93) (hn : fewN n) : lim T fns 131 [.agg (k93.enc n)] [] = some (.fz ((targets n).map (Cd.int .u32).enc), []) := by
  obtain ⟨_, _, h3, h4⟩ := hn
  refine fn_rule (fn := fn131) rfl rfl (by simp [fn131]) ?_
  unfold fn131
  simp only [Try.f131, Option.getD_some, argEnv, List.map_nil, List.length_nil]
  simp only [go_sem, T_1, T_3, T_4, T_5, T_9, T_42, T_51, T_69, T_76, T_90, T_91, T_93, T_96, T_98, T_100, T_121, T_145, k93_enc]
  refine loop_rule (ι := Nat × List Int) (S := fun p => ⟨[(1, .ptr 0 0 0), (3, .ms 1 1 0 p.2.length none), (7, .fz (n.f3.map k100.enc)), (8, .int .i64 n.f3.length), (9, .int .i64 p.1)], [some (.buf 5 [k93.enc n] false true), some (.buf 1 (p.2.map (Cd.int .u32).enc) false true)]⟩)
    (m := fun p => n.f3.length + 1 - p.1) (I := fun p => p.1 ≤ n.f3.length ∧ p.2 = (n.f3.take p.1).map (·.f0)) ?_ (0, []) _ ⟨by simp, by simp⟩ rfl
  rintro ⟨i, out⟩ ⟨hi, ho⟩
  simp only at hi ho
  by_cases hlt : i < n.f3.length
  · have hx : n.f3[i]? = some n.f3[i] := List.getElem?_eq_getElem hlt
    have hol : out.length = i := by rw [ho]; simp; omega
    simp only [go_sem, T_1, T_3, T_4, T_5, T_9, T_42, T_51, T_69, T_76, T_90, T_91, T_93, T_96, T_98, T_100, T_121, T_145, all100, hlt, hx, k93_enc, k100_enc, wrap_i64s (show i < 1000000000000000000 by omega), show (out.length + 1) * 4 ≤ 140737488355328 by omega, show out.length + 1 ≤ 140737488355328 by omega]
    refine ⟨(i + 1, out ++ [n.f3[i].f0]), ⟨by simp only; omega, ?_⟩, by simp only; omega, by simp only [List.map_append, List.length_append]; rfl⟩
    simp only
    rw [List.take_succ_eq_append_getElem hlt, List.map_append, ho]
    rfl
  · have hall : out = n.f3.map (·.f0) := by rw [ho, List.take_of_length_le (by omega)]
    have hol : out.length = n.f3.length := by rw [hall]; simp
    have hgl := gotos_le n.f4
    by_cases hg : (gotos n.f4).length = 0
    · have hg0 : gotos n.f4 = [] := List.eq_nil_of_length_eq_zero hg
      simp only [go_sem, T_1, T_3, T_4, T_5, T_9, T_42, T_51, T_69, T_76, T_90, T_91, T_93, T_96, T_98, T_100, T_121, T_145, hlt, k93_enc, call125 n.f4 h4, hg0]
      rw [finish_ms rfl (by simp)]
      simp [targets, hg0, hall]
    · simp only [go_sem, T_1, T_3, T_4, T_5, T_9, T_42, T_51, T_69, T_76, T_90, T_91, T_93, T_96, T_98, T_100, T_121, T_145, hlt, k93_enc, call125 n.f4 h4, append_many, appN_some, hg, show (out.length + (gotos n.f4).length) * 4 ≤ 140737488355328 by omega, show out.length + (gotos n.f4).length ≤ 140737488355328 by omega]
      rw [finish_ms rfl (by simp)]
      simp [targets, hall]
theorem call131 (n : S93) (hn : fewN n) (k : Nat) : callV (LX T fns) k (.clo 131 []) [.agg (k93.enc n)] = .pure (.fz ((targets n).map (Cd.int .u32).enc), []) := callV_plain (fn := fn131) rfl rfl rfl (lim131 n hn) k
theorem call67 (n : S93) (hn : fewN n) (k : Nat) : callV (LX T fns) k (.clo 67 []) [.agg (k93.enc n)] = .pure (.fz ((targets n).map (Cd.int .u32).enc), []) := callV_plain (fn := fn67) rfl rfl rfl (lim67 n hn.2.2.1 hn.2.2.2) k
theorem call68 (l : List S95) (b : Int) (hl : fewL l) (k : Nat) : callV (LX T fns) k (.clo 68 []) [.fz (l.map k95.enc), .int .u32 b] = .pure (.tup [.agg (k93.enc ((find b l).getD noNode)), .bool (find b l).isSome], []) := callV_plain (fn := fn68) rfl rfl rfl (lim68 l b hl.1) k
theorem call135 (b : Int) (l : List S95) (deep : List Int) (hl : fewL l) (hd : deep.length = 0 ∨ deep.length = l.length) (k : Nat) : callV (LX T fns) k (.clo 135 []) [.int .u32 b, .fz (l.map k95.enc), .fz (deep.map (Cd.int .i64).enc)] = .pure (.int .u16 (at_ b l deep), []) :=
  callV_plain (fn := fn135) rfl rfl rfl (lim135 b l deep (by have := hl.1; omega) hd) k
end Go.Proofs.Ytfdemnefkfkghaa.R
/- Chapter 33's law: the document's 'with'. -/
namespace Go.Proofs.Ytfdemnefkfkghaa.R
open Go Go.Proofs
set_option linter.unusedSimpArgs false
set_option linter.unusedVariables false
set_option maxRecDepth 10000
set_option maxHeartbeats 1000000

def withE (f : Int → Int) (e : S100) : S100 := ⟨e.f0, f e.f0, e.f2⟩
def withM (f : Int → Int) (m : S121) : S121 := if m.f0 = 3 then ⟨m.f0, m.f1, m.f2, m.f3, f m.f3, m.f5⟩ else m
/-- A node, as deep as 'f' tells what it leads to. -/
def withN (f : Int → Int) (n : S93) : S93 := ⟨n.f0, n.f1, n.f2, n.f3.map (withE f), n.f4.map (withM f)⟩

theorem lim66 (n : S93) (l : List S95) (deep : List Int) (hn : fewN n) (hl : fewL l) (hd : deep.length = 0 ∨ deep.length = l.length) : lim T fns 66 [.agg (k93.enc n), .fz (l.map k95.enc), .fz (deep.map (Cd.int .i64).enc)] [] = some (.agg (k93.enc (withN (fun b => at_ b l deep) n)), []) := by
  obtain ⟨_, _, h3, h4⟩ := hn
  refine fn_rule (fn := fn66) rfl rfl (by simp [fn66]) ?_
  unfold fn66
  simp only [Try.f66, Option.getD_some, argEnv, List.map_nil, List.length_nil]
  simp only [go_sem, T_1, T_3, T_4, T_5, T_9, T_22, T_42, T_51, T_69, T_90, T_91, T_93, T_95, T_96, T_98, T_100, T_112, T_121, T_145, k93_enc]
  refine loop_rule (ι := Nat × List S100) (S := fun p => ⟨[(1, .fz (l.map k95.enc)), (2, .fz (deep.map (Cd.int .i64).enc)), (3, .ptr 0 0 0), (6, .ptr 1 0 0), (7, .ptr 2 0 0), (21, .int .i64 n.f3.length), (22, .int .i64 p.1)],
      [some (.buf 5 [k93.enc n] false true), some (.buf 5 [[.bool false, .nils, .nils, .nils, .nils]] false true), some (.buf 5 [[.bool n.f0, .fz (n.f1.map k145.enc), .fz (n.f2.map Cd.str.enc), .ms 3 4 0 p.2.length none, .nils]] false false), some (.buf 4 (p.2.map k100.enc) false true)]⟩)
    (m := fun p => n.f3.length + 1 - p.1) (I := fun p => p.1 ≤ n.f3.length ∧ p.2 = (n.f3.take p.1).map (withE fun b => at_ b l deep)) ?_ (0, []) _ ⟨by simp, by simp⟩ rfl
  rintro ⟨i, out⟩ ⟨hi, ho⟩
  simp only at hi ho
  by_cases hlt : i < n.f3.length
  · have hx : n.f3[i]? = some n.f3[i] := List.getElem?_eq_getElem hlt
    have hol : out.length = i := by rw [ho]; simp; omega
    simp only [go_sem, T_1, T_3, T_4, T_5, T_9, T_22, T_42, T_51, T_69, T_90, T_91, T_93, T_95, T_96, T_98, T_100, T_112, T_121, T_145, all100, hlt, hx, k93_enc, k100_enc, call135 _ l deep hl hd, wrap_i64s (show i < 1000000000000000000 by omega), show (out.length + 1) * 40 ≤ 140737488355328 by omega, show out.length + 1 ≤ 140737488355328 by omega]
    refine ⟨(i + 1, out ++ [withE (fun b => at_ b l deep) n.f3[i]]), ⟨by simp only; omega, ?_⟩, by simp only; omega, by simp only [List.map_append, List.length_append]; rfl⟩
    simp only
    rw [List.take_succ_eq_append_getElem hlt, List.map_append, ho]
    rfl
  have hall : out = n.f3.map (withE fun b => at_ b l deep) := by rw [ho, List.take_of_length_le (by omega)]
  clear ho hi
  simp only [go_sem, T_1, T_3, T_4, T_5, T_9, T_22, T_42, T_51, T_69, T_90, T_91, T_93, T_95, T_96, T_98, T_100, T_112, T_121, T_145, hlt, k93_enc]
  refine loop_rule (ι := Nat × List S121) (S := fun p => ⟨[(1, .fz (l.map k95.enc)), (2, .fz (deep.map (Cd.int .i64).enc)), (3, .ptr 0 0 0), (6, .ptr 1 0 0), (7, .ptr 2 0 0), (45, .int .i64 n.f4.length), (46, .int .i64 p.1)],
      [some (.buf 5 [k93.enc n] false true), some (.buf 5 [[.bool false, .nils, .nils, .nils, .nils]] false true), some (.buf 5 [[.bool n.f0, .fz (n.f1.map k145.enc), .fz (n.f2.map Cd.str.enc), .ms 3 4 0 out.length none, .ms 4 6 0 p.2.length none]] false false), some (.buf 4 (out.map k100.enc) false true), some (.buf 6 (p.2.map k121.enc) false true)]⟩)
    (m := fun p => n.f4.length + 1 - p.1) (I := fun p => p.1 ≤ n.f4.length ∧ p.2 = (n.f4.take p.1).map (withM fun b => at_ b l deep)) ?_ (0, []) _ ⟨by simp, by simp⟩ rfl
  clear hlt
  rintro ⟨i, o2⟩ ⟨hi, ho⟩
  simp only at hi ho
  by_cases hlt : i < n.f4.length
  · have hx : n.f4[i]? = some n.f4[i] := List.getElem?_eq_getElem hlt
    have hol : o2.length = i := by rw [ho]; simp; omega
    have hs : ∀ y, y = withM (fun b => at_ b l deep) n.f4[i] → o2 ++ [y] = (n.f4.take (i + 1)).map (withM fun b => at_ b l deep) := by
      rintro y rfl
      rw [List.take_succ_eq_append_getElem hlt, List.map_append, ho]
      rfl
    simp only [go_sem, T_1, T_3, T_4, T_5, T_9, T_22, T_42, T_51, T_69, T_90, T_91, T_93, T_95, T_96, T_98, T_100, T_112, T_121, T_145, all121, hlt, hx, k93_enc, k121_enc, call135 _ l deep hl hd, wrap_i64s (show i < 1000000000000000000 by omega), show (o2.length + 1) * 64 ≤ 140737488355328 by omega, show o2.length + 1 ≤ 140737488355328 by omega]
    split
    · rename_i he
      refine ⟨(i + 1, o2 ++ [⟨n.f4[i].f0, n.f4[i].f1, n.f4[i].f2, n.f4[i].f3, at_ n.f4[i].f3 l deep, n.f4[i].f5⟩]), ⟨by simp only; omega, hs _ (by simp [withM, he])⟩, by simp only; omega, by simp only [List.map_append, List.length_append]; rfl⟩
    · rename_i he
      refine ⟨(i + 1, o2 ++ [n.f4[i]]), ⟨by simp only; omega, hs _ (by simp [withM, he])⟩, by simp only; omega, by simp only [List.map_append, List.length_append]; rfl⟩
  have hall2 : o2 = n.f4.map (withM fun b => at_ b l deep) := by rw [ho, List.take_of_length_le (by omega)]
  simp only [go_sem, T_1, T_3, T_4, T_5, T_9, T_22, T_42, T_51, T_69, T_90, T_91, T_93, T_95, T_96, T_98, T_100, T_112, T_121, T_145, hlt, k93_enc]
  refine finish_fz ?_
  simp only [frz, frzAll, frzG, frzGAll, ms2, msUp, Rd.run, Heap.at?, List.length_map, Nat.zero_add, Nat.le_refl, and_self, if_true, FZ, pl_agg, pl_cons, pl_nil, pl_bool, pl_fz, Bool.and_self, List.drop_zero]
  rw [List.take_of_length_le (by simp), List.take_of_length_le (by simp), hall, hall2]
  rfl
theorem call66 (n : S93) (l : List S95) (deep : List Int) (hn : fewN n) (hl : fewL l) (hd : deep.length = 0 ∨ deep.length = l.length) (k : Nat) : callV (LX T fns) k (.clo 66 []) [.agg (k93.enc n), .fz (l.map k95.enc), .fz (deep.map (Cd.int .i64).enc)] = .pure (.agg (k93.enc (withN (fun b => at_ b l deep) n)), []) :=
  callV_plain (fn := fn66) rfl rfl rfl (lim66 n l deep hn hl hd) k
end Go.Proofs.Ytfdemnefkfkghaa.R
/- Chapter 33's law: nodes of one's own; as deep as is told. -/
namespace Go.Proofs.Ytfdemnefkfkghaa.R
open Go Go.Proofs
set_option linter.unusedSimpArgs false
set_option linter.unusedVariables false
set_option maxRecDepth 10000
set_option maxHeartbeats 2000000

/-- A node with lists of its own. -/
def ownV (n : S93) (k : Nat) : V := .agg [.bool n.f0, .ms k 2 0 n.f1.length none, .ms (k + 1) 1 0 n.f2.length none, .ms (k + 2) 4 0 n.f3.length none, .ms (k + 3) 6 0 n.f4.length none]
def ownH (n : S93) : Heap := [some (.buf 2 (n.f1.map k145.enc) false true), some (.buf 1 (n.f2.map Cd.str.enc) false true), some (.buf 4 (n.f3.map k100.enc) false true), some (.buf 6 (n.f4.map k121.enc) false true)]

theorem lim133 (n : S93) (hn : fewN n) : lim T fns 133 [.agg (k93.enc n)] [] = some (ownV n 0, ownH n) := by
  obtain ⟨h1, h2, h3, h4⟩ := hn
  have c1 := callV_clone (T := T) (fns := fns) (g := 188) (fn := fn188) (st := 2) (bytes := 32) rfl rfl (by decide) (all145 n.f1) (by simp; omega)
  have c2 := callV_clone (T := T) (fns := fns) (g := 159) (fn := fn159) (st := 1) (bytes := 16) rfl rfl (by decide) (all_str n.f2) (by simp; omega)
  have c3 := callV_clone (T := T) (fns := fns) (g := 189) (fn := fn189) (st := 4) (bytes := 40) rfl rfl (by decide) (all100 n.f3) (by simp; omega)
  have c4 := callV_clone (T := T) (fns := fns) (g := 190) (fn := fn190) (st := 6) (bytes := 64) rfl rfl (by decide) (all121 n.f4) (by simp; omega)
  simp only [List.length_map] at c1 c2 c3 c4
  refine fn_rule (fn := fn133) rfl rfl (by simp [fn133]) ?_
  unfold fn133
  simp only [Try.f133, Option.getD_some, argEnv, List.map_nil, List.length_nil]
  simp only [go_sem, T_4, T_5, T_9, T_42, T_51, T_69, T_90, T_91, T_93, T_96, T_98, T_100, T_121, T_145, k93_enc, c1, c2, c3, c4]
  repeat (refine ⟨by kernel_rfl, ?_⟩)
  trace_state
  rfl
end Go.Proofs.Ytfdemnefkfkghaa.R
/- Chapter 33's law: the document's rounds of depths. -/
namespace Go.Proofs.Ytfdemnefkfkghaa.R
open Go Go.Proofs
set_option linter.unusedSimpArgs false
set_option linter.unusedVariables false
set_option maxRecDepth 10000
set_option maxHeartbeats 1000000

/-- A block's number and one more, if that is greater. -/
def deepen (b : Int) : Int → List S95 → List Int → Int
  | d, x :: l, e :: deep => deepen b (if x.f0 = b then (if e + 1 > d then e + 1 else d) else d) l deep
  | d, _, _ => d
def deepens (l : List S95) (deep : List Int) (d : Int) (ts : List Int) : Int := ts.foldl (fun d b => deepen b d l deep) d
def round (l : List S95) (deep : List Int) : List Int := l.map fun x => deepens l deep 1 (targets x.f1)
theorem deepen_drop {b d : Int} {l : List S95} {deep : List Int} {i : Nat} (h : i < l.length) (h' : i < deep.length) : deepen b d (l.drop i) (deep.drop i) = deepen b (if l[i].f0 = b then (if deep[i] + 1 > d then deep[i] + 1 else d) else d) (l.drop (i + 1)) (deep.drop (i + 1)) := by
  rw [List.drop_eq_getElem_cons h, List.drop_eq_getElem_cons h']
  rfl
theorem targets_le (n : S93) (h : fewN n) : (targets n).length < 10000000000000 := by
  obtain ⟨_, _, h3, h4⟩ := h
  have := gotos_le n.f4
  simp [targets]
  omega

theorem lim136 (l : List S95) (deep : List Int) (hl : fewL l) (hd : deep.length = l.length) (hb : ∀ e ∈ deep, 0 ≤ e ∧ e < 1000000000000000000) : lim T fns 136 [.fz (l.map k95.enc), .fz (deep.map (Cd.int .i64).enc)] [] = some (.fz ((round l deep).map (Cd.int .i64).enc), []) := by
  obtain ⟨hl1, hln⟩ := hl
  refine fn_rule (fn := fn136) rfl rfl (by simp [fn136]) ?_
  unfold fn136
  simp only [Try.f136, Option.getD_some, argEnv, List.map_nil, List.length_nil]
  simp only [go_sem, T_1, T_3, T_4, T_5, T_9, T_22, T_42, T_51, T_69, T_76, T_90, T_91, T_93, T_95, T_96, T_98, T_100, T_112, T_121, T_145]
  refine loop_rule (ι := Nat × List Int) (S := fun p => ⟨[(0, .fz (l.map k95.enc)), (1, .fz (deep.map (Cd.int .i64).enc)), (5, .ms 0 1 0 p.2.length none), (13, .int .i64 l.length), (14, .int .i64 p.1)], [some (.buf 1 (p.2.map (Cd.int .i64).enc) false true)]⟩)
    (m := fun p => l.length + 1 - p.1) (I := fun p => p.1 ≤ l.length ∧ p.2 = (l.take p.1).map fun x => deepens l deep 1 (targets x.f1)) ?_ (0, []) _ ⟨by simp, by simp⟩ rfl
  rintro ⟨i, out⟩ ⟨hi, ho⟩
  simp only at hi ho
  by_cases hlt : i < l.length
  · have hx : l[i]? = some l[i] := List.getElem?_eq_getElem hlt
    have hn := hln l[i] (List.getElem_mem hlt)
    have hc := call67 l[i].f1 hn
    have hts := targets_le l[i].f1 hn
    simp only [k93_enc] at hc
    have hol : out.length = i := by rw [ho]; simp; omega
    simp only [go_sem, T_1, T_3, T_4, T_5, T_9, T_22, T_42, T_51, T_69, T_76, T_90, T_91, T_93, T_95, T_96, T_98, T_100, T_112, T_121, T_145, all95, hlt, hx, k95_enc, hc]
    generalize htt : targets l[i].f1 = ts at hts
    refine loop_rule (ι := Nat × Int) (S := fun p => ⟨[(0, .fz (l.map k95.enc)), (1, .fz (deep.map (Cd.int .i64).enc)), (5, .ms 0 1 0 out.length none), (7, .int .i64 p.2), (8, .fz (ts.map (Cd.int .u32).enc)), (13, .int .i64 l.length), (14, .int .i64 i), (24, .int .i64 ts.length), (25, .int .i64 p.1)], [some (.buf 1 (out.map (Cd.int .i64).enc) false true)]⟩)
      (m := fun p => ts.length + 1 - p.1) (I := fun p => p.1 ≤ ts.length ∧ deepens l deep p.2 (ts.drop p.1) = deepens l deep 1 ts) ?_ (0, 1) _ ⟨by simp, by simp⟩ rfl
    rintro ⟨k, d⟩ ⟨hk, hdd⟩
    simp only at hk hdd
    by_cases hkt : k < ts.length
    · have hy : ts[k]? = some ts[k] := List.getElem?_eq_getElem hkt
      rw [List.drop_eq_getElem_cons hkt] at hdd
      simp only [go_sem, T_1, T_3, T_4, T_5, T_9, T_22, T_42, T_51, T_69, T_76, T_90, T_91, T_93, T_95, T_96, T_98, T_100, T_112, T_121, T_145, hkt]
      refine loop_rule (ι := Nat × Int) (S := fun p => ⟨[(0, .fz (l.map k95.enc)), (1, .fz (deep.map (Cd.int .i64).enc)), (5, .ms 0 1 0 out.length none), (7, .int .i64 p.2), (8, .fz (ts.map (Cd.int .u32).enc)), (9, .int .i64 k), (13, .int .i64 l.length), (14, .int .i64 i), (24, .int .i64 ts.length), (25, .int .i64 k), (29, .int .i64 l.length), (30, .int .i64 p.1)], [some (.buf 1 (out.map (Cd.int .i64).enc) false true)]⟩)
        (m := fun p => l.length + 1 - p.1) (I := fun p => p.1 ≤ l.length ∧ deepen ts[k] p.2 (l.drop p.1) (deep.drop p.1) = deepen ts[k] d l deep) ?_ (0, d) _ ⟨by simp, by simp⟩ rfl
      rintro ⟨j, d2⟩ ⟨hj, hdj⟩
      simp only at hj hdj
      by_cases hjl : j < l.length
      · have hz : l[j]? = some l[j] := List.getElem?_eq_getElem hjl
        have hw : deep[j]? = some (deep[j]'(by omega)) := List.getElem?_eq_getElem (by omega)
        have hbj := hb (deep[j]'(by omega)) (List.getElem_mem _)
        rw [deepen_drop hjl (by omega)] at hdj
        simp only [go_sem, T_1, T_3, T_4, T_5, T_9, T_22, T_42, T_51, T_69, T_76, T_90, T_91, T_93, T_95, T_96, T_98, T_100, T_112, T_121, T_145, hkt, hjl, hy, hz, hw, all95, k95_enc, wrap_i64s (show j < 1000000000000000000 by omega), wrap_i64 (n := (deep[j]'(by omega)) + 1) (by omega) (by omega)]
        split
        · rename_i he
          rw [if_pos he] at hdj
          exact ⟨(j + 1, _), ⟨by simp only; omega, hdj⟩, by simp only; omega, rfl⟩
        · rename_i he
          rw [if_neg he] at hdj
          exact ⟨(j + 1, d2), ⟨by simp only; omega, hdj⟩, by simp only; omega, rfl⟩
      · rw [List.drop_eq_nil_of_le (by omega)] at hdj
        have e2 : d2 = deepen ts[k] d l deep := by rw [← hdj]; rfl
        simp only [go_sem, T_1, T_3, T_4, T_5, T_9, T_22, T_42, T_51, T_69, T_76, T_90, T_91, T_93, T_95, T_96, T_98, T_100, T_112, T_121, T_145, hkt, hjl, wrap_i64s (show k < 1000000000000000000 by omega)]
        exact ⟨(k + 1, d2), ⟨by simp only; omega, by rw [e2]; exact hdd⟩, by simp only; omega, rfl⟩
    · rw [List.drop_eq_nil_of_le (by omega)] at hdd
      have e1 : d = deepens l deep 1 ts := by rw [← hdd]; rfl
      simp only [go_sem, T_1, T_3, T_4, T_5, T_9, T_22, T_42, T_51, T_69, T_76, T_90, T_91, T_93, T_95, T_96, T_98, T_100, T_112, T_121, T_145, hkt, wrap_i64s (show i < 1000000000000000000 by omega), show (out.length + 1) * 8 ≤ 140737488355328 by omega, show out.length + 1 ≤ 140737488355328 by omega]
      refine ⟨(i + 1, out ++ [d]), ⟨by simp only; omega, ?_⟩, by simp only; omega, by simp only [List.map_append, List.length_append]; rfl⟩
      simp only
      rw [List.take_succ_eq_append_getElem hlt, List.map_append, ho, e1, ← htt]
      rfl
  · simp only [go_sem, T_1, T_3, T_4, T_5, T_9, T_22, T_42, T_51, T_69, T_76, T_90, T_91, T_93, T_95, T_96, T_98, T_100, T_112, T_121, T_145, hlt]
    rw [finish_ms rfl (by simp), ho, List.take_of_length_le (by omega)]
    rfl
theorem call136 (l : List S95) (deep : List Int) (hl : fewL l) (hd : deep.length = l.length) (hb : ∀ e ∈ deep, 0 ≤ e ∧ e < 1000000000000000000) (k : Nat) : callV (LX T fns) k (.clo 136 []) [.fz (l.map k95.enc), .fz (deep.map (Cd.int .i64).enc)] = .pure (.fz ((round l deep).map (Cd.int .i64).enc), []) :=
  callV_plain (fn := fn136) rfl rfl rfl (lim136 l deep hl hd hb) k
end Go.Proofs.Ytfdemnefkfkghaa.R
/- Chapter 33's law: what is more than is gone through. -/
namespace Go.Proofs.Ytfdemnefkfkghaa.R
open Go Go.Proofs
set_option linter.unusedSimpArgs false
set_option linter.unusedVariables false
set_option maxRecDepth 10000
set_option maxHeartbeats 1000000

def greatPairs (l : List S145) : Bool := decide (60 < l.length) || l.any fun p => decide (100 < p.f0.size) || decide (100 < p.f1.size)

theorem any_drop {α : Type} {f : α → Bool} {l : List α} {i : Nat} (h : i < l.length) : (l.drop i).any f = (f l[i] || (l.drop (i + 1)).any f) := by
  rw [List.drop_eq_getElem_cons h]
  rfl

theorem lim34 (l : List S145) : lim T fns 34 [.fz (l.map k145.enc)] [] = some (.bool (greatPairs l), []) := by
  refine fn_rule (fn := fn34) rfl rfl (by simp [fn34]) ?_
  unfold fn34
  simp only [Try.f34, Option.getD_some, argEnv, List.map_nil, List.length_nil]
  simp only [go_sem, T_3, T_9, T_51, T_145]
  split
  · rename_i h0
    have : 60 < l.length := by omega
    simp [greatPairs, this]
  · rename_i h0
    have h60 : ¬ 60 < l.length := by omega
    refine loop_rule (ι := Nat) (S := fun i => ⟨[(0, .fz (l.map k145.enc)), (8, .int .i64 l.length), (9, .int .i64 i)], []⟩) (m := fun i => l.length + 1 - i)
      (I := fun i => i ≤ l.length ∧ ((l.drop i).any fun p => decide (100 < p.f0.size) || decide (100 < p.f1.size)) = greatPairs l) ?_ 0 _ ⟨by omega, by simp [greatPairs, h60]⟩ rfl
    rintro i ⟨hi, hg⟩
    by_cases hlt : i < l.length
    · have hx : l[i]? = some l[i] := List.getElem?_eq_getElem hlt
      rw [any_drop hlt] at hg
      by_cases h1 : 100 < l[i].f0.size
      · have e1 : decide ((l[i].f0.size : Int) > 100) = true := by simp; omega
        simp only [go_sem, T_3, T_9, T_51, T_145, all145, hlt, hx, k145_enc, e1, wrap_i64s (show i < 1000000000000000000 by omega)]
        simpa [h1] using hg
      · have e1 : decide ((l[i].f0.size : Int) > 100) = false := by simp; omega
        by_cases h2 : 100 < l[i].f1.size
        · have e2 : decide ((l[i].f1.size : Int) > 100) = true := by simp; omega
          simp only [go_sem, T_3, T_9, T_51, T_145, all145, hlt, hx, k145_enc, e1, e2, wrap_i64s (show i < 1000000000000000000 by omega)]
          simpa [h1, h2] using hg
        · have e2 : decide ((l[i].f1.size : Int) > 100) = false := by simp; omega
          simp only [go_sem, T_3, T_9, T_51, T_145, all145, hlt, hx, k145_enc, e1, e2, wrap_i64s (show i < 1000000000000000000 by omega)]
          exact ⟨i + 1, ⟨by omega, by simpa [h1, h2] using hg⟩, by simp only; omega, rfl⟩
    · rw [List.drop_eq_nil_of_le (by omega)] at hg
      simp only [go_sem, T_3, T_9, T_51, T_145, hlt]
      rw [← hg]
      rfl
theorem call34 (l : List S145) (n : Nat) : callV (LX T fns) n (.clo 34 []) [.fz (l.map k145.enc)] = .pure (.bool (greatPairs l), []) := callV_plain (fn := fn34) rfl rfl rfl (lim34 l) n

def greatMsg (m : S121) : Bool := decide (100 < m.f1.size) || decide (100 < m.f2.size) || decide (100 < m.f5.size)
def greatMsgs (l : List S121) : Bool := decide (60 < l.length) || l.any greatMsg

theorem lim127 (l : List S121) : lim T fns 127 [.fz (l.map k121.enc)] [] = some (.bool (greatMsgs l), []) := by
  refine fn_rule (fn := fn127) rfl rfl (by simp [fn127]) ?_
  unfold fn127
  simp only [Try.f127, Option.getD_some, argEnv, List.map_nil, List.length_nil]
  simp only [go_sem, T_3, T_5, T_9, T_42, T_91, T_96, T_121]
  split
  · rename_i h0
    have : 60 < l.length := by omega
    simp [greatMsgs, this]
  · rename_i h0
    have h60 : ¬ 60 < l.length := by omega
    refine loop_rule (ι := Nat) (S := fun i => ⟨[(0, .fz (l.map k121.enc)), (8, .int .i64 l.length), (9, .int .i64 i)], []⟩) (m := fun i => l.length + 1 - i)
      (I := fun i => i ≤ l.length ∧ ((l.drop i).any greatMsg) = greatMsgs l) ?_ 0 _ ⟨by omega, by simp [greatMsgs, h60]⟩ rfl
    rintro i ⟨hi, hg⟩
    by_cases hlt : i < l.length
    · have hx : l[i]? = some l[i] := List.getElem?_eq_getElem hlt
      rw [any_drop hlt] at hg
      have hm : greatMsg l[i] = (decide (100 < l[i].f1.size) || decide (100 < l[i].f2.size) || decide (100 < l[i].f5.size)) := rfl
      have hw := wrap_i64s (show i < 1000000000000000000 by omega)
      have d1 : decide ((l[i].f1.size : Int) > 100) = decide (100 < l[i].f1.size) := by simp only [gt_iff_lt, decide_eq_decide]; omega
      have d2 : decide ((l[i].f2.size : Int) > 100) = decide (100 < l[i].f2.size) := by simp only [gt_iff_lt, decide_eq_decide]; omega
      have d3 : decide ((l[i].f5.size : Int) > 100) = decide (100 < l[i].f5.size) := by simp only [gt_iff_lt, decide_eq_decide]; omega
      cases h1 : decide (100 < l[i].f1.size) with
      | true =>
        rw [h1] at d1 hm
        simp only [go_sem, T_3, T_5, T_9, T_42, T_91, T_96, T_121, all121, hlt, hx, k121_enc, d1, hw]
        simpa [hm] using hg
      | false =>
        rw [h1] at d1 hm
        cases h2 : decide (100 < l[i].f2.size) with
        | true =>
          rw [h2] at d2 hm
          simp only [go_sem, T_3, T_5, T_9, T_42, T_91, T_96, T_121, all121, hlt, hx, k121_enc, d1, d2, hw]
          simpa [hm] using hg
        | false =>
          rw [h2] at d2 hm
          cases h3 : decide (100 < l[i].f5.size) with
          | true =>
            rw [h3] at d3 hm
            simp only [go_sem, T_3, T_5, T_9, T_42, T_91, T_96, T_121, all121, hlt, hx, k121_enc, d1, d2, d3, hw]
            simpa [hm] using hg
          | false =>
            rw [h3] at d3 hm
            simp only [go_sem, T_3, T_5, T_9, T_42, T_91, T_96, T_121, all121, hlt, hx, k121_enc, d1, d2, d3, hw]
            exact ⟨i + 1, ⟨by omega, by simpa [hm] using hg⟩, by simp only; omega, rfl⟩
    · rw [List.drop_eq_nil_of_le (by omega)] at hg
      simp only [go_sem, T_3, T_5, T_9, T_42, T_91, T_96, T_121, hlt]
      rw [← hg]
      rfl
theorem call127 (l : List S121) (n : Nat) : callV (LX T fns) n (.clo 127 []) [.fz (l.map k121.enc)] = .pure (.bool (greatMsgs l), []) := callV_plain (fn := fn127) rfl rfl rfl (lim127 l) n

def greatE (e : S100) : Bool := decide (100 < e.f2.f0.size) || decide (100 < e.f2.f1.size)
def greatNode (n : S93) : Bool := decide (60 < n.f2.length) || decide (60 < n.f3.length) || greatPairs n.f1 || greatMsgs n.f4 || (n.f2.any fun s => decide (100 < s.size)) || n.f3.any greatE

theorem lim59 (n : S93) : lim T fns 59 [.agg (k93.enc n)] [] = some (.bool (greatNode n), []) := by
  refine fn_rule (fn := fn59) rfl rfl (by simp [fn59]) ?_
  unfold fn59
  simp only [Try.f59, Option.getD_some, argEnv, List.map_nil, List.length_nil]
  have hg : greatNode n = (decide (60 < n.f2.length) || decide (60 < n.f3.length) || greatPairs n.f1 || greatMsgs n.f4 || (n.f2.any fun s => decide (100 < s.size)) || n.f3.any greatE) := rfl
  have d1 : decide ((n.f2.length : Int) > 60) = decide (60 < n.f2.length) := by simp only [gt_iff_lt, decide_eq_decide]; omega
  have d2 : decide ((n.f3.length : Int) > 60) = decide (60 < n.f3.length) := by simp only [gt_iff_lt, decide_eq_decide]; omega
  cases h1 : decide (60 < n.f2.length) with
  | true =>
    rw [h1] at d1 hg
    simp only [go_sem, T_3, T_4, T_5, T_9, T_42, T_51, T_69, T_90, T_91, T_93, T_96, T_98, T_100, T_121, T_145, k93_enc, d1]
    simp [hg]
  | false =>
  rw [h1] at d1 hg
  cases h2 : decide (60 < n.f3.length) with
  | true =>
    rw [h2] at d2 hg
    simp only [go_sem, T_3, T_4, T_5, T_9, T_42, T_51, T_69, T_90, T_91, T_93, T_96, T_98, T_100, T_121, T_145, k93_enc, d1, d2]
    simp [hg]
  | false =>
  rw [h2] at d2 hg
  cases h3 : greatPairs n.f1 with
  | true =>
    rw [h3] at hg
    simp only [go_sem, T_3, T_4, T_5, T_9, T_42, T_51, T_69, T_90, T_91, T_93, T_96, T_98, T_100, T_121, T_145, k93_enc, d1, d2, call34, h3]
    simp [hg]
  | false =>
  rw [h3] at hg
  cases h4 : greatMsgs n.f4 with
  | true =>
    rw [h4] at hg
    simp only [go_sem, T_3, T_4, T_5, T_9, T_42, T_51, T_69, T_90, T_91, T_93, T_96, T_98, T_100, T_121, T_145, k93_enc, d1, d2, call34, call127, h3, h4]
    simp [hg]
  | false =>
  rw [h4] at hg
  simp only [Bool.or_false, Bool.false_or] at hg
  have l2 : n.f2.length ≤ 60 := by simpa using h1
  have l3 : n.f3.length ≤ 60 := by simpa using h2
  simp only [go_sem, T_3, T_4, T_5, T_9, T_42, T_51, T_69, T_90, T_91, T_93, T_96, T_98, T_100, T_121, T_145, k93_enc, d1, d2, call34, call127, h3, h4]
  refine loop_rule (ι := Nat) (S := fun i => ⟨[(1, .ptr 0 0 0), (27, .int .i64 n.f2.length), (28, .int .i64 i)], [some (.buf 5 [k93.enc n] false true)]⟩) (m := fun i => n.f2.length + 1 - i)
    (I := fun i => i ≤ n.f2.length ∧ (((n.f2.drop i).any fun s => decide (100 < s.size)) || n.f3.any greatE) = greatNode n) ?_ 0 _ ⟨by omega, hg.symm⟩ rfl
  rintro i ⟨hi, hq⟩
  by_cases hlt : i < n.f2.length
  · have hx : n.f2[i]? = some n.f2[i] := List.getElem?_eq_getElem hlt
    rw [any_drop hlt] at hq
    simp only [go_sem, T_3, T_4, T_5, T_9, T_42, T_51, T_69, T_90, T_91, T_93, T_96, T_98, T_100, T_121, T_145, hlt, hx, k93_enc, wrap_i64s (show i < 1000000000000000000 by omega)]
    split
    · rename_i he
      have : 100 < n.f2[i].size := by omega
      simpa [this] using hq
    · rename_i he
      have : ¬ 100 < n.f2[i].size := by omega
      exact ⟨i + 1, ⟨by omega, by simpa [this] using hq⟩, by simp only; omega, rfl⟩
  rw [List.drop_eq_nil_of_le (by omega)] at hq
  simp only [List.any_nil, Bool.false_or] at hq
  simp only [go_sem, T_3, T_4, T_5, T_9, T_42, T_51, T_69, T_90, T_91, T_93, T_96, T_98, T_100, T_121, T_145, hlt, k93_enc]
  refine loop_rule (ι := Nat) (S := fun i => ⟨[(1, .ptr 0 0 0), (41, .int .i64 n.f3.length), (42, .int .i64 i)], [some (.buf 5 [k93.enc n] false true)]⟩) (m := fun i => n.f3.length + 1 - i)
    (I := fun i => i ≤ n.f3.length ∧ (n.f3.drop i).any greatE = greatNode n) ?_ 0 _ ⟨by omega, hq⟩ rfl
  clear hlt hi
  rintro i ⟨hi, hq⟩
  by_cases hlt : i < n.f3.length
  · have hx : n.f3[i]? = some n.f3[i] := List.getElem?_eq_getElem hlt
    rw [any_drop hlt] at hq
    have hm : greatE n.f3[i] = (decide (100 < n.f3[i].f2.f0.size) || decide (100 < n.f3[i].f2.f1.size)) := rfl
    have e1 : decide ((n.f3[i].f2.f0.size : Int) > 100) = decide (100 < n.f3[i].f2.f0.size) := by simp only [gt_iff_lt, decide_eq_decide]; omega
    have e2 : decide ((n.f3[i].f2.f1.size : Int) > 100) = decide (100 < n.f3[i].f2.f1.size) := by simp only [gt_iff_lt, decide_eq_decide]; omega
    have hw := wrap_i64s (show i < 1000000000000000000 by omega)
    cases g1 : decide (100 < n.f3[i].f2.f0.size) with
    | true =>
      rw [g1] at e1 hm
      simp only [go_sem, T_3, T_4, T_5, T_9, T_42, T_51, T_69, T_90, T_91, T_93, T_96, T_98, T_100, T_121, T_145, all100, hlt, hx, k93_enc, k100_enc, e1, hw]
      simpa [hm] using hq
    | false =>
      rw [g1] at e1 hm
      cases g2 : decide (100 < n.f3[i].f2.f1.size) with
      | true =>
        rw [g2] at e2 hm
        simp only [go_sem, T_3, T_4, T_5, T_9, T_42, T_51, T_69, T_90, T_91, T_93, T_96, T_98, T_100, T_121, T_145, all100, hlt, hx, k93_enc, k100_enc, e1, e2, hw]
        simpa [hm] using hq
      | false =>
        rw [g2] at e2 hm
        simp only [go_sem, T_3, T_4, T_5, T_9, T_42, T_51, T_69, T_90, T_91, T_93, T_96, T_98, T_100, T_121, T_145, all100, hlt, hx, k93_enc, k100_enc, e1, e2, hw]
        exact ⟨i + 1, ⟨by omega, by simpa [hm] using hq⟩, by simp only; omega, rfl⟩
  · rw [List.drop_eq_nil_of_le (by omega)] at hq
    simp only [go_sem, T_3, T_4, T_5, T_9, T_42, T_51, T_69, T_90, T_91, T_93, T_96, T_98, T_100, T_121, T_145, hlt, k93_enc]
    rw [← hq]
    rfl
theorem call59 (n : S93) (k : Nat) : callV (LX T fns) k (.clo 59 []) [.agg (k93.enc n)] = .pure (.bool (greatNode n), []) := callV_plain (fn := fn59) rfl rfl rfl (lim59 n) k

def greatL (l : List S95) : Bool := decide (30 < l.length) || l.any fun x => greatNode x.f1
theorem lim14 (l : List S95) : lim T fns 14 [.fz (l.map k95.enc)] [] = some (.bool (greatL l), []) := by
  refine fn_rule (fn := fn14) rfl rfl (by simp [fn14]) ?_
  unfold fn14
  simp only [Try.f14, Option.getD_some, argEnv, List.map_nil, List.length_nil]
  simp only [go_sem, T_3, T_4, T_5, T_9, T_22, T_42, T_51, T_69, T_90, T_91, T_93, T_95, T_96, T_98, T_100, T_121, T_145]
  split
  · rename_i h0
    have : 30 < l.length := by omega
    simp [greatL, this]
  · rename_i h0
    have h30 : ¬ 30 < l.length := by omega
    refine loop_rule (ι := Nat) (S := fun i => ⟨[(0, .fz (l.map k95.enc)), (8, .int .i64 l.length), (9, .int .i64 i)], []⟩) (m := fun i => l.length + 1 - i)
      (I := fun i => i ≤ l.length ∧ ((l.drop i).any fun x => greatNode x.f1) = greatL l) ?_ 0 _ ⟨by omega, by simp [greatL, h30]⟩ rfl
    rintro i ⟨hi, hg⟩
    by_cases hlt : i < l.length
    · have hx : l[i]? = some l[i] := List.getElem?_eq_getElem hlt
      rw [any_drop hlt] at hg
      have hc := call59 l[i].f1
      simp only [k93_enc] at hc
      simp only [go_sem, T_3, T_4, T_5, T_9, T_22, T_42, T_51, T_69, T_90, T_91, T_93, T_95, T_96, T_98, T_100, T_121, T_145, all95, hlt, hx, k95_enc, hc, wrap_i64s (show i < 1000000000000000000 by omega)]
      split
      · rename_i he
        simpa [he] using hg
      · rename_i he
        exact ⟨i + 1, ⟨by omega, by simpa [he] using hg⟩, by simp only; omega, rfl⟩
    · rw [List.drop_eq_nil_of_le (by omega)] at hg
      simp only [go_sem, T_3, T_4, T_5, T_9, T_22, T_42, T_51, T_69, T_90, T_91, T_93, T_95, T_96, T_98, T_100, T_121, T_145, hlt]
      rw [← hg]
      rfl
theorem call14 (l : List S95) (k : Nat) : callV (LX T fns) k (.clo 14 []) [.fz (l.map k95.enc)] = .pure (.bool (greatL l), []) := callV_plain (fn := fn14) rfl rfl rfl (lim14 l) k
theorem few_of_great {l : List S95} (h : greatL l = false) : fewL l ∧ l.length ≤ 30 := by
  unfold greatL at h
  simp only [Bool.or_eq_false_iff, decide_eq_false_iff_not, List.any_eq_false] at h
  refine ⟨⟨by omega, fun x hx => ?_⟩, by omega⟩
  have := h.2 x hx
  simp only [greatNode, greatPairs, greatMsgs, Bool.or_eq_true, decide_eq_true_eq, not_or] at this
  refine ⟨?_, ?_, ?_, ?_⟩ <;> omega
end Go.Proofs.Ytfdemnefkfkghaa.R
/- Chapter 33's law: rising keys. -/
namespace Go.Proofs.Ytfdemnefkfkghaa.R
open Go Go.Proofs
set_option linter.unusedSimpArgs false
set_option linter.unusedVariables false
set_option maxRecDepth 10000
set_option maxHeartbeats 1000000

/-- No greater, as texts. -/
def leS (a b : ByteArray) : Bool := Op.bytesLess a.toList b.toList || a.toList == b.toList
def riseFrom : List S145 → Bool
  | x :: y :: r => !leS y.f0 x.f0 && riseFrom (y :: r)
  | _ => true
theorem wrap_i64p {k : Nat} (h : k < 1000000000000000000) : IntKind.i64.wrap (((k + 1 : Nat) : Int) - 1) = (k : Int) := by
  rw [wrap_i64 (by omega) (by omega)]
  omega
theorem rise_drop {l : List S145} {k : Nat} (h : k + 1 < l.length) : riseFrom (l.drop k) = (!leS l[k + 1].f0 (l[k]'(by omega)).f0 && riseFrom (l.drop (k + 1))) := by
  rw [List.drop_eq_getElem_cons (show k < l.length by omega), List.drop_eq_getElem_cons h]
  rfl
theorem rise_one {l : List S145} {k : Nat} (h : l.length ≤ k + 1) : riseFrom (l.drop k) = true := by
  have : (l.drop k).length ≤ 1 := by simp; omega
  match hd : l.drop k with
  | [] => rfl
  | [x] => rfl
  | x :: y :: r => rw [hd] at this; simp at this

theorem lim90 (l : List S145) (hl : l.length < 1000000000000) : lim T fns 90 [.fz (l.map k145.enc)] [] = some (.bool (riseFrom l), []) := by
  refine fn_rule (fn := fn90) rfl rfl (by simp [fn90]) ?_
  unfold fn90
  simp only [Try.f90, Option.getD_some, argEnv, List.map_nil, List.length_nil]
  simp only [go_sem, T_3, T_9, T_51, T_145]
  refine loop_rule (ι := Nat) (S := fun k => ⟨[(0, .fz (l.map k145.enc)), (3, .int .i64 (k + 1 : Nat))], []⟩) (m := fun k => l.length + 1 - k)
    (I := fun k => (k = 0 ∨ k < l.length) ∧ riseFrom (l.drop k) = riseFrom l) ?_ 0 _ ⟨by omega, by simp⟩ rfl
  rintro k ⟨hi, hg⟩
  by_cases hlt : k + 1 < l.length
  · have hx : l[k + 1]? = some l[k + 1] := List.getElem?_eq_getElem hlt
    have hy : l[k]? = some (l[k]'(by omega)) := List.getElem?_eq_getElem (by omega)
    rw [rise_drop hlt] at hg
    have hle : ∀ a b : ByteArray, (Op.bytesLess a.toList b.toList || a.toList == b.toList) = leS a b := fun _ _ => rfl
    simp only [go_sem, T_3, T_9, T_51, T_145, all145, hlt, hx, hy, k145_enc, hle, wrap_i64p (show k < 1000000000000000000 by omega), wrap_i64s (show k + 1 < 1000000000000000000 by omega)]
    split
    · rename_i he
      simpa [he] using hg
    · rename_i he
      exact ⟨k + 1, ⟨by omega, by simpa [he] using hg⟩, by simp only; omega, rfl⟩
  · rw [rise_one (by omega)] at hg
    simp only [go_sem, T_3, T_9, T_51, T_145, hlt]
    rw [← hg]
theorem call90 (l : List S145) (hl : l.length < 1000000000000) (n : Nat) : callV (LX T fns) n (.clo 90 []) [.fz (l.map k145.enc)] = .pure (.bool (riseFrom l), []) := callV_plain (fn := fn90) rfl rfl rfl (lim90 l hl) n
end Go.Proofs.Ytfdemnefkfkghaa.R
/- Chapter 33's law: may a message be? (the document's) -/
namespace Go.Proofs.Ytfdemnefkfkghaa.R
open Go Go.Proofs
set_option linter.unusedSimpArgs false
set_option linter.unusedVariables false
set_option maxRecDepth 10000
set_option maxHeartbeats 2000000

def toS (m : S121) : Bool := (m.f3 != 0) || (m.f4 != 0) || !(decide (m.f5 = ⟨#[]⟩))
def mayMsg (m : S121) : Bool := !(decide (16 < m.f1.size) || decide (32 < m.f2.size) || decide (16 < m.f5.size)) &&
  (if m.f0 = 1 then !toS m else if m.f0 = 2 then !toS m && decide (m.f2 = ⟨#[]⟩) else if m.f0 = 3 then decide (m.f4 > 0) && decide (m.f2 = ⟨#[]⟩) else false)

theorem lim134 (m : S121) : lim T fns 134 [.agg (k121.enc m)] [] = some (.bool (mayMsg m), []) := by
  refine fn_rule (fn := fn134) rfl rfl (by simp [fn134]) ?_
  unfold fn134
  simp only [Try.f134, Option.getD_some, argEnv, List.map_nil, List.length_nil]
  have d1 : decide ((m.f1.size : Int) > 16) = decide (16 < m.f1.size) := by simp only [gt_iff_lt, decide_eq_decide]; omega
  have d2 : decide ((m.f2.size : Int) > 32) = decide (32 < m.f2.size) := by simp only [gt_iff_lt, decide_eq_decide]; omega
  have d3 : decide ((m.f5.size : Int) > 16) = decide (16 < m.f5.size) := by simp only [gt_iff_lt, decide_eq_decide]; omega
  have hm : mayMsg m = (!(decide (16 < m.f1.size) || decide (32 < m.f2.size) || decide (16 < m.f5.size)) &&
    (if m.f0 = 1 then !toS m else if m.f0 = 2 then !toS m && decide (m.f2 = ⟨#[]⟩) else if m.f0 = 3 then decide (m.f4 > 0) && decide (m.f2 = ⟨#[]⟩) else false)) := rfl
  cases h1 : decide (16 < m.f1.size) with
  | true =>
    rw [h1] at d1 hm
    simp only [go_sem, T_3, T_4, T_5, T_9, T_42, T_96, T_121, k121_enc, d1]
    simp [hm]
  | false =>
  rw [h1] at d1 hm
  cases h2 : decide (32 < m.f2.size) with
  | true =>
    rw [h2] at d2 hm
    simp only [go_sem, T_3, T_4, T_5, T_9, T_42, T_96, T_121, k121_enc, d1, d2]
    simp [hm]
  | false =>
  rw [h2] at d2 hm
  cases h3 : decide (16 < m.f5.size) with
  | true =>
    rw [h3] at d3 hm
    simp only [go_sem, T_3, T_4, T_5, T_9, T_42, T_96, T_121, k121_enc, d1, d2, d3]
    simp [hm]
  | false =>
  rw [h3] at d3 hm
  have rest : ∀ t : Bool, toS m = t → mayMsg m = (if m.f0 = 1 then !t else if m.f0 = 2 then !t && decide (m.f2 = ⟨#[]⟩) else if m.f0 = 3 then decide (m.f4 > 0) && decide (m.f2 = ⟨#[]⟩) else false) := by
    rintro t rfl
    rw [hm]
    simp
  have ht : toS m = ((m.f3 != 0) || (m.f4 != 0) || !(decide (m.f5 = ⟨#[]⟩))) := rfl
  cases k3 : decide (m.f2 = ⟨#[]⟩) <;> cases g4 : decide (m.f4 > 0)
  all_goals
    cases g1 : (m.f3 != 0) with
    | true =>
      have r := rest true (by rw [ht, g1]; rfl)
      simp only [go_sem, T_3, T_4, T_5, T_9, T_42, T_96, T_121, k121_enc, d1, d2, d3, g1, g4, k3, ba_toList]
      rw [r]
      repeat' split
      all_goals simp_all
    | false =>
      cases g2 : (m.f4 != 0) with
      | true =>
        have r := rest true (by rw [ht, g1, g2]; rfl)
        simp only [go_sem, T_3, T_4, T_5, T_9, T_42, T_96, T_121, k121_enc, d1, d2, d3, g1, g2, g4, k3, ba_toList]
        rw [r]
        repeat' split
        all_goals simp_all
      | false =>
        cases g3 : decide (m.f5 = ⟨#[]⟩) with
        | true =>
          have r := rest false (by rw [ht, g1, g2, g3]; rfl)
          simp only [go_sem, T_3, T_4, T_5, T_9, T_42, T_96, T_121, k121_enc, d1, d2, d3, g1, g2, g3, g4, k3, ba_toList]
          rw [r]
          repeat' split
          all_goals simp_all
        | false =>
          have r := rest true (by rw [ht, g1, g2, g3]; rfl)
          simp only [go_sem, T_3, T_4, T_5, T_9, T_42, T_96, T_121, k121_enc, d1, d2, d3, g1, g2, g3, g4, k3, ba_toList]
          rw [r]
          repeat' split
          all_goals simp_all
theorem call134 (m : S121) (n : Nat) : callV (LX T fns) n (.clo 134 []) [.agg (k121.enc m)] = .pure (.bool (mayMsg m), []) := callV_plain (fn := fn134) rfl rfl rfl (lim134 m) n
end Go.Proofs.Ytfdemnefkfkghaa.R
/- Chapter 33's law: short texts; 1, whatever block. -/
namespace Go.Proofs.Ytfdemnefkfkghaa.R
open Go Go.Proofs
set_option linter.unusedSimpArgs false
set_option linter.unusedVariables false
set_option maxRecDepth 10000
set_option maxHeartbeats 2000000

theorem lim219 (s : ByteArray) : lim T fns 219 [.str s] [] = some (.bool (decide (s.size ≤ 16)), []) := by
  refine fn_rule (fn := fn219) rfl rfl (by simp [fn219]) ?_
  unfold fn219
  simp only [Try.f219, Option.getD_some, argEnv, List.map_nil, List.length_nil]
  simp only [go_sem, T_3, T_9]
  have : decide ((s.size : Int) ≤ 16) = decide (s.size ≤ 16) := by simp only [decide_eq_decide]; omega
  rw [this]
theorem call219 (s : ByteArray) (n : Nat) : callV (LX T fns) n (.clo 219 []) [.str s] = .pure (.bool (decide (s.size ≤ 16)), []) := callV_plain (fn := fn219) rfl rfl rfl (lim219 s) n

theorem lim128 (b : Int) : lim T fns 128 [.int .u32 b] [] = some (.int .u16 1, []) := by
  refine fn_rule (fn := fn128) rfl rfl (by simp [fn128]) ?_
  unfold fn128
  simp only [Try.f128, Option.getD_some, argEnv, List.map_nil, List.length_nil]
  simp only [go_sem, ]
theorem call128 (b : Int) (n : Nat) : callV (LX T fns) n (.clo 128 []) [.int .u32 b] = .pure (.int .u16 1, []) := callV_plain (fn := fn128) rfl rfl rfl (lim128 b) n

def mayMsg2 (m : S121) : Bool := decide (m.f1.size ≤ 16) && (if m.f0 = 1 then decide (m.f2.size ≤ 32) && decide (m = ⟨1, m.f1, m.f2, 0, 0, ⟨#[]⟩⟩) else if m.f0 = 2 then decide (m = ⟨2, m.f1, ⟨#[]⟩, 0, 0, ⟨#[]⟩⟩)
  else if m.f0 = 3 then decide (m.f5.size ≤ 16) && decide (m.f4 ≥ 1) && decide (m.f2 = ⟨#[]⟩) else false)

theorem lim222 (m : S121) : lim T fns 222 [.agg (k121.enc m)] [] = some (.bool (mayMsg2 m), []) := by
  refine fn_rule (fn := fn222) rfl rfl (by simp [fn222]) ?_
  unfold fn222
  simp only [Try.f222, Option.getD_some, argEnv, List.map_nil, List.length_nil]
  have q1 := eq121 m ⟨1, m.f1, m.f2, 0, 0, ⟨#[]⟩⟩
  have q2 := eq121 m ⟨2, m.f1, ⟨#[]⟩, 0, 0, ⟨#[]⟩⟩
  simp only at q1 q2
  have hm : mayMsg2 m = (decide (m.f1.size ≤ 16) && (if m.f0 = 1 then decide (m.f2.size ≤ 32) && decide (m = ⟨1, m.f1, m.f2, 0, 0, ⟨#[]⟩⟩) else if m.f0 = 2 then decide (m = ⟨2, m.f1, ⟨#[]⟩, 0, 0, ⟨#[]⟩⟩)
    else if m.f0 = 3 then decide (m.f5.size ≤ 16) && decide (m.f4 ≥ 1) && decide (m.f2 = ⟨#[]⟩) else false)) := rfl
  have d1 : decide ((m.f1.size : Int) > 16) = !decide (m.f1.size ≤ 16) := by
    by_cases h : m.f1.size ≤ 16
    · have : ¬ ((m.f1.size : Int) > 16) := by omega
      simp [h, this]
    · have : (m.f1.size : Int) > 16 := by omega
      simp [h, this]
  have d2 : decide ((m.f2.size : Int) ≤ 32) = decide (m.f2.size ≤ 32) := by simp only [decide_eq_decide]; omega
  have d3 : decide ((m.f5.size : Int) ≤ 16) = decide (m.f5.size ≤ 16) := by simp only [decide_eq_decide]; omega
  cases h1 : decide (m.f1.size ≤ 16) with
  | false =>
    rw [h1] at d1 hm
    simp only [go_sem, T_3, T_5, T_9, T_42, T_96, T_121, k121_enc, d1]
    simp [hm]
  | true =>
  rw [h1] at d1 hm
  cases h2 : decide (m.f2.size ≤ 32) <;> cases h3 : decide (m.f5.size ≤ 16) <;> cases h4 : decide (m.f4 ≥ 1)
  all_goals
    rw [h2] at d2
    rw [h3] at d3
    rw [h2, h3, h4] at hm
    simp only [go_sem, T_3, T_5, T_9, T_42, T_96, T_121, k121_enc, d1, d2, d3, h4, q1, q2, ba_toList]
    rw [hm]
    repeat' split
    all_goals simp_all
theorem call222 (m : S121) (n : Nat) : callV (LX T fns) n (.clo 222 []) [.agg (k121.enc m)] = .pure (.bool (mayMsg2 m), []) := callV_plain (fn := fn222) rfl rfl rfl (lim222 m) n
theorem mayMsg2_eq (m : S121) : mayMsg2 m = mayMsg m := by
  obtain ⟨a, b, c, d, e, f⟩ := m
  unfold mayMsg2 mayMsg toS
  rw [Bool.eq_iff_iff]
  have hc : c = ⟨#[]⟩ → c.size = 0 := by rintro rfl; rfl
  have hf : f = ⟨#[]⟩ → f.size = 0 := by rintro rfl; rfl
  by_cases h1 : a = 1
  · subst h1
    simp only [S121.mk.injEq, if_true, Bool.and_eq_true, Bool.not_eq_true', Bool.or_eq_false_iff, decide_eq_true_eq, decide_eq_false_iff_not, bne_eq_false_iff_eq, Bool.not_eq_false', true_and]
    constructor
    · rintro ⟨g1, g2, g3, g4, g5⟩
      have := hf g5
      exact ⟨⟨⟨by omega, by omega⟩, by omega⟩, ⟨g3, g4⟩, g5⟩
    · rintro ⟨⟨⟨g1, g2⟩, g3⟩, ⟨g4, g5⟩, g6⟩
      exact ⟨by omega, by omega, g4, g5, g6⟩
  by_cases h2 : a = 2
  · subst h2
    simp only [S121.mk.injEq, h1, if_true, if_false, Bool.and_eq_true, Bool.not_eq_true', Bool.or_eq_false_iff, decide_eq_true_eq, decide_eq_false_iff_not, bne_eq_false_iff_eq, Bool.not_eq_false', true_and]
    constructor
    · rintro ⟨g1, g2, g3, g4, g5⟩
      have := hf g5
      have := hc g2
      exact ⟨⟨⟨by omega, by omega⟩, by omega⟩, ⟨⟨g3, g4⟩, g5⟩, g2⟩
    · rintro ⟨⟨⟨g1, g2⟩, g3⟩, ⟨⟨g4, g5⟩, g6⟩, g7⟩
      exact ⟨by omega, g7, g4, g5, g6⟩
  by_cases h3 : a = 3
  · subst h3
    simp only [h1, h2, if_true, if_false, Bool.and_eq_true, Bool.not_eq_true', Bool.or_eq_false_iff, decide_eq_true_eq, decide_eq_false_iff_not]
    constructor
    · rintro ⟨g1, ⟨g2, g3⟩, g4⟩
      have := hc g4
      exact ⟨⟨⟨by omega, by omega⟩, by omega⟩, by omega, g4⟩
    · rintro ⟨⟨⟨g1, g2⟩, g3⟩, g4, g5⟩
      exact ⟨by omega, ⟨by omega, by omega⟩, g5⟩
  · simp [h1, h2, h3]
end Go.Proofs.Ytfdemnefkfkghaa.R
/- Chapter 33's law: a node, as deep as a closure tells. -/
namespace Go.Proofs.Ytfdemnefkfkghaa.R
open Go Go.Proofs
set_option linter.unusedSimpArgs false
set_option linter.unusedVariables false
set_option maxRecDepth 10000
set_option maxHeartbeats 2000000

/-- A call, of arguments that lead to no object, that answers with new objects. -/
theorem callV_new {T : TT} {fns : FuncId → Option AFn} {g : FuncId} {fn : AFn} (hfn : fns g = some fn) {args : List V} {r : V} {H : Heap} (ha : V.allPlain args = true) (h : lim T fns g args [] = some (r, H)) {n : Nat} {r' : V} {us : Upd}
    (hr : V.re (back [] n H.length) r = some r') (hp : pushObs (back [] n H.length) H 0 = some us) (he : H.isEmpty = false) : callV (LX T fns) n (.clo g []) args = .pure (r', us) := by
  unfold callV
  simp only [hfn, List.append_nil]
  unfold callR
  rw [plainArgs_frz _ _ _ ha, plainAll_ids _ ha]
  show withR (lim T fns g) n args [] [] = _
  unfold withR
  simp only [List.map_nil, upd1, List.all_nil, Bool.and_self, if_true, plainAll_re _ args ha, pullObs, h, List.length_nil, Nat.zero_le]
  unfold afterR
  simp only [hr, hp, he, Bool.and_false, Bool.false_and, Bool.false_eq_true, if_false, List.append_nil]

theorem call133 (n : S93) (hn : fewN n) (k : Nat) : callV (LX T fns) k (.clo 133 []) [.agg (k93.enc n)] =
    .pure (ownV n k, [(k, some (.buf 2 (n.f1.map k145.enc) false true)), (k + 1, some (.buf 1 (n.f2.map Cd.str.enc) false true)), (k + 2, some (.buf 4 (n.f3.map k100.enc) false true)), (k + 3, some (.buf 6 (n.f4.map k121.enc) false true))]) :=
  callV_new (fn := fn133) rfl rfl (lim133 n hn) (by simp only [ownV, ownH, V.re, V.reAll, back, nth, List.length_cons, List.length_nil, Nat.zero_add, Nat.reduceAdd, Nat.reduceLT, if_true, Option.map_some, Option.bind_some, Nat.sub_zero, Nat.add_zero])
    (by simp only [ownH, pushObs, back, nth, List.length_cons, List.length_nil, Nat.zero_add, Nat.reduceAdd, Nat.reduceLT, if_true, Option.map_some, Option.bind_some, Nat.sub_zero, Nat.add_zero, Ob.re]) rfl

theorem mix_get {α : Type} (f : α → α) {l : List α} {i : Nat} (h : i < l.length) : ((l.take i).map f ++ l.drop i)[i]? = some l[i] := by
  rw [List.getElem?_append_right (by simp; omega)]
  simp only [List.length_map, List.length_take]
  rw [show i - min i l.length = 0 by omega, List.drop_eq_getElem_cons h]
  rfl
theorem mix_set {α : Type} (f : α → α) {l : List α} {i : Nat} (h : i < l.length) : ((l.take i).map f ++ l.drop i).set i (f l[i]) = (l.take (i + 1)).map f ++ l.drop (i + 1) := by
  rw [List.set_append_right _ _ (by simp; omega)]
  simp only [List.length_map, List.length_take]
  rw [show i - min i l.length = 0 by omega, List.drop_eq_getElem_cons h, List.take_succ_eq_append_getElem h]
  simp only [List.set_cons_zero, List.map_append, List.map_cons, List.map_nil, List.append_assoc, List.singleton_append]
theorem mix_len {α : Type} (f : α → α) {l : List α} {i : Nat} (h : i ≤ l.length) : ((l.take i).map f ++ l.drop i).length = l.length := by
  simp only [List.length_append, List.length_map, List.length_take, List.length_drop]
  omega
theorem mix_same {α : Type} (f : α → α) {l : List α} {i : Nat} (h : i < l.length) (hf : f l[i] = l[i]) : (l.take i).map f ++ l.drop i = (l.take (i + 1)).map f ++ l.drop (i + 1) := by
  rw [List.drop_eq_getElem_cons h, List.take_succ_eq_append_getElem h]
  simp only [hf, List.map_append, List.map_cons, List.map_nil, List.append_assoc, List.singleton_append]
theorem mix_all {α : Type} (f : α → α) {l : List α} {i : Nat} (h : l.length ≤ i) : (l.take i).map f ++ l.drop i = l.map f := by
  rw [List.drop_eq_nil_of_le h, List.take_of_length_le h, List.append_nil]
theorem map_set' {α : Type} {d : Cd α} {l : List α} {i : Nat} {y : α} : (l.map d.enc).set i (d.enc y) = (l.set i y).map d.enc := by rw [List.map_set]
/-- The end of a call, once its answer is frozen. -/
def FK (keep : Nat) (h : Heap) (r : V × Heap) (x : Option ((V × Upd) × List Nat)) : Prop := match x with
  | some ((v, u), _) => finish keep false v (h.puts u) = some r
  | none => False
theorem finish_fk {keep : Nat} {v : V} {h : Heap} {r : V × Heap} (hf : FK keep h r ((frz v fun v u => Rd.pure (v, u)).run h [])) : finish keep true v h = some r := by
  unfold FK at hf
  split at hf
  · rename_i hx
    unfold finish at hf ⊢
    simp only [if_true, hx, Option.map_some, Option.bind_some]
    simpa using hf
  · exact hf.elim
theorem take_map {α β : Type} {f : α → β} {l : List α} : (l.map f).take l.length = l.map f := List.take_of_length_le (by simp)
theorem take_map2 {α β γ : Type} {g : α → β} {f : β → γ} {l : List α} : ((l.map g).map f).take l.length = (l.map g).map f := List.take_of_length_le (by simp)

/-! A finder's objects. -/
def getI (b : Int) : List (Int × Int) → Option Int
  | [] => none
  | p :: r => if p.1 = b then some p.2 else getI b r
def encI (p : Int × Int) : V × V := (.int .u32 p.1, .int .i64 p.2)
def encL (x : S95) : V × V := (.int .u32 x.f0, .agg (k93.enc x.f1))
def fo0 : Ob := .buf 1 [[.ptr 1 0 0]] false false
def fo1 (lost : Bool) : Ob := .buf 3 [[.map 2, .map 3, .bool lost]] false false
def fo2 (l : List S95) : Ob := .mp (l.map encL) true
def fo3 (m : List (Int × Int)) : Ob := .mp (m.map encI) true
theorem find_encI {b : Int} : ∀ {m : List (Int × Int)}, findKey (.int .u32 b) (m.map encI) = some ((getI b m).map (V.int .i64))
  | [] => rfl
  | p :: r => by
    simp only [List.map_cons, encI, findKey, eqCell, if_true, getI]
    have e : (b == p.1) = decide (p.1 = b) := by
      rw [Bool.eq_iff_iff]
      simp only [beq_iff_eq, decide_eq_true_eq]
      exact ⟨fun h => h.symm, fun h => h.symm⟩
    rw [e]
    by_cases h : p.1 = b
    · simp [h]
    · simp only [h, decide_false, if_false]
      exact find_encI
def deepI (m : List (Int × Int)) (b : Int) : Int := IntKind.u16.wrap ((getI b m).getD 0)

theorem lim64 (b : Int) (lost : Bool) (l : List S95) (m : List (Int × Int)) : lim T fns 64 [.int .u32 b, .ptr 0 0 0] [fo0, fo1 lost, fo2 l, fo3 m] = some (.int .u16 (deepI m b), [some fo0, some (fo1 lost), some (fo2 l), some (fo3 m)]) := by
  refine fn_rule (fn := fn64) rfl rfl (by simp [fn64]) ?_
  unfold fn64
  simp only [Try.f64, Option.getD_some, argEnv, List.map_nil, List.length_nil]
  have hk : isKey T 42 (.int .u32 b) = true := rfl
  simp only [go_sem, T_3, T_4, T_5, T_9, T_42, T_51, T_69, T_90, T_91, T_93, T_96, T_98, T_100, T_102, T_103, T_104, T_106, T_121, T_145, fo0, fo1, fo2, fo3, List.map_cons, nilCheckR, lookupR, hk, find_encI]
  cases hg : getI b m with
  | none =>
    simp only [go_sem, T_3, T_4, T_5, T_9, T_42, T_51, T_69, T_90, T_91, T_93, T_96, T_98, T_100, T_102, T_103, T_104, T_106, T_121, T_145, giveR, Option.map_none]
    simp only [deepI, hg, Option.getD_none]
    rfl
  | some d =>
    simp only [go_sem, T_3, T_4, T_5, T_9, T_42, T_51, T_69, T_90, T_91, T_93, T_96, T_98, T_100, T_102, T_103, T_104, T_106, T_121, T_145, giveR, Option.map_some]
    simp only [deepI, hg, Option.getD_some]
    rfl
theorem call64 (b : Int) (lost : Bool) (l : List S95) (m : List (Int × Int)) (n : Nat) (hn : 4 ≤ n) (rest : Heap) : (callV (LX T fns) n (.clo 64 [.ptr 0 0 0]) [.int .u32 b]).run (some fo0 :: some (fo1 lost) :: some (fo2 l) :: some (fo3 m) :: rest) [] =
    some ((.int .u16 (deepI m b), [(0, some fo0), (1, some (fo1 lost)), (2, some (fo2 l)), (3, some (fo3 m))]), [3, 2, 1, 0]) := by
  have h := lim64 b lost l m
  have hf : fns 64 = some fn64 := rfl
  have h0 : 0 < n := by omega
  have h1 : 1 < n := by omega
  have h2 : 2 < n := by omega
  have h3 : 3 < n := by omega
  simp only [fo0, fo1, fo2, fo3] at h ⊢
  unfold callV
  simp only [hf]
  unfold callR
  simp only [fn64, List.cons_append, List.nil_append, frzArgs, frz, frzAll, frzG, frzGAll, ms2, msUp, List.tail]
  simp only [V.allIds, V.ids, List.append_nil, List.nil_append, collect, List.map_nil, List.contains_nil, Bool.false_eq_true, if_false, Rd.run, Heap.at?, Ob.ids, rowsIds, List.map_cons, List.cons_append, List.contains_cons, Nat.reduceBEq, Bool.or_self, Bool.or_false, Bool.false_or, Bool.or_true, Bool.true_or]
  unfold withR
  simp only [List.map_cons, List.map_nil, upd1, List.all_nil, List.all_cons, h0, h1, h2, h3, decide_true, Bool.and_self, if_true, V.reAll, V.re, idx, Nat.beq, cond_true, cond_false, Option.bind_some, Option.map_some, pullObs, Ob.re, reRows, Nat.reduceAdd, h, List.length_cons, List.length_nil, Nat.le_refl]
  unfold afterR
  simp only [V.re, pushObs, back, nth, Ob.re, reRows, V.reAll, Option.bind_some, Option.map_some, List.isEmpty_cons, Bool.false_and, Bool.false_eq_true, if_false, Rd.run, List.append_nil, Nat.reduceAdd]

theorem lim63a (n : S93)  (hn : fewN n) : lim T fns 63 [.agg (k93.enc n), .clo 128 []] [] = some (.agg (k93.enc (withN (fun _ => 1) n)), []) := by
  obtain ⟨h1, h2, h3, h4⟩ := hn
  have c := call133 n ⟨h1, h2, h3, h4⟩
  simp only [k93_enc] at c
  have hcl : True := trivial
  refine fn_rule (fn := fn63) rfl rfl (by simp [fn63]) ?_
  unfold fn63
  simp only [Try.f63, Option.getD_some, argEnv, List.map_nil, List.length_nil]
  simp only [go_sem, T_3, T_4, T_5, T_9, T_42, T_51, T_69, T_90, T_91, T_93, T_96, T_98, T_100, T_121, T_145, k93_enc, c, ownV, List.map_cons]
  refine loop_rule (ι := Nat) (S := fun i => ⟨[(1, .clo 128 []), (2, .ptr 0 0 0), (4, .ptr 1 0 0), (12, .int .i64 n.f3.length), (13, .int .i64 i)],
      [] ++ [some (.buf 5 [[.bool n.f0, .ms 2 2 0 n.f1.length none, .ms 3 1 0 n.f2.length none, .ms 4 4 0 n.f3.length none, .ms 5 6 0 n.f4.length none]] false false), some (.buf 5 [[.bool false, .nils, .nils, .nils, .nils]] false true),
        some (.buf 2 (n.f1.map k145.enc) false true), some (.buf 1 (n.f2.map Cd.str.enc) false true), some (.buf 4 (((n.f3.take i).map (withE (fun _ => 1)) ++ n.f3.drop i).map k100.enc) false true), some (.buf 6 (n.f4.map k121.enc) false true)]⟩)
    (m := fun i => n.f3.length + 1 - i) (I := fun i => i ≤ n.f3.length) ?_ 0 _ (by simp) (by kernel_rfl)
  intro i hi
  by_cases hlt : i < n.f3.length
  · have hx := mix_get (withE (fun _ => 1)) hlt
    have hl := mix_len (withE (fun _ => 1)) hi
    simp only [go_sem, T_3, T_4, T_5, T_9, T_42, T_51, T_69, T_90, T_91, T_93, T_96, T_98, T_100, T_121, T_145, hlt, hx, hl, k100_enc, call128, call64, Nat.zero_add, Nat.reduceLeDiff, wrap_i64s (show i < 1000000000000000000 by omega), hcl]
    repeat (refine ⟨by kernel_rfl, ?_⟩)
    refine ⟨i + 1, by omega, by simp only; omega, ?_⟩
    have hs : ((((n.f3.take i).map (withE (fun _ => 1)) ++ n.f3.drop i).map k100.enc).set i [.int .u32 n.f3[i].f0, .int .u16 ((fun _ => 1) n.f3[i].f0), .str n.f3[i].f2.f0, .str n.f3[i].f2.f1]) = ((n.f3.take (i + 1)).map (withE (fun _ => 1)) ++ n.f3.drop (i + 1)).map k100.enc := by
      rw [← mix_set _ hlt, ← map_set']
      rfl
    try simp only at hs
    rw [hs]
    show _ = _
    kernel_rfl
  rw [mix_all _ (by omega)]
  have hl3 : (n.f3.map (withE (fun _ => 1))).length = n.f3.length := by simp
  simp only [go_sem, T_3, T_4, T_5, T_9, T_42, T_51, T_69, T_90, T_91, T_93, T_96, T_98, T_100, T_121, T_145, hlt]
  refine loop_rule (ι := Nat) (S := fun i => ⟨[(1, .clo 128 []), (2, .ptr 0 0 0), (4, .ptr 1 0 0), (31, .ms 2 6 0 n.f4.length none), (32, .int .i64 n.f4.length), (33, .int .i64 i)],
      [] ++ [some (.buf 5 [[.bool n.f0, .ms 3 2 0 n.f1.length none, .ms 4 1 0 n.f2.length none, .ms 5 4 0 n.f3.length none, .ms 2 6 0 n.f4.length none]] false false), some (.buf 5 [[.bool false, .nils, .nils, .nils, .nils]] false true),
        some (.buf 6 (((n.f4.take i).map (withM (fun _ => 1)) ++ n.f4.drop i).map k121.enc) false true), some (.buf 2 (n.f1.map k145.enc) false true), some (.buf 1 (n.f2.map Cd.str.enc) false true), some (.buf 4 ((n.f3.map (withE (fun _ => 1))).map k100.enc) false true)]⟩)
    (m := fun i => n.f4.length + 1 - i) (I := fun i => i ≤ n.f4.length) ?_ 0 _ (by simp) (by kernel_rfl)
  intro i hi
  by_cases hlt : i < n.f4.length
  · have hx := mix_get (withM (fun _ => 1)) hlt
    have hx0 : n.f4[i]? = some n.f4[i] := List.getElem?_eq_getElem hlt
    have hl := mix_len (withM (fun _ => 1)) hi
    by_cases hk : n.f4[i].f0 = 3
    · have ek : (n.f4[i].f0 == 3) = true := by simp [hk]
      simp only [go_sem, T_3, T_4, T_5, T_9, T_42, T_51, T_69, T_90, T_91, T_93, T_96, T_98, T_100, T_121, T_145, hlt, hx, hl, k121_enc, call128, call64, Nat.zero_add, Nat.reduceLeDiff, wrap_i64s (show i < 1000000000000000000 by omega), hcl, ek]
      repeat (refine ⟨by kernel_rfl, ?_⟩)
      refine ⟨i + 1, by omega, by simp only; omega, ?_⟩
      have hs : ((((n.f4.take i).map (withM (fun _ => 1)) ++ n.f4.drop i).map k121.enc).set i [.int .u8 n.f4[i].f0, .str n.f4[i].f1, .str n.f4[i].f2, .int .u32 n.f4[i].f3, .int .u16 ((fun _ => 1) n.f4[i].f3), .str n.f4[i].f5]) = ((n.f4.take (i + 1)).map (withM (fun _ => 1)) ++ n.f4.drop (i + 1)).map k121.enc := by
        rw [← mix_set _ hlt, ← map_set']
        simp only [withM, hk, if_true, k121_enc]
      try simp only at hs
      rw [hs]
      show _ = _
      kernel_rfl
    · have ek : (n.f4[i].f0 == 3) = false := by simp [hk]
      simp only [go_sem, T_3, T_4, T_5, T_9, T_42, T_51, T_69, T_90, T_91, T_93, T_96, T_98, T_100, T_121, T_145, hlt, hx, hl, k121_enc, Nat.zero_add, wrap_i64s (show i < 1000000000000000000 by omega), ek]
      refine ⟨i + 1, by omega, by simp only; omega, ?_⟩
      rw [mix_same (withM (fun _ => 1)) hlt (by simp [withM, hk])]
      show _ = _
      kernel_rfl
  rw [mix_all _ (by omega)]
  have hl4 : (n.f4.map (withM (fun _ => 1))).length = n.f4.length := by simp
  simp only [go_sem, T_3, T_4, T_5, T_9, T_42, T_51, T_69, T_90, T_91, T_93, T_96, T_98, T_100, T_121, T_145, hlt]
  refine finish_fk ?_
  simp only [frz, frzAll, frzG, frzGAll, ms2, msUp, Rd.run, Heap.at?, List.length_map, Nat.zero_add, Nat.le_refl, and_self, if_true, List.drop_zero, take_map, take_map2, FK, List.cons_append, List.nil_append]
  show _ = _
  kernel_rfl
theorem call63a (n : S93) (hn : fewN n) (k : Nat) : callV (LX T fns) k (.clo 63 []) [.agg (k93.enc n), .clo 128 []] = .pure (.agg (k93.enc (withN (fun _ => 1) n)), []) := callV_plain (fn := fn63) rfl rfl rfl (lim63a n hn) k

theorem lim63b (n : S93) (lost : Bool) (l : List S95) (m : List (Int × Int)) (hn : fewN n) : lim T fns 63 [.agg (k93.enc n), .clo 64 [.ptr 0 0 0]] [fo0, fo1 lost, fo2 l, fo3 m] = some (.agg (k93.enc (withN (deepI m) n)), [some fo0, some (fo1 lost), some (fo2 l), some (fo3 m)]) := by
  obtain ⟨h1, h2, h3, h4⟩ := hn
  have c := call133 n ⟨h1, h2, h3, h4⟩
  simp only [k93_enc] at c
  have hcl := fun b n hn rest => call64 b lost l m n hn rest
  refine fn_rule (fn := fn63) rfl rfl (by simp [fn63]) ?_
  unfold fn63
  simp only [Try.f63, Option.getD_some, argEnv, List.map_nil, List.length_nil]
  simp only [go_sem, T_3, T_4, T_5, T_9, T_42, T_51, T_69, T_90, T_91, T_93, T_96, T_98, T_100, T_121, T_145, k93_enc, c, ownV, List.map_cons]
  refine loop_rule (ι := Nat) (S := fun i => ⟨[(1, .clo 64 [.ptr 0 0 0]), (2, .ptr 4 0 0), (4, .ptr 5 0 0), (12, .int .i64 n.f3.length), (13, .int .i64 i)],
      [some fo0, some (fo1 lost), some (fo2 l), some (fo3 m)] ++ [some (.buf 5 [[.bool n.f0, .ms 6 2 0 n.f1.length none, .ms 7 1 0 n.f2.length none, .ms 8 4 0 n.f3.length none, .ms 9 6 0 n.f4.length none]] false false), some (.buf 5 [[.bool false, .nils, .nils, .nils, .nils]] false true),
        some (.buf 2 (n.f1.map k145.enc) false true), some (.buf 1 (n.f2.map Cd.str.enc) false true), some (.buf 4 (((n.f3.take i).map (withE (deepI m)) ++ n.f3.drop i).map k100.enc) false true), some (.buf 6 (n.f4.map k121.enc) false true)]⟩)
    (m := fun i => n.f3.length + 1 - i) (I := fun i => i ≤ n.f3.length) ?_ 0 _ (by simp) (by kernel_rfl)
  intro i hi
  by_cases hlt : i < n.f3.length
  · have hx := mix_get (withE (deepI m)) hlt
    have hl := mix_len (withE (deepI m)) hi
    simp only [go_sem, T_3, T_4, T_5, T_9, T_42, T_51, T_69, T_90, T_91, T_93, T_96, T_98, T_100, T_121, T_145, hlt, hx, hl, k100_enc, call128, call64, Nat.zero_add, Nat.reduceLeDiff, wrap_i64s (show i < 1000000000000000000 by omega), hcl]
    repeat (refine ⟨by kernel_rfl, ?_⟩)
    refine ⟨i + 1, by omega, by simp only; omega, ?_⟩
    have hs : ((((n.f3.take i).map (withE (deepI m)) ++ n.f3.drop i).map k100.enc).set i [.int .u32 n.f3[i].f0, .int .u16 ((deepI m) n.f3[i].f0), .str n.f3[i].f2.f0, .str n.f3[i].f2.f1]) = ((n.f3.take (i + 1)).map (withE (deepI m)) ++ n.f3.drop (i + 1)).map k100.enc := by
      rw [← mix_set _ hlt, ← map_set']
      rfl
    try simp only at hs
    rw [hs]
    show _ = _
    kernel_rfl
  rw [mix_all _ (by omega)]
  have hl3 : (n.f3.map (withE (deepI m))).length = n.f3.length := by simp
  simp only [go_sem, T_3, T_4, T_5, T_9, T_42, T_51, T_69, T_90, T_91, T_93, T_96, T_98, T_100, T_121, T_145, hlt]
  refine loop_rule (ι := Nat) (S := fun i => ⟨[(1, .clo 64 [.ptr 0 0 0]), (2, .ptr 4 0 0), (4, .ptr 5 0 0), (31, .ms 6 6 0 n.f4.length none), (32, .int .i64 n.f4.length), (33, .int .i64 i)],
      [some fo0, some (fo1 lost), some (fo2 l), some (fo3 m)] ++ [some (.buf 5 [[.bool n.f0, .ms 7 2 0 n.f1.length none, .ms 8 1 0 n.f2.length none, .ms 9 4 0 n.f3.length none, .ms 6 6 0 n.f4.length none]] false false), some (.buf 5 [[.bool false, .nils, .nils, .nils, .nils]] false true),
        some (.buf 6 (((n.f4.take i).map (withM (deepI m)) ++ n.f4.drop i).map k121.enc) false true), some (.buf 2 (n.f1.map k145.enc) false true), some (.buf 1 (n.f2.map Cd.str.enc) false true), some (.buf 4 ((n.f3.map (withE (deepI m))).map k100.enc) false true)]⟩)
    (m := fun i => n.f4.length + 1 - i) (I := fun i => i ≤ n.f4.length) ?_ 0 _ (by simp) (by kernel_rfl)
  intro i hi
  by_cases hlt : i < n.f4.length
  · have hx := mix_get (withM (deepI m)) hlt
    have hx0 : n.f4[i]? = some n.f4[i] := List.getElem?_eq_getElem hlt
    have hl := mix_len (withM (deepI m)) hi
    by_cases hk : n.f4[i].f0 = 3
    · have ek : (n.f4[i].f0 == 3) = true := by simp [hk]
      simp only [go_sem, T_3, T_4, T_5, T_9, T_42, T_51, T_69, T_90, T_91, T_93, T_96, T_98, T_100, T_121, T_145, hlt, hx, hl, k121_enc, call128, call64, Nat.zero_add, Nat.reduceLeDiff, wrap_i64s (show i < 1000000000000000000 by omega), hcl, ek]
      repeat (refine ⟨by kernel_rfl, ?_⟩)
      refine ⟨i + 1, by omega, by simp only; omega, ?_⟩
      have hs : ((((n.f4.take i).map (withM (deepI m)) ++ n.f4.drop i).map k121.enc).set i [.int .u8 n.f4[i].f0, .str n.f4[i].f1, .str n.f4[i].f2, .int .u32 n.f4[i].f3, .int .u16 ((deepI m) n.f4[i].f3), .str n.f4[i].f5]) = ((n.f4.take (i + 1)).map (withM (deepI m)) ++ n.f4.drop (i + 1)).map k121.enc := by
        rw [← mix_set _ hlt, ← map_set']
        simp only [withM, hk, if_true, k121_enc]
      try simp only at hs
      rw [hs]
      show _ = _
      kernel_rfl
    · have ek : (n.f4[i].f0 == 3) = false := by simp [hk]
      simp only [go_sem, T_3, T_4, T_5, T_9, T_42, T_51, T_69, T_90, T_91, T_93, T_96, T_98, T_100, T_121, T_145, hlt, hx, hl, k121_enc, Nat.zero_add, wrap_i64s (show i < 1000000000000000000 by omega), ek]
      refine ⟨i + 1, by omega, by simp only; omega, ?_⟩
      rw [mix_same (withM (deepI m)) hlt (by simp [withM, hk])]
      show _ = _
      kernel_rfl
  rw [mix_all _ (by omega)]
  have hl4 : (n.f4.map (withM (deepI m))).length = n.f4.length := by simp
  simp only [go_sem, T_3, T_4, T_5, T_9, T_42, T_51, T_69, T_90, T_91, T_93, T_96, T_98, T_100, T_121, T_145, hlt]
  refine finish_fk ?_
  simp only [frz, frzAll, frzG, frzGAll, ms2, msUp, Rd.run, Heap.at?, List.length_map, Nat.zero_add, Nat.le_refl, and_self, if_true, List.drop_zero, take_map, take_map2, FK, List.cons_append, List.nil_append]
  show _ = _
  kernel_rfl
end Go.Proofs.Ytfdemnefkfkghaa.R
/- Chapter 33's law: how deep a node is (the document's). -/
namespace Go.Proofs.Ytfdemnefkfkghaa.R
open Go Go.Proofs
set_option linter.unusedSimpArgs false
set_option linter.unusedVariables false
set_option maxRecDepth 10000
set_option maxHeartbeats 2000000

/-- Depths are numbers of sixteen bits. -/
def wfN (n : S93) : Prop := (∀ e ∈ n.f3, 0 ≤ e.f1 ∧ e.f1 ≤ 65535) ∧ ∀ m ∈ n.f4, 0 ≤ m.f4 ∧ m.f4 ≤ 65535
def deepK (d : Int) (l : List S100) : Int := l.foldl (fun d e => if e.f1 > d then e.f1 else d) d
def deepM (d : Int) (l : List S121) : Int := l.foldl (fun d m => if m.f0 = 3 then (if m.f4 > d then m.f4 else d) else d) d
def deepN (n : S93) : Int := if n.f0 = true then 1 else if deepM (deepK 0 n.f3) n.f4 ≥ 65535 then 65535 else deepM (deepK 0 n.f3) n.f4 + 1

theorem deepK_drop {d : Int} {l : List S100} {i : Nat} (h : i < l.length) : deepK d (l.drop i) = deepK (if l[i].f1 > d then l[i].f1 else d) (l.drop (i + 1)) := by
  rw [List.drop_eq_getElem_cons h]
  rfl
theorem deepM_drop {d : Int} {l : List S121} {i : Nat} (h : i < l.length) : deepM d (l.drop i) = deepM (if l[i].f0 = 3 then (if l[i].f4 > d then l[i].f4 else d) else d) (l.drop (i + 1)) := by
  rw [List.drop_eq_getElem_cons h]
  rfl

theorem lim116 (n : S93) (hn : fewN n) (hw : wfN n) : lim T fns 116 [.agg (k93.enc n)] [] = some (.int .u16 (deepN n), []) := by
  obtain ⟨_, _, h3, h4⟩ := hn
  obtain ⟨w3, w4⟩ := hw
  refine fn_rule (fn := fn116) rfl rfl (by simp [fn116]) ?_
  unfold fn116
  simp only [Try.f116, Option.getD_some, argEnv, List.map_nil, List.length_nil]
  cases h0 : n.f0 with
  | true =>
    simp only [go_sem, T_3, T_4, T_5, T_9, T_42, T_51, T_69, T_90, T_91, T_93, T_96, T_98, T_100, T_121, T_145, k93_enc, h0]
    simp [deepN, h0]
  | false =>
  simp only [go_sem, T_3, T_4, T_5, T_9, T_42, T_51, T_69, T_90, T_91, T_93, T_96, T_98, T_100, T_121, T_145, k93_enc, h0]
  refine loop_rule (ι := Nat × Int) (S := fun p => ⟨[(1, .ptr 0 0 0), (3, .int .i64 p.2), (10, .int .i64 n.f3.length), (11, .int .i64 p.1)], [some (.buf 5 [[.bool false, .fz (n.f1.map k145.enc), .fz (n.f2.map Cd.str.enc), .fz (n.f3.map k100.enc), .fz (n.f4.map k121.enc)]] false true)]⟩)
    (m := fun p => n.f3.length + 1 - p.1) (I := fun p => p.1 ≤ n.f3.length ∧ 0 ≤ p.2 ∧ p.2 ≤ 65535 ∧ deepK p.2 (n.f3.drop p.1) = deepK 0 n.f3) ?_ (0, 0) _ ⟨by simp, by simp, by simp, by simp⟩ rfl
  rintro ⟨i, d⟩ ⟨hi, hd0, hd1, hd⟩
  simp only at hi hd0 hd1 hd
  by_cases hlt : i < n.f3.length
  · have hx : n.f3[i]? = some n.f3[i] := List.getElem?_eq_getElem hlt
    have hb := w3 n.f3[i] (List.getElem_mem hlt)
    rw [deepK_drop hlt] at hd
    simp only [go_sem, T_3, T_4, T_5, T_9, T_42, T_51, T_69, T_90, T_91, T_93, T_96, T_98, T_100, T_121, T_145, all100, hlt, hx, k100_enc, wrap_i64s (show i < 1000000000000000000 by omega), wrap_i64 (n := n.f3[i].f1) (by omega) (by omega)]
    split
    · rename_i he
      rw [if_pos he] at hd
      exact ⟨(i + 1, n.f3[i].f1), ⟨by simp only; omega, hb.1, hb.2, hd⟩, by simp only; omega, rfl⟩
    · rename_i he
      rw [if_neg he] at hd
      exact ⟨(i + 1, d), ⟨by simp only; omega, hd0, hd1, hd⟩, by simp only; omega, rfl⟩
  rw [List.drop_eq_nil_of_le (by omega)] at hd
  have e1 : d = deepK 0 n.f3 := by rw [← hd]; rfl
  simp only [go_sem, T_3, T_4, T_5, T_9, T_42, T_51, T_69, T_90, T_91, T_93, T_96, T_98, T_100, T_121, T_145, hlt]
  refine loop_rule (ι := Nat × Int) (S := fun p => ⟨[(1, .ptr 0 0 0), (3, .int .i64 p.2), (33, .int .i64 n.f4.length), (34, .int .i64 p.1)], [some (.buf 5 [[.bool false, .fz (n.f1.map k145.enc), .fz (n.f2.map Cd.str.enc), .fz (n.f3.map k100.enc), .fz (n.f4.map k121.enc)]] false true)]⟩)
    (m := fun p => n.f4.length + 1 - p.1) (I := fun p => p.1 ≤ n.f4.length ∧ 0 ≤ p.2 ∧ p.2 ≤ 65535 ∧ deepM p.2 (n.f4.drop p.1) = deepM d n.f4) ?_ (0, d) _ ⟨by simp, hd0, hd1, by simp⟩ rfl
  clear hlt hi
  rintro ⟨i, d2⟩ ⟨hi, hq0, hq1, hq⟩
  simp only at hi hq0 hq1 hq
  by_cases hlt : i < n.f4.length
  · have hx : n.f4[i]? = some n.f4[i] := List.getElem?_eq_getElem hlt
    have hb := w4 n.f4[i] (List.getElem_mem hlt)
    rw [deepM_drop hlt] at hq
    by_cases hk : n.f4[i].f0 = 3
    · have ek : (n.f4[i].f0 == 3) = true := by simp [hk]
      rw [if_pos hk] at hq
      simp only [go_sem, T_3, T_4, T_5, T_9, T_42, T_51, T_69, T_90, T_91, T_93, T_96, T_98, T_100, T_121, T_145, all121, hlt, hx, k121_enc, ek, wrap_i64s (show i < 1000000000000000000 by omega), wrap_i64 (n := n.f4[i].f4) (by omega) (by omega)]
      split
      · rename_i he
        rw [if_pos he] at hq
        exact ⟨(i + 1, n.f4[i].f4), ⟨by simp only; omega, hb.1, hb.2, hq⟩, by simp only; omega, rfl⟩
      · rename_i he
        rw [if_neg he] at hq
        exact ⟨(i + 1, d2), ⟨by simp only; omega, hq0, hq1, hq⟩, by simp only; omega, rfl⟩
    · have ek : (n.f4[i].f0 == 3) = false := by simp [hk]
      rw [if_neg hk] at hq
      simp only [go_sem, T_3, T_4, T_5, T_9, T_42, T_51, T_69, T_90, T_91, T_93, T_96, T_98, T_100, T_121, T_145, all121, hlt, hx, k121_enc, ek, wrap_i64s (show i < 1000000000000000000 by omega)]
      exact ⟨(i + 1, d2), ⟨by simp only; omega, hq0, hq1, hq⟩, by simp only; omega, rfl⟩
  · rw [List.drop_eq_nil_of_le (by omega)] at hq
    have e2 : d2 = deepM (deepK 0 n.f3) n.f4 := by rw [← e1, ← hq]; rfl
    have hN : deepN n = if d2 ≥ 65535 then 65535 else d2 + 1 := by rw [e2]; simp [deepN, h0]
    by_cases h9 : d2 ≥ 65535
    · simp only [go_sem, T_3, T_4, T_5, T_9, T_42, T_51, T_69, T_90, T_91, T_93, T_96, T_98, T_100, T_121, T_145, hlt, h9]
      simp [hN, h9]
    · have hu : IntKind.u16.wrap (d2 + 1) = d2 + 1 := by
        simp [IntKind.wrap, IntKind.signed, IntKind.bits]
        omega
      simp only [go_sem, T_3, T_4, T_5, T_9, T_42, T_51, T_69, T_90, T_91, T_93, T_96, T_98, T_100, T_121, T_145, hlt, h9, wrap_i64 (n := d2 + 1) (by omega) (by omega), hu]
      simp [hN, h9]
theorem call116 (n : S93) (hn : fewN n) (hw : wfN n) (k : Nat) : callV (LX T fns) k (.clo 116 []) [.agg (k93.enc n)] = .pure (.int .u16 (deepN n), []) := callV_plain (fn := fn116) rfl rfl rfl (lim116 n hn hw) k
end Go.Proofs.Ytfdemnefkfkghaa.R
/- Chapter 33's law: is there a node so deep? -/
namespace Go.Proofs.Ytfdemnefkfkghaa.R
open Go Go.Proofs
set_option linter.unusedSimpArgs false
set_option linter.unusedVariables false
set_option maxRecDepth 10000
set_option maxHeartbeats 2000000

def wfL (l : List S95) : Prop := ∀ x ∈ l, wfN x.f1
theorem find_mem {b : Int} : ∀ {l : List S95} {n : S93}, find b l = some n → ∃ x ∈ l, x.f0 = b ∧ x.f1 = n
  | [], n, h => by simp [find] at h
  | x :: r, n, h => by
    unfold find at h
    split at h
    · rename_i e
      cases h
      exact ⟨x, .head _, e, rfl⟩
    · obtain ⟨y, hy, h1, h2⟩ := find_mem h
      exact ⟨y, .tail _ hy, h1, h2⟩
def leads (l : List S95) (b d : Int) : Bool := match find b l with
  | some n => decide (d < 65535) && decide (deepN n = d)
  | none => false

theorem lim71 (l : List S95) (b d : Int) (hl : fewL l) (hw : wfL l) : lim T fns 71 [.fz (l.map k95.enc), .int .u32 b, .int .u16 d] [] = some (.bool (leads l b d), []) := by
  refine fn_rule (fn := fn71) rfl rfl (by simp [fn71]) ?_
  unfold fn71
  simp only [Try.f71, Option.getD_some, argEnv, List.map_nil, List.length_nil]
  have hc := call68 l b hl
  cases hf : find b l with
  | none =>
    simp only [hf, Option.getD_none, Option.isSome_none, k93_enc, noNode, List.map_nil] at hc
    simp only [go_sem, T_4, T_5, T_9, T_22, T_42, T_51, T_69, T_90, T_91, T_93, T_95, T_96, T_98, T_100, T_121, T_145, hc]
    simp [leads, hf]
  | some n =>
    obtain ⟨x, hx, _, rfl⟩ := find_mem hf
    have hd := call116 x.f1 (hl.2 x hx) (hw x hx)
    simp only [hf, Option.getD_some, Option.isSome_some, k93_enc] at hc
    simp only [k93_enc] at hd
    cases h1 : decide (d < 65535) with
    | true =>
      simp only [go_sem, T_4, T_5, T_9, T_22, T_42, T_51, T_69, T_90, T_91, T_93, T_95, T_96, T_98, T_100, T_121, T_145, hc, hd, h1]
      simp only [leads, hf, h1, Bool.true_and]
      rw [show (deepN x.f1 == d) = decide (deepN x.f1 = d) from rfl]
    | false =>
      simp only [go_sem, T_4, T_5, T_9, T_22, T_42, T_51, T_69, T_90, T_91, T_93, T_95, T_96, T_98, T_100, T_121, T_145, hc, hd, h1]
      simp only [leads, hf, h1, Bool.false_and]
theorem call71 (l : List S95) (b d : Int) (hl : fewL l) (hw : wfL l) (k : Nat) : callV (LX T fns) k (.clo 71 []) [.fz (l.map k95.enc), .int .u32 b, .int .u16 d] = .pure (.bool (leads l b d), []) := callV_plain (fn := fn71) rfl rfl rfl (lim71 l b d hl hw) k
end Go.Proofs.Ytfdemnefkfkghaa.R
/- Chapter 33's law: depths, in plain Lean. -/
namespace Go.Proofs.Ytfdemnefkfkghaa.R
open Go Go.Proofs
set_option linter.unusedSimpArgs false
set_option linter.unusedVariables false

/-- The greatest. -/
def top {α : Type} (f : α → Int) (d : Int) (ts : List α) : Int := ts.foldl (fun d t => max d (f t)) d
theorem top_le {α : Type} {f : α → Int} : ∀ {ts : List α} {d : Int}, d ≤ top f d ts
  | [], d => Int.le_refl _
  | t :: ts, d => by
    have := top_le (f := f) (ts := ts) (d := max d (f t))
    show d ≤ top f (max d (f t)) ts
    omega
theorem top_mem {α : Type} {f : α → Int} : ∀ {ts : List α} {d : Int} {t : α}, t ∈ ts → f t ≤ top f d ts
  | x :: ts, d, t, h => by
    show f t ≤ top f (max d (f x)) ts
    rcases List.mem_cons.1 h with rfl | h
    · have := top_le (f := f) (ts := ts) (d := max d (f t))
      omega
    · exact top_mem h
theorem top_ub {α : Type} {f : α → Int} {m : Int} : ∀ {ts : List α} {d : Int}, d ≤ m → (∀ t ∈ ts, f t ≤ m) → top f d ts ≤ m
  | [], d, h, _ => h
  | x :: ts, d, h, h' => by
    show top f (max d (f x)) ts ≤ m
    have := h' x (.head _)
    exact top_ub (by omega) fun t ht => h' t (.tail _ ht)
theorem top_at {α : Type} {f : α → Int} : ∀ {ts : List α} {d : Int}, top f d ts = d ∨ ∃ t ∈ ts, top f d ts = f t
  | [], d => .inl rfl
  | x :: ts, d => by
    show top f (max d (f x)) ts = d ∨ ∃ t ∈ x :: ts, top f (max d (f x)) ts = f t
    rcases top_at (f := f) (ts := ts) (d := max d (f x)) with h | ⟨t, ht, h⟩
    · by_cases hd : f x ≤ d
      · left; omega
      · right; exact ⟨x, .head _, by omega⟩
    · exact .inr ⟨t, .tail _ ht, h⟩
theorem top_congr {α : Type} {f g : α → Int} : ∀ {ts : List α} {d : Int}, (∀ t ∈ ts, f t = g t) → top f d ts = top g d ts
  | [], d, _ => rfl
  | x :: ts, d, h => by
    show top f (max d (f x)) ts = top g (max d (g x)) ts
    rw [h x (.head _)]
    exact top_congr fun t ht => h t (.tail _ ht)

def succs (l : List S95) (b : Int) : List Int := match find b l with
  | some n => targets n
  | none => []
/-- One more than the steps of the longest way of at most so many. -/
def dk (l : List S95) : Nat → Int → Int
  | 0, _ => 1
  | k + 1, b => top (fun t => dk l k t + 1) 1 (succs l b)

theorem dk_pos {l : List S95} : ∀ {k : Nat} {b : Int}, 1 ≤ dk l k b
  | 0, _ => Int.le_refl _
  | _ + 1, _ => top_le
theorem dk_mono {l : List S95} : ∀ {k : Nat} {b : Int}, dk l k b ≤ dk l (k + 1) b
  | 0, _ => top_le
  | k + 1, b => by
    refine top_ub top_le fun t ht => ?_
    have h1 : dk l k t ≤ dk l (k + 1) t := dk_mono
    have h2 : dk l (k + 1) t + 1 ≤ top (fun t => dk l (k + 1) t + 1) 1 (succs l b) := top_mem (f := fun t => dk l (k + 1) t + 1) ht
    show dk l k t + 1 ≤ _
    exact Int.le_trans (by omega) h2
theorem dk_mono_le {l : List S95} {b : Int} {j : Nat} : ∀ {k : Nat}, j ≤ k → dk l j b ≤ dk l k b
  | 0, h => by obtain rfl : j = 0 := (by omega); exact Int.le_refl _
  | k + 1, h => by
    by_cases e : j = k + 1
    · subst e; exact Int.le_refl _
    · exact Int.le_trans (dk_mono_le (k := k) (by omega)) dk_mono
theorem dk_le {l : List S95} : ∀ {k : Nat} {b : Int}, dk l k b ≤ k + 1
  | 0, _ => by simp [dk]
  | k + 1, b => by
    refine top_ub (by omega) fun t ht => ?_
    have : dk l k t ≤ k + 1 := dk_le
    show dk l k t + 1 ≤ _
    omega

/-- Blocks rise. -/
def risesB : List S95 → Bool
  | x :: y :: r => decide (x.f0 < y.f0) && risesB (y :: r)
  | _ => true
theorem rises_lt : ∀ {x : S95} {r : List S95}, risesB (x :: r) = true → ∀ y ∈ r, x.f0 < y.f0
  | x, [], _, y, h => by simp at h
  | x, z :: r, h, y, hy => by
    simp only [risesB, Bool.and_eq_true, decide_eq_true_eq] at h
    rcases List.mem_cons.1 hy with rfl | hy
    · exact h.1
    · have := rises_lt h.2 y hy
      omega
theorem rises_tail {x : S95} {r : List S95} (h : risesB (x :: r) = true) : risesB r = true := by
  cases r with
  | nil => rfl
  | cons y r => simp only [risesB, Bool.and_eq_true] at h; exact h.2
theorem find_self : ∀ {l : List S95}, risesB l = true → ∀ x ∈ l, find x.f0 l = some x.f1
  | y :: r, h, x, hx => by
    unfold find
    rcases List.mem_cons.1 hx with rfl | hx
    · simp
    · have := rises_lt h x hx
      rw [if_neg (by omega)]
      exact find_self (rises_tail h) x hx

/-- All that is led to is there. -/
def Whole (l : List S95) : Prop := ∀ x ∈ l, ∀ t ∈ targets x.f1, ∃ y ∈ l, y.f0 = t
theorem succs_self {l : List S95} (h : risesB l = true) {x : S95} (hx : x ∈ l) : succs l x.f0 = targets x.f1 := by
  unfold succs
  rw [find_self h x hx]
theorem succs_in {l : List S95} (hw : Whole l) {b t : Int} (ht : t ∈ succs l b) : ∃ y ∈ l, y.f0 = t := by
  unfold succs at ht
  split at ht
  · rename_i n hf
    obtain ⟨x, hx, _, rfl⟩ := find_mem hf
    exact hw x hx t ht
  · simp at ht

def Stable (l : List S95) (k : Nat) : Prop := ∀ x ∈ l, dk l (k + 1) x.f0 = dk l k x.f0
instance (l : List S95) (k : Nat) : Decidable (Stable l k) := by unfold Stable; infer_instance
theorem stable_succ {l : List S95} (hw : Whole l) {k : Nat} (h : Stable l k) : Stable l (k + 1) := fun x hx =>
  top_congr fun t ht => by
    obtain ⟨y, hy, rfl⟩ := succs_in hw ht
    show dk l (k + 1) y.f0 + 1 = dk l k y.f0 + 1
    rw [h y hy]
theorem stable_le {l : List S95} (hw : Whole l) {j : Nat} (h : Stable l j) : ∀ {k : Nat}, j ≤ k → Stable l k
  | 0, hk => by obtain rfl : j = 0 := (by omega); exact h
  | k + 1, hk => by
    by_cases e : j = k + 1
    · subst e; exact h
    · exact stable_succ hw (stable_le hw h (k := k) (by omega))
theorem stable_eq {l : List S95} (hw : Whole l) {j : Nat} (h : Stable l j) {x : S95} (hx : x ∈ l) : ∀ {k : Nat}, j ≤ k → dk l k x.f0 = dk l j x.f0
  | 0, hk => by obtain rfl : j = 0 := (by omega); rfl
  | k + 1, hk => by
    by_cases e : j = k + 1
    · subst e; rfl
    · rw [stable_le hw h (k := k) (by omega) x hx]
      exact stable_eq hw h hx (by omega)

/-- How deep a block is, in the end. -/
def Lim (l : List S95) (b d : Int) : Prop := ∃ K, ∀ k, K ≤ k → dk l k b = d
theorem lim_uniq {l : List S95} {b d e : Int} : Lim l b d → Lim l b e → d = e := fun ⟨K, h⟩ ⟨K', h'⟩ => by
  rw [← h (max K K') (by omega), ← h' (max K K') (by omega)]
theorem lim_pos {l : List S95} {b d : Int} : Lim l b d → 1 ≤ d := fun ⟨K, h⟩ => by
  rw [← h K (by omega)]
  exact dk_pos
theorem lim_all {l : List S95} {g : Int → Int} : ∀ {ts : List Int}, (∀ t ∈ ts, Lim l t (g t)) → ∃ K, ∀ t ∈ ts, ∀ k, K ≤ k → dk l k t = g t
  | [], _ => ⟨0, fun t ht => by simp at ht⟩
  | x :: ts, h => by
    obtain ⟨K, hK⟩ := lim_all (ts := ts) fun t ht => h t (.tail _ ht)
    obtain ⟨K', hK'⟩ := h x (.head _)
    refine ⟨max K K', fun t ht k hk => ?_⟩
    rcases List.mem_cons.1 ht with rfl | ht
    · exact hK' k (by omega)
    · exact hK t ht k (by omega)
theorem lim_step {l : List S95} {b : Int} {g : Int → Int} (h : ∀ t ∈ succs l b, Lim l t (g t)) : Lim l b (top (fun t => g t + 1) 1 (succs l b)) := by
  obtain ⟨K, hK⟩ := lim_all h
  refine ⟨K + 1, fun k hk => ?_⟩
  obtain ⟨k, rfl⟩ : ∃ k', k = k' + 1 := ⟨k - 1, by omega⟩
  exact top_congr fun t ht => by
    show dk l k t + 1 = g t + 1
    rw [hK t ht k (by omega)]
theorem lim_succ {l : List S95} {b d t e : Int} (h : Lim l b d) (ht : t ∈ succs l b) (h' : Lim l t e) : e + 1 ≤ d := by
  obtain ⟨K, h⟩ := h
  obtain ⟨K', h'⟩ := h'
  rw [← h (max K K' + 1) (by omega), ← h' (max K K') (by omega)]
  exact top_mem (f := fun t => dk l (max K K') t + 1) ht
theorem lim_at {l : List S95} {b d : Int} (h : Lim l b d) : d = 1 ∨ ∃ t ∈ succs l b, Lim l t (d - 1) ∨ ∀ e, ¬ Lim l t e := by
  by_cases hd : d = 1
  · exact .inl hd
  right
  obtain ⟨K, hK⟩ := h
  have h1 := hK (K + 1) (by omega)
  rcases top_at (f := fun t => dk l K t + 1) (ts := succs l b) (d := 1) with h2 | ⟨t, ht, h2⟩
  · exact absurd (h1.symm.trans h2) (by omega)
  · refine ⟨t, ht, ?_⟩
    by_cases hl : ∃ e, Lim l t e
    · obtain ⟨e, K', he⟩ := hl
      left
      have hup : dk l K t ≤ e := by
        have := dk_mono_le (l := l) (b := t) (show K ≤ max K K' by omega)
        rw [he (max K K') (by omega)] at this
        exact this
      have h3 : d = dk l K t + 1 := h1.symm.trans h2
      have h4 : e + 1 ≤ d := lim_succ ⟨K, hK⟩ ht ⟨K', he⟩
      obtain rfl : e = d - 1 := by omega
      exact ⟨K', he⟩
    · right
      exact fun e he => hl ⟨e, he⟩

theorem pigeon {α : Type} {f : α → Int → Prop} (hf : ∀ x i j, f x i → f x j → i = j) : ∀ (n : Nat) (l : List α), (∀ j : Int, 1 ≤ j → j ≤ n → ∃ y ∈ l, f y j) → n ≤ l.length
  | 0, l, _ => Nat.zero_le _
  | n + 1, l, h => by
    obtain ⟨y, hy, hfy⟩ := h (n + 1 : Nat) (by omega) (by omega)
    obtain ⟨a, b, rfl⟩ := List.append_of_mem hy
    have := pigeon hf n (a ++ b) fun j h1 h2 => by
      obtain ⟨z, hz, hfz⟩ := h j h1 (by omega)
      simp only [List.mem_append, List.mem_cons] at hz
      rcases hz with hz | rfl | hz
      · exact ⟨z, List.mem_append_left _ hz, hfz⟩
      · have := hf _ _ _ hfy hfz
        omega
      · exact ⟨z, List.mem_append_right _ hz, hfz⟩
    simp only [List.length_append, List.length_cons] at this ⊢
    omega

/-- Where all are so deep, none is deeper than there are items. -/
theorem lim_le {l : List S95} (hr : risesB l = true) (hw : Whole l) (hl : ∀ x ∈ l, ∃ d, Lim l x.f0 d) {x : S95} (hx : x ∈ l) {d : Int} (h : Lim l x.f0 d) : d ≤ l.length := by
  have hp := lim_pos h
  obtain ⟨n, rfl⟩ : ∃ n : Nat, d = n := ⟨d.toNat, by omega⟩
  have key : ∀ (m : Nat) (j : Int), 1 ≤ j → j + m = n → ∃ y ∈ l, Lim l y.f0 j := by
    intro m
    induction m with
    | zero => intro j h1 h2; obtain rfl : j = n := (by omega); exact ⟨x, hx, h⟩
    | succ m ih =>
      intro j h1 h2
      obtain ⟨y, hy, hly⟩ := ih (j + 1) (by omega) (by omega)
      rcases lim_at hly with h3 | ⟨t, ht, h3⟩
      · omega
      · obtain ⟨z, hz, rfl⟩ := succs_in hw ht
        rcases h3 with h3 | h3
        · exact ⟨z, hz, by rwa [show j + 1 - 1 = j by omega] at h3⟩
        · obtain ⟨e, he⟩ := hl z hz
          exact absurd he (h3 e)
  have := pigeon (f := fun (y : S95) j => Lim l y.f0 j) (fun _ _ _ a b => lim_uniq a b) n l fun j h1 h2 => key (n - j).toNat j h1 (by omega)
  omega
theorem lim_early {l : List S95} (hw : Whole l) (hl : ∀ x ∈ l, ∃ d, Lim l x.f0 d) : ∀ (k : Nat) {x : S95}, x ∈ l → ∀ {d : Int}, Lim l x.f0 d → d ≤ k + 1 → dk l k x.f0 = d
  | 0, x, hx, d, h, hd => by
    have := lim_pos h
    show (1 : Int) = d
    omega
  | k + 1, x, hx, d, h, hd => by
    obtain ⟨K, hK⟩ := h
    have h1 := hK (max (k + 1) K + 1) (by omega)
    rw [← h1]
    refine top_congr fun t ht => ?_
    obtain ⟨z, hz, rfl⟩ := succs_in hw ht
    obtain ⟨e, he⟩ := hl z hz
    have h2 := lim_succ ⟨K, hK⟩ ht he
    have h3 := lim_early hw hl k hz he (by omega)
    have h4 := lim_early hw hl k hz he (by omega)
    obtain ⟨K', hK'⟩ := he
    show dk l k z.f0 + 1 = dk l (max (k + 1) K) z.f0 + 1
    have h5 : dk l k z.f0 ≤ dk l (max (k + 1) K) z.f0 := dk_mono_le (by omega)
    have h6 : dk l (max (k + 1) K) z.f0 ≤ dk l (max (max (k + 1) K) K') z.f0 := dk_mono_le (by omega)
    rw [hK' (max (max (k + 1) K) K') (by omega)] at h6
    omega
/-- Blocks that are as deep as can be told: behind as many rounds as there are items nothing changes. -/
theorem stable_of_lim {l : List S95} (hr : risesB l = true) (hw : Whole l) (hl : ∀ x ∈ l, ∃ d, Lim l x.f0 d) : Stable l l.length := fun x hx => by
  obtain ⟨d, hd⟩ := hl x hx
  have := lim_le hr hw hl hx hd
  rw [lim_early hw hl _ hx hd (by omega), lim_early hw hl _ hx hd (by omega)]
theorem lim_of_stable {l : List S95} (hw : Whole l) {j : Nat} (h : Stable l j) {x : S95} (hx : x ∈ l) : Lim l x.f0 (dk l j x.f0) := ⟨j, fun _ hk => stable_eq hw h hx hk⟩

/-- A way of some steps. -/
inductive Rch (l : List S95) : Int → Int → Prop where
  | one {a b : Int} : b ∈ succs l a → Rch l a b
  | more {a t b : Int} : Rch l a t → b ∈ succs l t → Rch l a b
theorem rch_grow {l : List S95} {a b : Int} (h : Rch l a b) : ∃ n : Nat, 1 ≤ n ∧ ∀ k, dk l k b + n ≤ dk l (k + n) a := by
  induction h with
  | one h => exact ⟨1, by omega, fun k => top_mem (f := fun t => dk l k t + 1) h⟩
  | more h1 h2 ih =>
    rename_i t b
    obtain ⟨n, hn, hk⟩ := ih
    refine ⟨n + 1, by omega, fun k => ?_⟩
    have h3 := hk (k + 1)
    have h4 : dk l k b + 1 ≤ dk l (k + 1) t := top_mem (f := fun t => dk l k t + 1) h2
    rw [show k + (n + 1) = k + 1 + n by omega]
    omega
theorem rch_lim {l : List S95} {b d : Int} (h : Rch l b b) : ¬ Lim l b d := fun ⟨K, hK⟩ => by
  obtain ⟨n, hn, hk⟩ := rch_grow h
  have := hk K
  rw [hK K (by omega), hK (K + n) (by omega)] at this
  omega
theorem rch_in {l : List S95} (hw : Whole l) {a b : Int} (h : Rch l a b) : ∃ y ∈ l, y.f0 = b := by
  cases h with
  | one h => exact succs_in hw h
  | more _ h => exact succs_in hw h
theorem rch_unstable {l : List S95} (hw : Whole l) {b : Int} (h : Rch l b b) (k : Nat) : ¬ Stable l k := fun hs => by
  obtain ⟨y, hy, rfl⟩ := rch_in hw h
  exact rch_lim h (lim_of_stable hw hs hy)

/-! The document's rounds. -/
theorem deepen_map {b : Int} {g : Int → Int} : ∀ {l : List S95} {d : Int}, deepen b d l (l.map fun x => g x.f0) = if (∃ x ∈ l, x.f0 = b) then max d (g b + 1) else d
  | [], d => by simp [deepen]
  | x :: l, d => by
    simp only [List.map_cons, deepen]
    rw [deepen_map]
    by_cases hx : x.f0 = b
    · subst hx
      have h1 : ∃ y ∈ x :: l, y.f0 = x.f0 := ⟨x, .head _, rfl⟩
      rw [if_pos h1, if_pos rfl]
      split <;> split <;> omega
    · rw [if_neg hx]
      have h1 : (∃ y ∈ x :: l, y.f0 = b) ↔ ∃ y ∈ l, y.f0 = b := by simp [hx]
      simp only [h1]
theorem deepens_map {l : List S95} {g : Int → Int} : ∀ {ts : List Int} {d : Int}, (∀ t ∈ ts, ∃ x ∈ l, x.f0 = t) → deepens l (l.map fun x => g x.f0) d ts = top (fun t => g t + 1) d ts
  | [], d, _ => rfl
  | t :: ts, d, h => by
    show deepens l _ (deepen t d l _) ts = top _ (max d (g t + 1)) ts
    rw [deepen_map, if_pos (h t (.head _))]
    exact deepens_map fun t ht => h t (.tail _ ht)
theorem round_map {l : List S95} (hr : risesB l = true) (hw : Whole l) (k : Nat) : round l (l.map fun x => dk l k x.f0) = l.map fun x => dk l (k + 1) x.f0 := by
  unfold round
  refine List.map_congr_left fun x hx => ?_
  rw [deepens_map (hw x hx)]
  show _ = top _ 1 (succs l x.f0)
  rw [succs_self hr hx]
theorem stable_iff {l : List S95} (k : Nat) : (l.map fun x => dk l (k + 1) x.f0) = (l.map fun x => dk l k x.f0) ↔ Stable l k := by
  rw [List.map_inj_left]
  rfl
end Go.Proofs.Ytfdemnefkfkghaa.R
/- Chapter 33's law: the document's depths. -/
namespace Go.Proofs.Ytfdemnefkfkghaa.R
open Go Go.Proofs
set_option linter.unusedSimpArgs false
set_option linter.unusedVariables false
set_option maxRecDepth 10000
set_option maxHeartbeats 2000000

def dks (l : List S95) (k : Nat) : List Int := l.map fun x => dk l k x.f0
theorem dks_len (l : List S95) (k : Nat) : (dks l k).length = l.length := by simp [dks]
theorem dks_bd {l : List S95} {k : Nat} (hk : k < 100000000000000000) : ∀ e ∈ dks l k, 0 ≤ e ∧ e < 1000000000000000000 := fun e he => by
  obtain ⟨x, _, rfl⟩ := List.mem_map.1 he
  have h1 := dk_pos (l := l) (k := k) (b := x.f0)
  have h2 := dk_le (l := l) (k := k) (b := x.f0)
  omega
theorem dks_zero (l : List S95) : dks l 0 = List.replicate l.length 1 := by
  unfold dks
  rw [List.eq_replicate_iff]
  exact ⟨by simp, fun b hb => by obtain ⟨x, _, rfl⟩ := List.mem_map.1 hb; rfl⟩

/-- A call with a whole list of an object of the call's own. -/
theorem call136m (l : List S95) (deep : List Int) (hl : fewL l) (hd : deep.length = l.length) (hb : ∀ e ∈ deep, 0 ≤ e ∧ e < 1000000000000000000) (h0 : l ≠ []) (n : Nat) : (callV (LX T fns) n (.clo 136 []) [.fz (l.map k95.enc), .ms 0 1 0 l.length none]).run [some (.buf 1 (deep.map (Cd.int .i64).enc) false true)] [] =
    some ((.fz ((round l deep).map (Cd.int .i64).enc), [(0, some (.buf 1 (deep.map (Cd.int .i64).enc) true true))]), [0]) := by
  have h := lim136 l deep hl hd hb
  have hlen : ((deep.map (Cd.int .i64).enc).drop 0).take l.length = deep.map (Cd.int .i64).enc := by
    rw [List.drop_zero, List.take_of_length_le (by simp; omega)]
  have hf : fns 136 = some fn136 := rfl
  have hr : ∃ r rs, (round l deep).map (Cd.int .i64).enc = r :: rs := by
    cases l with
    | nil => exact absurd rfl h0
    | cons x l => exact ⟨_, _, rfl⟩
  obtain ⟨r, rs, hr⟩ := hr
  unfold callV
  simp only [hf]
  unfold callR
  simp only [fn136, List.append_nil]
  simp only [frzArgs]
  simp only [frz, frzAll, frzG, frzGAll, ms2, msUp, Rd.run, Heap.at?, hlen, Nat.zero_add, List.length_map, hd, Nat.le_refl, and_self, if_true]
  simp only [V.allIds, V.ids, List.append_nil, collect]
  unfold withR
  simp only [List.map_nil, upd1, List.all_nil, List.all_cons, List.contains_nil, Bool.not_false, Bool.and_self, if_true, V.reAll, V.re, Option.bind_some, Option.map_some, pullObs, List.append_nil, h, List.length_nil, Nat.le_refl, hr]
  unfold afterR
  simp only [V.re, pushObs, V.noFz, Bool.and_false, Bool.false_eq_true, if_false, Rd.run, List.nil_append]
  rfl

theorem lim69_nil : lim T fns 69 [.fz []] [] = some (.tup [.fz [], .bool true], []) := acall_lim (R := 4) (d := 4) (by kernel_rfl)

theorem beq_iff (a b : Int) : (a == b) = decide (a = b) := rfl

theorem lim69 (l : List S95) (hl : fewL l) (hr : risesB l = true) (hw : Whole l) : lim T fns 69 [.fz (l.map k95.enc)] [] = some (.tup [.fz ((dks l (l.length + 1)).map (Cd.int .i64).enc), .bool (decide (Stable l l.length))], []) := by
  by_cases h0 : l = []
  · subst h0
    exact lim69_nil
  have hl0 : 0 < l.length := List.length_pos_iff.2 h0
  have hlm := hl.1
  refine fn_rule (fn := fn69) rfl rfl (by simp [fn69]) ?_
  unfold fn69
  simp only [Try.f69, Option.getD_some, argEnv, List.map_nil, List.length_nil]
  simp only [go_sem, T_1, T_3, T_4, T_5, T_9, T_22, T_42, T_51, T_69, T_90, T_91, T_93, T_95, T_96, T_98, T_100, T_112, T_121, T_145]
  refine loop_rule (ι := Nat) (S := fun i => ⟨[(0, .fz (l.map k95.enc)), (4, .ms 0 1 0 i none), (11, .int .i64 l.length), (12, .int .i64 i)], [some (.buf 1 ((List.replicate i (1 : Int)).map (Cd.int .i64).enc) false true)]⟩)
    (m := fun i => l.length + 1 - i) (I := fun i => i ≤ l.length) ?_ 0 _ (by simp) rfl
  intro i hi
  by_cases hlt : i < l.length
  · simp only [go_sem, T_1, T_3, T_4, T_5, T_9, T_22, T_42, T_51, T_69, T_90, T_91, T_93, T_95, T_96, T_98, T_100, T_112, T_121, T_145, hlt, List.length_replicate, wrap_i64s (show i < 1000000000000000000 by omega), show (i + 1) * 8 ≤ 140737488355328 by omega, show i + 1 ≤ 140737488355328 by omega]
    refine ⟨i + 1, by omega, by simp only; omega, ?_⟩
    show head _ _ _ = some ⟨_, [some (.buf 1 ((List.replicate (i + 1) (1 : Int)).map (Cd.int .i64).enc) false true)]⟩
    rw [List.replicate_succ', List.map_append]
    rfl
  obtain rfl : i = l.length := by omega
  simp only [go_sem, T_1, T_3, T_4, T_5, T_9, T_22, T_42, T_51, T_69, T_90, T_91, T_93, T_95, T_96, T_98, T_100, T_112, T_121, T_145, hlt]
  rw [← dks_zero]
  refine loop_rule (ι := Nat) (S := fun n => match n with
      | 0 => ⟨[(0, .fz (l.map k95.enc)), (4, .ms 0 1 0 l.length none), (5, .int .i64 (0 : Nat))], [some (.buf 1 ((dks l 0).map (Cd.int .i64).enc) false true)]⟩
      | n + 1 => ⟨[(0, .fz (l.map k95.enc)), (4, .fz ((dks l (n + 1)).map (Cd.int .i64).enc)), (5, .int .i64 (n + 1 : Nat))], []⟩)
    (m := fun n => l.length + 2 - n) (I := fun n => n ≤ l.length + 1 ∧ ∀ k, k < n → ¬ Stable l k) ?_ 0 _ ⟨by omega, fun k hk => by omega⟩ rfl
  rintro n ⟨hn, hns⟩
  -- the rounds' end: are they the same?
  have hst : ∀ n, (∀ k, k < n → ¬ Stable l k) → Stable l n → n ≤ l.length → dks l (n + 1) = dks l (l.length + 1) ∧ Stable l l.length := fun n _ hs hn => by
    refine ⟨List.map_congr_left fun x hx => ?_, stable_le hw hs hn⟩
    rw [stable_eq hw hs hx (show n ≤ n + 1 by omega), stable_eq hw hs hx (show n ≤ l.length + 1 by omega)]
  have hrd : ∀ k, round l (dks l k) = dks l (k + 1) := fun k => round_map hr hw k
  have htk : ∀ k i, i < l.length → ((dks l (k + 1)).take (i + 1) = (dks l k).take (i + 1) ↔ (dks l (k + 1)).take i = (dks l k).take i ∧ (dks l (k + 1))[i]? = (dks l k)[i]?) := by
    intro k i hi
    have h1 : i < (dks l (k + 1)).length := by rw [dks_len]; exact hi
    have h2 : i < (dks l k).length := by rw [dks_len]; exact hi
    rw [List.take_succ_eq_append_getElem h1, List.take_succ_eq_append_getElem h2, List.getElem?_eq_getElem h1, List.getElem?_eq_getElem h2]
    constructor
    · intro h
      have := List.append_inj h (by simp [dks_len])
      exact ⟨this.1, by simpa using this.2⟩
    · rintro ⟨e1, e2⟩
      rw [e1, Option.some.inj e2]
  have hfin : ∀ k, (dks l (k + 1)).take l.length = (dks l k).take l.length ↔ Stable l k := fun k => by
    rw [List.take_of_length_le (by rw [dks_len]; exact Nat.le_refl _), List.take_of_length_le (by rw [dks_len]; exact Nat.le_refl _)]
    exact stable_iff k
  cases n with
  | zero =>
    have hc := call136m l (dks l 0) hl (dks_len l 0) (dks_bd (by omega)) h0
    rw [hrd] at hc
    simp only [go_sem, T_1, T_3, T_4, T_5, T_9, T_22, T_42, T_51, T_69, T_90, T_91, T_93, T_95, T_96, T_98, T_100, T_112, T_121, T_145, hc, show ((0 : Nat) : Int) ≤ (l.length : Int) by omega, dks_len]
    refine loop_rule (ι := Nat × Bool) (S := fun p => ⟨[(0, .fz (l.map k95.enc)), (4, .ms 0 1 0 l.length none), (5, .int .i64 (0 : Nat)), (6, .fz ((dks l 1).map (Cd.int .i64).enc)), (7, .bool p.2), (28, .int .i64 l.length), (29, .int .i64 p.1)], [some (.buf 1 ((dks l 0).map (Cd.int .i64).enc) true true)]⟩)
      (m := fun p => l.length + 1 - p.1) (I := fun p => p.1 ≤ l.length ∧ p.2 = decide ((dks l 1).take p.1 = (dks l 0).take p.1)) ?_ (0, true) _ ⟨by simp, by simp⟩ rfl
    rintro ⟨i, b⟩ ⟨hi, hb⟩
    simp only at hi hb
    by_cases hlt : i < l.length
    · have h1 : (dks l 1)[i]? = some ((dks l 1)[i]'(by rw [dks_len]; exact hlt)) := List.getElem?_eq_getElem _
      have h2 : (dks l 0)[i]? = some ((dks l 0)[i]'(by rw [dks_len]; exact hlt)) := List.getElem?_eq_getElem _
      have h3 := htk 0 i hlt
      rw [h1, h2] at h3
      cases b with
      | false =>
        simp only [go_sem, T_1, T_3, T_4, T_5, T_9, T_22, T_42, T_51, T_69, T_90, T_91, T_93, T_95, T_96, T_98, T_100, T_112, T_121, T_145, hlt, h1, h2, wrap_i64s (show i < 1000000000000000000 by omega)]
        refine ⟨(i + 1, false), ⟨by simp only; omega, ?_⟩, by simp only; omega, rfl⟩
        symm
        simp only [decide_eq_false_iff_not]
        intro he
        have := (h3.1 he).1
        simp [this] at hb
      | true =>
        simp only [go_sem, T_1, T_3, T_4, T_5, T_9, T_22, T_42, T_51, T_69, T_90, T_91, T_93, T_95, T_96, T_98, T_100, T_112, T_121, T_145, hlt, h1, h2, dks_len, wrap_i64s (show i < 1000000000000000000 by omega)]
        refine ⟨(i + 1, _), ⟨by simp only; omega, ?_⟩, by simp only; omega, rfl⟩
        simp only
        rw [beq_iff]
        have hb' := of_decide_eq_true hb.symm
        simp only [decide_eq_decide]
        rw [h3]
        simp [hb']
    · obtain rfl : i = l.length := by omega
      rw [show decide ((dks l 1).take l.length = (dks l 0).take l.length) = decide (Stable l 0) by simp only [decide_eq_decide]; exact hfin 0] at hb
      cases b with
      | true =>
        have hs := of_decide_eq_true hb.symm
        obtain ⟨e1, e2⟩ := hst 0 (fun k hk => by omega) hs (by omega)
        simp only [go_sem, T_1, T_3, T_4, T_5, T_9, T_22, T_42, T_51, T_69, T_90, T_91, T_93, T_95, T_96, T_98, T_100, T_112, T_121, T_145, hlt]
        simp only [e2, decide_true, ← e1]
      | false =>
        have hs := of_decide_eq_false hb.symm
        simp only [go_sem, T_1, T_3, T_4, T_5, T_9, T_22, T_42, T_51, T_69, T_90, T_91, T_93, T_95, T_96, T_98, T_100, T_112, T_121, T_145, hlt, wrap_i64s (show 0 < 1000000000000000000 by omega)]
        exact ⟨1, ⟨by omega, fun k hk => by obtain rfl : k = 0 := (by omega); exact hs⟩, by simp only; omega, rfl⟩
  | succ n =>
    by_cases hle : n + 1 ≤ l.length
    · have hc := call136 l (dks l (n + 1)) hl (dks_len l _) (dks_bd (by omega))
      rw [hrd] at hc
      simp only [go_sem, T_1, T_3, T_4, T_5, T_9, T_22, T_42, T_51, T_69, T_90, T_91, T_93, T_95, T_96, T_98, T_100, T_112, T_121, T_145, hc, show ((n + 1 : Nat) : Int) ≤ (l.length : Int) by omega, dks_len]
      refine loop_rule (ι := Nat × Bool) (S := fun p => ⟨[(0, .fz (l.map k95.enc)), (4, .fz ((dks l (n + 1)).map (Cd.int .i64).enc)), (5, .int .i64 (n + 1 : Nat)), (6, .fz ((dks l (n + 1 + 1)).map (Cd.int .i64).enc)), (7, .bool p.2), (28, .int .i64 l.length), (29, .int .i64 p.1)], []⟩)
        (m := fun p => l.length + 1 - p.1) (I := fun p => p.1 ≤ l.length ∧ p.2 = decide ((dks l (n + 1 + 1)).take p.1 = (dks l (n + 1)).take p.1)) ?_ (0, true) _ ⟨by simp, by simp⟩ rfl
      rintro ⟨i, b⟩ ⟨hi, hb⟩
      simp only at hi hb
      by_cases hlt : i < l.length
      · have h1 : (dks l (n + 1 + 1))[i]? = some ((dks l (n + 1 + 1))[i]'(by rw [dks_len]; exact hlt)) := List.getElem?_eq_getElem _
        have h2 : (dks l (n + 1))[i]? = some ((dks l (n + 1))[i]'(by rw [dks_len]; exact hlt)) := List.getElem?_eq_getElem _
        have h3 := htk (n + 1) i hlt
        rw [h1, h2] at h3
        cases b with
        | false =>
          simp only [go_sem, T_1, T_3, T_4, T_5, T_9, T_22, T_42, T_51, T_69, T_90, T_91, T_93, T_95, T_96, T_98, T_100, T_112, T_121, T_145, hlt, h1, h2, wrap_i64s (show i < 1000000000000000000 by omega)]
          refine ⟨(i + 1, false), ⟨by simp only; omega, ?_⟩, by simp only; omega, rfl⟩
          symm
          simp only [decide_eq_false_iff_not]
          intro he
          have := (h3.1 he).1
          simp [this] at hb
        | true =>
          simp only [go_sem, T_1, T_3, T_4, T_5, T_9, T_22, T_42, T_51, T_69, T_90, T_91, T_93, T_95, T_96, T_98, T_100, T_112, T_121, T_145, hlt, h1, h2, dks_len, wrap_i64s (show i < 1000000000000000000 by omega)]
          refine ⟨(i + 1, _), ⟨by simp only; omega, ?_⟩, by simp only; omega, rfl⟩
          simp only
          rw [beq_iff]
          have hb' := of_decide_eq_true hb.symm
          simp only [decide_eq_decide]
          rw [h3]
          simp [hb']
      · obtain rfl : i = l.length := by omega
        rw [show decide ((dks l (n + 1 + 1)).take l.length = (dks l (n + 1)).take l.length) = decide (Stable l (n + 1)) by simp only [decide_eq_decide]; exact hfin (n + 1)] at hb
        cases b with
        | true =>
          have hs := of_decide_eq_true hb.symm
          obtain ⟨e1, e2⟩ := hst (n + 1) hns hs hle
          simp only [go_sem, T_1, T_3, T_4, T_5, T_9, T_22, T_42, T_51, T_69, T_90, T_91, T_93, T_95, T_96, T_98, T_100, T_112, T_121, T_145, hlt]
          simp only [e2, decide_true, ← e1]
        | false =>
          have hs := of_decide_eq_false hb.symm
          simp only [go_sem, T_1, T_3, T_4, T_5, T_9, T_22, T_42, T_51, T_69, T_90, T_91, T_93, T_95, T_96, T_98, T_100, T_112, T_121, T_145, hlt, wrap_i64s (show n + 1 < 1000000000000000000 by omega)]
          exact ⟨n + 1 + 1, ⟨by omega, fun k hk => by
            by_cases e : k = n + 1
            · subst e; exact hs
            · exact hns k (by omega)⟩, by simp only; omega, rfl⟩
    · obtain rfl : n = l.length := by omega
      have hs := hns l.length (by omega)
      simp only [go_sem, T_1, T_3, T_4, T_5, T_9, T_22, T_42, T_51, T_69, T_90, T_91, T_93, T_95, T_96, T_98, T_100, T_112, T_121, T_145, show ¬ ((l.length + 1 : Nat) : Int) ≤ (l.length : Int) by omega]
      simp only [hs, decide_false]
theorem call69 (l : List S95) (hl : fewL l) (hr : risesB l = true) (hw : Whole l) (k : Nat) : callV (LX T fns) k (.clo 69 []) [.fz (l.map k95.enc)] = .pure (.tup [.fz ((dks l (l.length + 1)).map (Cd.int .i64).enc), .bool (decide (Stable l l.length))], []) :=
  callV_plain (fn := fn69) rfl rfl rfl (lim69 l hl hr hw) k
end Go.Proofs.Ytfdemnefkfkghaa.R
