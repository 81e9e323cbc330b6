/- What a call's arguments read as, as the machine's values: whatever the row reads as data of a type is a Lean value, well formed, and no greater than the row's weights and bulk allow. -/
import Derived.Test.YtfdemnefkfkghaaRows
import Derived.Test.YtfdemnefkfkghaaRO
import Derived.WalkKit
import Derived.ProofKit
import Derived.OpenShut
import Derived.ShutString
import Derived.ChangeOld
import Derived.Below
import Derived.SizedLaws
import Derived.DataElems
namespace Go.Proofs.Ytfdemnefkfkghaa.R
set_option linter.unusedVariables false
set_option linter.unusedSimpArgs false
open Go Go.RowKit
open Go.Proofs.Ytfdemnefkfkghaa.Rows (uptoBulk uptoBulkAll)

/-- A Lean value as cells of the machine. -/
structure Cd (α : Type) where
  sz : Nat
  enc : α → List V
  len : ∀ x, (enc x).length = sz
  cell : ∀ x, ∀ v ∈ enc x, v.isCell = true ∧ v.hasIds = false

def Cd.int (k : IntKind) : Cd Int := ⟨1, fun n => [.int k n], fun _ => rfl, fun _ v hv => by simp at hv; subst hv; exact ⟨rfl, rfl⟩⟩
def Cd.bool : Cd Bool := ⟨1, fun b => [.bool b], fun _ => rfl, fun _ v hv => by simp at hv; subst hv; exact ⟨rfl, rfl⟩⟩
def Cd.str : Cd ByteArray := ⟨1, fun s => [.str s], fun _ => rfl, fun _ v hv => by simp at hv; subst hv; exact ⟨rfl, rfl⟩⟩
def Cd.slice {α : Type} (d : Cd α) : Cd (List α) := ⟨1, fun xs => [.fz (xs.map d.enc)], fun _ => rfl, fun _ v hv => by simp at hv; subst hv; exact ⟨rfl, rfl⟩⟩
def Cd.pair {α β : Type} (d : Cd α) (d' : Cd β) : Cd (α × β) := ⟨d.sz + d'.sz, fun x => d.enc x.1 ++ d'.enc x.2, fun x => by simp [d.len, d'.len], fun x v hv => by
  rcases List.mem_append.1 hv with h | h
  · exact d.cell _ v h
  · exact d'.cell _ v h⟩
def Cd.iso {α β : Type} (d : Cd α) (f : β → α) : Cd β := ⟨d.sz, fun x => d.enc (f x), fun x => d.len _, fun x => d.cell _⟩

theorem all_enc {α : Type} (d : Cd α) (l : List α) : ((l.map d.enc).all fun r => r.length == d.sz) = true := by
  rw [List.all_eq_true]
  intro r hr
  obtain ⟨x, _, rfl⟩ := List.mem_map.1 hr
  simp [d.len]
theorem all_int (k : IntKind) (l : List Int) : ((l.map (Cd.int k).enc).all fun r => r.length == 1) = true := all_enc (Cd.int k) l
theorem all_str (l : List ByteArray) : ((l.map Cd.str.enc).all fun r => r.length == 1) = true := all_enc Cd.str l
theorem int_enc (k : IntKind) (n : Int) : (Cd.int k).enc n = [.int k n] := rfl
theorem str_enc (s : ByteArray) : Cd.str.enc s = [.str s] := rfl
theorem bool_enc (b : Bool) : Cd.bool.enc b = [.bool b] := rfl

/-- What is there. -/
def All (w : World) : Froz := fun b o => (cl w b o).isSome = true

/-- Cells of memory, and the machine's. -/
def KV (w : World) (row : List V) (cs : List Value) : Prop := cs.length = row.length ∧ ∀ (j : Nat) (v : V) (cv : Value), row[j]? = some v → cs[j]? = some cv → Rel (All w) (cl w) none0 v cv

/-- Read as data of the type t: of the kind d, good, and of no more bulk than the data. -/
def Opens {α : Type} (P : Program) (t : TypeId) (d : Cd α) (good : α → Prop) (mes : α → Nat) : Prop :=
  P.cellsOf t = d.sz ∧ ∀ (H : Type) (enc : TypeId × Value → H) (W : World) (fuel : Nat) (cs : List Value) (x : DataW H × List MemPlace),
    DataW.trod enc P W 0 (fun _ => true) true fuel t cs = some x → (∀ n ∈ x.1.weights P t, n ≤ reachBytes) → ∃ a, KV W (d.enc a) cs ∧ good a ∧ mes a ≤ uptoBulk x.1

theorem kv_one {w : World} {v : V} {cv : Value} (h : Rel (All w) (cl w) none0 v cv) : KV w [v] [cv] := ⟨rfl, fun j u cu h1 h2 => by
  cases j with
  | zero => simp at h1 h2; subst h1; subst h2; exact h
  | succ j => simp at h1⟩

theorem opens_int {P : Program} {t : TypeId} {k : IntKind} (hu : P.underlying t = some (.int k)) (hc : P.cellsOf t = 1) : Opens P t (Cd.int k) (fun n => (Lit.int k n).wf = true) (fun _ => 1) := by
  refine ⟨hc, fun H enc W fuel cs x h _ => ?_⟩
  obtain ⟨n, rfl, rfl, hw⟩ := DataW.trod_int hu h
  exact ⟨n, kv_one (.int _ _ _), hw, by simp [uptoBulk]⟩

theorem opens_bool {P : Program} {t : TypeId} (hu : P.underlying t = some .bool) (hc : P.cellsOf t = 1) : Opens P t Cd.bool (fun _ => True) (fun _ => 1) := by
  refine ⟨hc, fun H enc W fuel cs x h _ => ?_⟩
  obtain ⟨b, rfl, rfl⟩ := DataW.trod_bool hu h
  exact ⟨b, kv_one (.bool _ _), trivial, by simp [uptoBulk]⟩

theorem opens_string {P : Program} {t : TypeId} (hu : P.underlying t = some .string) (hc : P.cellsOf t = 1) : Opens P t Cd.str (fun s => s.size ≤ 140737488351232) (fun s => s.size + 1) := by
  refine ⟨hc, fun H enc W fuel cs x h hz => ?_⟩
  obtain ⟨s, rfl, rfl, hs⟩ := DataW.trod_string hu h
  have h1 := hz s.data.toList.length (by simp [DataW.weights])
  refine ⟨s, kv_one (.str _ _), ?_, ?_⟩
  · simpa [reachBytes] using h1
  · simp [uptoBulk]

theorem bulkAll_append {H : Type} : ∀ (a b : List (DataW H)), uptoBulkAll (a ++ b) = uptoBulkAll a + uptoBulkAll b
  | [], b => by simp [uptoBulkAll]
  | x :: a, b => by simp [uptoBulkAll, bulkAll_append a b]; omega

theorem weights_all {H : Type} {P : Program} {e : TypeId} : ∀ {l : List (DataW H)} {d : DataW H}, d ∈ l → ∀ n ∈ d.weights P e, n ∈ DataW.weightsAll P e l
  | x :: l, d, h, n, hn => by
    simp only [DataW.weightsAll, List.mem_append]
    rcases List.mem_cons.1 h with rfl | h
    · exact .inl hn
    · exact .inr (weights_all h n hn)

/-- Element by element. -/
theorem all_open {α : Type} {P : Program} {e : TypeId} {d : Cd α} {good : α → Prop} {mes : α → Nat} (h : Opens P e d good mes) {H : Type} {enc : TypeId × Value → H} {W : World} {n : Nat} :
    ∀ (elems : List (DataW H × List MemPlace)) (cells : Nat → List Value),
      (∀ i y, elems[i]? = some y → DataW.trod enc P W 0 (fun _ => true) true n e (cells i) = some y) →
      (∀ m ∈ DataW.weightsAll P e (elems.map (·.1)), m ≤ reachBytes) →
      ∃ xs : List α, xs.length = elems.length ∧ (∀ i a, xs[i]? = some a → KV W (d.enc a) (cells i)) ∧ (∀ a ∈ xs, good a) ∧ (xs.map mes).sum ≤ uptoBulkAll (elems.map (·.1))
  | [], _, _, _ => ⟨[], rfl, fun i a hi => by simp at hi, fun a ha => by simp at ha, by simp⟩
  | y :: elems, cells, ht, hw => by
    obtain ⟨a, hk, hg, hm⟩ := h.2 H enc W n (cells 0) y (ht 0 y rfl) (fun m hm => hw m (by simp only [List.map_cons, DataW.weightsAll, List.mem_append]; exact .inl hm))
    obtain ⟨xs, hl, hks, hgs, hms⟩ := all_open h elems (fun i => cells (i + 1)) (fun i z hz => ht (i + 1) z hz) (fun m hm => hw m (by simp only [List.map_cons, DataW.weightsAll, List.mem_append]; exact .inr hm))
    refine ⟨a :: xs, by simp [hl], ?_, ?_, ?_⟩
    · intro i b hb
      cases i with
      | zero =>
        have : a = b := by simpa using hb
        subst this
        exact hk
      | succ i => exact hks i b (by simpa using hb)
    · intro b hb
      rcases List.mem_cons.1 hb with rfl | hb
      · exact hg
      · exact hgs b hb
    · simp only [List.map_cons, List.sum_cons, uptoBulkAll]
      omega

theorem cells_at {w : World} {base : Nat} : ∀ {n : Nat} {a : Addr} {c : List Value}, w.cells? base a n = some c → c.length = n ∧ ∀ i u, c[i]? = some u → w.cell? (a.add i) = some u := by
  intro n a c h
  unfold World.cells? at h
  split at h
  · have hl := mapM_some_length h
    refine ⟨by simpa using hl, fun i u hu => ?_⟩
    have hi : i < n := by
      have := (List.getElem?_eq_some_iff.1 hu).1
      simp at hl
      omega
    have hg := mapM_some_get h i i (by simp [hi])
    rw [hu] at hg
    exact hg
  · cases h

theorem opens_slice {α : Type} {P : Program} {t e : TypeId} {d : Cd α} {good : α → Prop} {mes : α → Nat} (hu : P.underlying t = some (.slice e)) (hc : P.cellsOf t = 1) (hsz : d.sz ≠ 0) (h : Opens P e d good mes) :
    Opens P t (Cd.slice d) (fun xs => xs.length * P.bytesOf e ≤ 140737488351232 ∧ ∀ a ∈ xs, good a) (fun xs => (xs.map mes).sum + 1) := by
  refine ⟨hc, fun H enc W fuel cs x ht hz => ?_⟩
  rcases DataW.trod_slice hu ht with ⟨rfl, rfl⟩ | ⟨a, len, cap, elems, rest, n, rfl, rfl, rfl, _, hl, hcap, hlen, he, _, _⟩
  · exact ⟨[], kv_one (.fz0 _ _ _), ⟨by simp, by simp⟩, by simp [uptoBulk]⟩
  · simp only [DataW.weights, hu] at hz
    have hw0 := hz _ (List.mem_cons_self ..)
    have hw1 : ∀ m ∈ DataW.weightsAll P e (elems.map (·.1)), m ≤ reachBytes := fun m hm => hz m (List.mem_cons_of_mem _ (List.mem_append_left _ hm))
    have hex : ∀ i, i < len → ∃ c, W.cells? 0 (a.add (i * P.cellsOf e)) (P.cellsOf e) = some c := by
      intro i hi
      have := he i hi
      rw [List.getElem?_eq_getElem (by omega)] at this
      obtain ⟨c, hc, _⟩ := Option.bind_eq_some_iff.1 this
      exact ⟨c, hc⟩
    obtain ⟨xs, hxl, hxk, hxg, hxm⟩ := all_open h (enc := enc) (W := W) (n := n) elems (fun i => (W.cells? 0 (a.add (i * P.cellsOf e)) (P.cellsOf e)).getD []) (by
      intro i y hy
      have hi : i < len := by
        have := (List.getElem?_eq_some_iff.1 hy).1
        omega
      have hh := he i hi
      rw [hy] at hh
      obtain ⟨c, hc, hr⟩ := Option.bind_eq_some_iff.1 hh
      simp only [hc, Option.getD_some]
      exact hr) hw1
    have hxlen : xs.length = len := by omega
    refine ⟨xs, ?_, ⟨?_, hxg⟩, ?_⟩
    · refine kv_one ?_
      cases hx0 : xs with
      | nil =>
        rw [hx0] at hxlen
        simp only [List.length_nil] at hxlen
        subst hxlen
        exact .fz0 _ _ _
      | cons x0 xr =>
        rw [← hx0]
        have hrel : ∀ (r j : Nat) (row : List V) (v : V), (xs.map d.enc)[r]? = some row → row[j]? = some v → ∃ u, W.cell? (a.add (r * d.sz + j)) = some u ∧ Rel (All W) (cl W) none0 v u := by
          intro r j row v hrow hv
          rw [List.getElem?_map, Option.map_eq_some_iff] at hrow
          obtain ⟨p, hp, rfl⟩ := hrow
          have hj : r < len := by
            have := (List.getElem?_eq_some_iff.1 hp).1
            omega
          obtain ⟨c, hc⟩ := hex r hj
          have hk := hxk r p hp
          simp only [hc, Option.getD_some] at hk
          obtain ⟨hcl, hcc⟩ := cells_at hc
          have hjl : j < c.length := by
            have := (List.getElem?_eq_some_iff.1 hv).1
            rw [hk.1]
            omega
          refine ⟨c[j], ?_, hk.2 j v c[j] hv (by simp [hjl])⟩
          have := hcc j c[j] (by simp [hjl])
          rw [h.1] at this
          rw [← this, Addr.add_add]
        have hlenrow : ∀ row ∈ xs.map d.enc, row.length = d.sz := fun row hm => by
          obtain ⟨p, _, rfl⟩ := List.mem_map.1 hm
          exact d.len p
        · have hspot : a.spot = none := by
            have hlt : 0 < (d.enc x0).length := by rw [d.len]; omega
            obtain ⟨u, hu1, _⟩ := hrel 0 0 (d.enc x0) ((d.enc x0)[0]) (by rw [hx0]; rfl) (by simp [hlt])
            simp only [Nat.zero_mul, Nat.add_zero, Addr.add, if_true] at hu1
            unfold World.cell? at hu1
            split at hu1
            · split at hu1
              · cases hu1
              · rename_i hs
                cases h2 : a.spot with
                | none => rfl
                | some q => simp [h2] at hs
            · cases hu1
          obtain ⟨b, o, sp⟩ := a
          simp only at hspot
          subst hspot
          have hadd : ∀ n, (⟨b, o, none⟩ : Addr).add n = ⟨b, o + n, none⟩ := fun n => by
            unfold Addr.add
            split
            · rename_i e; subst e; rfl
            · rfl
          have hlen2 : len = (xs.map d.enc).length := by simp; omega
          rw [hlen2]
          refine .fz _ (xs.map d.enc) b o d.sz cap (fun r j => (cl W b (o + r * d.sz + j)).getD undef) (by simp; omega) hlenrow (fun row hm v hv => by
            obtain ⟨p, _, rfl⟩ := List.mem_map.1 hm
            exact d.cell p v hv) (fun r j hr hj => ?_) (fun r j row v hrow hv => ?_)
          · have hrow : (xs.map d.enc)[r]? = some ((xs.map d.enc)[r]) := List.getElem?_eq_getElem hr
            have hl2 := hlenrow _ (List.mem_of_getElem? hrow)
            obtain ⟨u, h1, _⟩ := hrel r j _ (((xs.map d.enc)[r])[j]'(by omega)) hrow (List.getElem?_eq_getElem (by omega))
            rw [hadd, ← Nat.add_assoc] at h1
            have h1' : cl W b (o + r * d.sz + j) = some u := h1
            exact ⟨by simp [All, h1'], by rw [h1']; rfl⟩
          · obtain ⟨u, h1, h2⟩ := hrel r j row v hrow hv
            rw [hadd, ← Nat.add_assoc] at h1
            have h1' : cl W b (o + r * d.sz + j) = some u := h1
            rw [h1']
            exact h2
    · rw [hxlen]
      exact Nat.le_trans (Nat.mul_le_mul_right _ (by simp; omega)) hw0
    · simp only [uptoBulk]
      omega

theorem kv_app {w : World} {r r' : List V} {cs : List Value} {n : Nat} (h : KV w r (cs.take n)) (h' : KV w r' (cs.drop n)) : KV w (r ++ r') cs := by
  have h1 := h.1
  have h2 := h'.1
  simp only [List.length_take, List.length_drop] at h1 h2
  refine ⟨by simp; omega, fun j v cv hv hc => ?_⟩
  by_cases hj : j < r.length
  · rw [List.getElem?_append_left hj] at hv
    exact h.2 j v cv hv (by rw [List.getElem?_take, if_pos (by omega)]; exact hc)
  · rw [List.getElem?_append_right (by omega)] at hv
    have hj2 := (List.getElem?_eq_some_iff.1 hv).1
    exact h'.2 (j - r.length) v cv hv (by rw [List.getElem?_drop, ← hc]; congr 1; omega)

/-- The types of fields one behind the other, each where the ones ahead of it end. -/
def offs (P : Program) : Nat → List Field → Bool
  | _, [] => true
  | o, f :: r => f.offset == o && offs P (o + P.cellsOf f.type) r
def cellsAll (P : Program) : List Field → Nat
  | [] => 0
  | f :: r => P.cellsOf f.type + cellsAll P r

/-- Fields in a row. -/
def OpensF {α : Type} (P : Program) (fs : List Field) (d : Cd α) (good : α → Prop) (mes : α → Nat) : Prop :=
  cellsAll P fs = d.sz ∧ ∀ (H : Type) (enc : TypeId × Value → H) (W : World) (fuel : Nat) (cs : List Value) (xs : List (DataW H × List MemPlace)) (o : Nat),
    offs P o fs = true → cs.length = cellsAll P fs → xs.length = fs.length →
    (∀ (i : Nat) (f : Field), fs[i]? = some f → DataW.trod enc P W 0 (fun _ => true) true fuel f.type ((cs.drop (f.offset - o)).take (P.cellsOf f.type)) = xs[i]?) →
    (∀ n ∈ DataW.weightsEach P (fs.map (·.type)) (xs.map (·.1)), n ≤ reachBytes) → ∃ a, KV W (d.enc a) cs ∧ good a ∧ mes a ≤ uptoBulkAll (xs.map (·.1))

theorem offs_le {P : Program} : ∀ {fs : List Field} {o : Nat}, offs P o fs = true → ∀ (i : Nat) (f : Field), fs[i]? = some f → o ≤ f.offset
  | [], _, _, i, f, hf => by simp at hf
  | g :: r, o, h, i, f, hf => by
    simp only [offs, Bool.and_eq_true, beq_iff_eq] at h
    cases i with
    | zero =>
      have : g = f := by simpa using hf
      subst this
      omega
    | succ i =>
      have := offs_le h.2 i f (by simpa using hf)
      omega

theorem opensF_one {α : Type} {P : Program} {f : Field} {d : Cd α} {good : α → Prop} {mes : α → Nat} (h : Opens P f.type d good mes) : OpensF P [f] d good mes := by
  refine ⟨by simp [cellsAll, h.1], fun H enc W fuel cs xs o ho hl hx ht hw => ?_⟩
  obtain ⟨y, rfl⟩ : ∃ y, xs = [y] := by
    match xs, hx with
    | [y], _ => exact ⟨y, rfl⟩
  have h0 := ht 0 f rfl
  simp only [offs, Bool.and_eq_true, beq_iff_eq] at ho
  rw [ho.1, Nat.sub_self, List.drop_zero, List.take_of_length_le (by simp [cellsAll] at hl; omega)] at h0
  obtain ⟨a, hk, hg, hm⟩ := h.2 H enc W fuel cs y h0 (fun n hn => hw n (by simp [DataW.weightsEach]; exact hn))
  exact ⟨a, hk, hg, by simp [uptoBulkAll]; exact hm⟩

theorem opensF_cons {α β : Type} {P : Program} {f : Field} {fs : List Field} {d : Cd α} {d' : Cd β} {good : α → Prop} {good' : β → Prop} {mes : α → Nat} {mes' : β → Nat} (h : Opens P f.type d good mes) (h' : OpensF P fs d' good' mes') :
    OpensF P (f :: fs) (Cd.pair d d') (fun x => good x.1 ∧ good' x.2) (fun x => mes x.1 + mes' x.2) := by
  refine ⟨by simp only [cellsAll, h.1, h'.1]; rfl, fun H enc W fuel cs xs o ho hl hx ht hw => ?_⟩
  obtain ⟨y, ys, rfl⟩ : ∃ y ys, xs = y :: ys := by
    match xs, hx with
    | y :: ys, _ => exact ⟨y, ys, rfl⟩
  simp only [offs, Bool.and_eq_true, beq_iff_eq] at ho
  simp only [cellsAll] at hl
  have h0 := ht 0 f rfl
  rw [ho.1, Nat.sub_self, List.drop_zero] at h0
  obtain ⟨a, hk, hg, hm⟩ := h.2 H enc W fuel _ y h0 (fun n hn => hw n (by simp only [List.map_cons, DataW.weightsEach, List.mem_append]; exact .inl hn))
  obtain ⟨b, hk', hg', hm'⟩ := h'.2 H enc W fuel (cs.drop (P.cellsOf f.type)) ys (o + P.cellsOf f.type) ho.2 (by simp; omega) (by simpa using hx)
    (fun i g hgi => by
      have hle := offs_le ho.2 i g hgi
      have := ht (i + 1) g (by simpa using hgi)
      rw [show g.offset - o = P.cellsOf f.type + (g.offset - (o + P.cellsOf f.type)) by omega, ← List.drop_drop] at this
      simpa using this)
    (fun n hn => hw n (by simp only [List.map_cons, DataW.weightsEach, List.mem_append]; exact .inr hn))
  refine ⟨(a, b), kv_app hk hk', ⟨hg, hg'⟩, ?_⟩
  simp only [List.map_cons, uptoBulkAll]
  omega

theorem opens_struct {α β : Type} {P : Program} {t : TypeId} {fs : Array Field} {d : Cd α} {good : α → Prop} {mes : α → Nat} (f : β → α) (g : α → β) (hfg : ∀ a, f (g a) = a) (hu : P.underlying t = some (.struct fs)) (hc : P.cellsOf t = d.sz) (ho : offs P 0 fs.toList = true)
    (h : OpensF P fs.toList d good mes) : Opens P t (Cd.iso d f) (fun b => good (f b)) (fun b => mes (f b)) := by
  refine ⟨hc, fun H enc W fuel cs x ht hz => ?_⟩
  obtain ⟨xs, n, rfl, rfl, hl, hx, hi⟩ := DataW.trod_struct hu ht
  simp only [DataW.weights, hu] at hz
  obtain ⟨a, hk, hg, hm⟩ := h.2 H enc W n cs xs 0 ho (by rw [hl, hc, h.1]) (by simpa using hx) (fun i fd hfd => by
    have := hi i fd (by simpa using hfd)
    simpa using this) hz
  refine ⟨g a, ?_, ?_, ?_⟩
  · show KV W (d.enc (f (g a))) cs
    rw [hfg]
    exact hk
  · show good (f (g a))
    rw [hfg]
    exact hg
  · show mes (f (g a)) ≤ _
    rw [hfg]
    simp only [uptoBulk]
    omega

/-- What is told of a type by another number of it. -/
theorem opens_imp {α : Type} {P : Program} {t : TypeId} {d : Cd α} {good good' : α → Prop} {mes mes' : α → Nat} (h : Opens P t d good mes) (hg : ∀ a, good a → good' a) (hm : ∀ a, mes' a ≤ mes a) : Opens P t d good' mes' :=
  ⟨h.1, fun H enc W fuel cs x ht hz => by
    obtain ⟨a, hk, hga, hma⟩ := h.2 H enc W fuel cs x ht hz
    exact ⟨a, hk, hg a hga, Nat.le_trans (hm a) hma⟩⟩

/-- One argument of a row. -/
theorem arg_opens {α : Type} {P : Program} {t : TypeId} {d : Cd α} {good : α → Prop} {mes : α → Nat} (h : Opens P t d good mes) {H : Type} {enc : TypeId × Value → H} {W : World} {v : Value} {dat : DataW H} {ps : List MemPlace} (ht : DataW.Trod enc P W 0 (fun _ => true) true t v dat ps)
    {ts : List TypeId} {ds : List (DataW H)} (hsz : (DataW.weightsEach P ts ds).all (· ≤ reachBytes) = true) {j : Nat} (hj : ts[j]? = some t) (hd : ds[j]? = some dat) : ∃ a, KV W (d.enc a) v.cells.toList ∧ good a ∧ mes a ≤ uptoBulk dat := by
  obtain ⟨fuel, hf⟩ := ht
  exact h.2 H enc W fuel _ (dat, ps) hf (fun n hn => by
    have := List.all_eq_true.1 hsz n (DataW.weights_mem_each hj hd n hn)
    simpa using this)

theorem agg_of_struct {P : Program} {t : TypeId} {fs : Array Field} {W : World} {base : Nat} {v : Value} (hu : P.underlying t = some (.struct fs)) (h : Value.okWide P W .any base t v) : ∃ cs, v = .agg cs := by
  unfold Value.okWide at h
  rw [hu] at h
  obtain ⟨cs, rfl, _⟩ := h
  exact ⟨cs, rfl⟩
open Go.ChangeShapes Go.WideShapes in
theorem int_of {P : Program} {H : Type} {enc : TypeId × Value → H} {W : World} {base : Nat} {t : TypeId} {k : IntKind} {v : Value} {d : DataW H} {p : List MemPlace} (hu : P.underlying t = some (.int k)) (hv : Value.okWide P W .any base t v) (h : DataW.Trod enc P W 0 (fun _ => true) true t v d p) : ∃ x, v = .int k x := by
  obtain ⟨x, rfl, _⟩ := open_int hu hv h
  exact ⟨x, rfl⟩
open Go.ChangeShapes Go.WideShapes in
theorem bool_of {P : Program} {H : Type} {enc : TypeId × Value → H} {W : World} {base : Nat} {t : TypeId} {v : Value} {d : DataW H} {p : List MemPlace} (hu : P.underlying t = some .bool) (hv : Value.okWide P W .any base t v) (h : DataW.Trod enc P W 0 (fun _ => true) true t v d p) : ∃ x, v = .bool x := by
  obtain ⟨x, rfl, _⟩ := open_bool hu hv h
  exact ⟨x, rfl⟩
open Go.ChangeShapes Go.WideShapes Go.ChangeMaps in
theorem string_of {P : Program} {H : Type} {enc : TypeId × Value → H} {W : World} {base : Nat} {t : TypeId} {v : Value} {d : DataW H} {p : List MemPlace} (hu : P.underlying t = some .string) (hv : Value.okWide P W .any base t v) (h : DataW.Trod enc P W 0 (fun _ => true) true t v d p) : ∃ x, v = .string x := by
  obtain ⟨x, rfl, _⟩ := open_string hu hv h
  exact ⟨x, rfl⟩
theorem kv_rel {w : World} {v : V} {cv : Value} (h : KV w [v] [cv]) : Rel (All w) (cl w) none0 v cv := h.2 0 v cv rfl rfl
theorem kv_agg {w : World} {row : List V} {cs : Array Value} (h : KV w row cs.toList) : Rel (All w) (cl w) none0 (.agg row) (.agg cs) :=
  .agg _ _ _ (by simpa using h.1) fun j v hv => by
    have hlt := (List.getElem?_eq_some_iff.1 hv).1
    have hs : cs.size = row.length := by simpa using h.1
    rw [Array.getD_eq_getD_getElem?, Array.getElem?_eq_getElem (by omega)]
    exact h.2 j v _ hv (by simp [Array.getElem?_eq_getElem, hs, hlt])

theorem relAll0 {F : Froz} {c : Nat → Nat → Option Value} {β : Place} : RelAll F c β [] #[] := ⟨rfl, by simp⟩
theorem relAll_cons {F : Froz} {c : Nat → Nat → Option Value} {β : Place} {v : V} {cv : Value} {vs : List V} {cvs : List Value} (h : Rel F c β v cv) (hs : RelAll F c β vs cvs.toArray) : RelAll F c β (v :: vs) (cv :: cvs).toArray :=
  ⟨by simpa using hs.size, fun j u hu => by
    cases j with
    | zero => simp at hu; subst hu; simpa [Array.getD] using h
    | succ j =>
      have := hs.at_ j u (by simpa using hu)
      rw [Array.getD_eq_getD_getElem?] at this ⊢
      simpa using this⟩

theorem inv0 (W : World) : Inv ⟨W, KOf none0 W, All W⟩ none0 (All W) [] W := by
  refine { os := rfl, tape := rfl, output := rfl, size := Nat.le_refl _, keep := fun _ _ => rfl, kin := fun _ h => h.1, inj := ?_, fresh := ?_, obs := ?_, froz := ?_, prot := ?_ }
  · intro i j oi oj l l' b h; simp [Heap.at?] at h
  · intro i l b h; simp [none0] at h
  · intro i o h; simp [Heap.at?] at h
  rotate_left
  · intro i b st C st' rows frz pure h; simp [none0] at h
  intro b o h
  refine ⟨?_, fun _ => h⟩
  unfold All cl World.cell? at h
  cases hb : W.heap[b]? with
  | none => simp [hb] at h
  | some x => exact (Array.getElem?_eq_some_iff.1 hb).1

/-- What the machine answers is what the call comes to; nothing that was there has turned. -/
theorem law_ok {P : Program} {g : FuncId} {fn : Fun} (hf : FunOK P g fn) {args : List V} {cargs : Array Value} {W : World} {b : Bool} {h : Heap} (heq : fn args [] = some (.bool b, h)) (hargs : RelAll (All W) (cl W) none0 args cargs) :
    Calls P g cargs W fun e W' => e = .returned (.bool b) ∧ Below W.heap.size W W' := by
  refine (hf args [] _ _ heq none0 (All W) W cargs (inv0 W) (fun _ _ => rfl) hargs).mono ?_
  rintro e w' ⟨cv, β', F', rfl, hp⟩
  have hr := hp.rel
  cases hr
  exact ⟨rfl, hp.inv.os, hp.inv.tape, hp.inv.output, hp.inv.size, fun k hk => hp.inv.keep k ⟨hk, fun i l h => by simp [none0] at h⟩⟩
end Go.Proofs.Ytfdemnefkfkghaa.R
