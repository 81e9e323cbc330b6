/- Operations that make objects, or turn them. -/
import Derived.Test.YtfdemnefkfkghaaRE
namespace Go.Proofs.Ytfdemnefkfkghaa.R
set_option linter.unusedVariables false
set_option linter.unusedSimpArgs false
open Go Go.RowKit

def Place.set (β : Place) (n : Nat) (l : Loc) : Place := fun i => if i = n then some l else β i

theorem set_ext {β : Place} {n : Nat} {l : Loc} (hn : β n = none) : ∀ i l', β i = some l' → (β.set n l) i = some l' := by
  intro i l' h
  unfold Place.set
  rw [if_neg]
  · exact h
  · rintro rfl
    rw [hn] at h
    cases h

theorem cl_of_block {w w' : World} {b : Nat} (h : w'.heap[b]? = w.heap[b]?) (o : Nat) : cl w' b o = cl w b o := World.cell?_of_block (w := w) (a := ⟨b, o, none⟩) h
theorem frozen_of_block {w w' : World} {b : Nat} (h : w'.heap[b]? = w.heap[b]?) (o : Nat) : w'.frozen? ⟨b, o, none⟩ = w.frozen? ⟨b, o, none⟩ := World.frozen?_of_block (w := w) (a := ⟨b, o, none⟩) h

theorem ObRel.keep {F F' : Froz} {w w' : World} {β β' : Place} {lc : Loc} {ob : Ob} (h : ObRel F w β lc ob) (hx : Ext β β' F F' w w') (hb : ∀ b, lc.block = some b → w'.heap[b]? = w.heap[b]?) : ObRel F' w' β' lc ob := by
  cases h with
  | nil st frz pure => exact .nil _ _ _
  | buf b st C rows frz pure hst ht hC hlen hcell hpure h =>
    have hb' := hb b rfl
    refine .buf b st C rows frz pure hst (fun j hj => ?_) hC hlen hcell hpure fun r j row v hr hv => ?_
    · have := ht j hj
      have e1 : w'.cell? ⟨b, 0 + j, none⟩ = w.cell? ⟨b, 0 + j, none⟩ := cl_of_block hb' _
      rw [e1, frozen_of_block hb']
      exact this
    · obtain ⟨cv, h1, h2⟩ := h r j row v hr hv
      exact ⟨cv, by rw [cl_of_block hb']; exact h1, hx.rel h2⟩
  | mp b es pure ces clock hw hs hpure h =>
    exact .mp b es pure ces clock (by rw [hb b rfl]; exact hw) hs hpure fun j e he => ⟨hx.rel (h j e he).1, hx.rel (h j e he).2⟩

theorem Inv.drew {B : Base} {β : Place} {F : Froz} {H : Heap} {w : World} (h : Inv B β F H w) : Inv B β F H w.drew :=
  ⟨h.os, h.tape, h.output, h.size, h.keep, h.kin, h.inj, h.fresh, fun i o ho => by
    obtain ⟨l, h1, h2⟩ := h.obs i o ho
    exact ⟨l, h1, h2.keep ⟨fun _ _ h => h, fun _ _ h => ⟨h, rfl⟩⟩ fun _ _ => rfl⟩, h.froz, h.prot⟩

theorem Ext.drew {β β' : Place} {F F' : Froz} {w w' : World} (h : Ext β β' F F' w w') : Ext β β' F F' w w'.drew := ⟨h.place, h.froz⟩

theorem heap_push_lt {w : World} {o : Obj} {k : Nat} (h : k < w.heap.size) : (w.alloc o).heap[k]? = w.heap[k]? := Below.heap_alloc w o k h
theorem heap_push_at {w : World} {o : Obj} : (w.alloc o).heap[w.heap.size]? = some o := by
  show (w.heap.push o)[w.heap.size]? = _
  simp

theorem alloc_ext {β : Place} {F : Froz} {w : World} {o : Obj} {n : Nat} {lc : Loc} (hn : β n = none) (hF : ∀ b o, F b o → b < w.heap.size) : Ext β (β.set n lc) F F w (w.alloc o) :=
  ⟨set_ext hn, fun b o hf => ⟨hf, cl_of_block (heap_push_lt (hF b o hf)) o⟩⟩

/-- A new object. -/
theorem Inv.alloc {B : Base} {β : Place} {F : Froz} {H : Heap} {w : World} (h : Inv B β F H w) {n : Nat} (hn : β n = none) {o : Obj} {lc : Loc} (hlc : lc.block = some w.heap.size) {ob : Ob}
    (hob : ObRel F (w.alloc o) (β.set n lc) lc ob) : Inv B (β.set n lc) F (H.put n (some ob)) (w.alloc o) := by
  have hF : ∀ b o, F b o → b < w.heap.size := fun b o hf => (h.froz b o hf).1
  have hext : Ext β (β.set n lc) F F w (w.alloc o) := alloc_ext hn hF
  have hsz : (w.alloc o).heap.size = w.heap.size + 1 := by show (w.heap.push o).size = _; simp
  refine ⟨h.os, h.tape, h.output, by have := h.size; omega, fun b hb => ?_, h.kin, ?_, ?_, ?_, fun b o hf => ⟨by have := hF b o hf; omega, (h.froz b o hf).2⟩, ?_⟩
  · rw [heap_push_lt (by have := h.kin b hb; have := h.size; omega)]
    exact h.keep b hb
  · intro i j oi oj l l' b hi hj hl hl' hb hb'
    unfold Place.set at hl hl'
    rw [at?_put] at hi hj
    by_cases e1 : i = n <;> by_cases e2 : j = n
    · rw [e1, e2]
    · rw [if_pos e1] at hl; rw [if_neg e2] at hl'
      cases hl
      rw [hlc] at hb; cases hb
      have := (h.fresh j l' _ hl' hb').1
      omega
    · rw [if_neg e1] at hl; rw [if_pos e2] at hl'
      cases hl'
      rw [hlc] at hb'; cases hb'
      have := (h.fresh i l _ hl hb).1
      omega
    · rw [if_neg e1] at hl hi; rw [if_neg e2] at hl' hj
      exact h.inj i j oi oj l l' b hi hj hl hl' hb hb'
  · intro i l b hl hb
    unfold Place.set at hl
    by_cases e : i = n
    · rw [if_pos e] at hl
      cases hl
      rw [hlc] at hb; cases hb
      exact ⟨by omega, fun hk => by have := h.kin _ hk; have := h.size; omega⟩
    · rw [if_neg e] at hl
      have := h.fresh i l b hl hb
      exact ⟨by omega, this.2⟩
  · intro i o' ho
    rw [at?_put] at ho
    by_cases e : i = n
    · rw [if_pos e] at ho
      cases ho
      exact ⟨lc, by unfold Place.set; rw [if_pos e], hob⟩
    · rw [if_neg e] at ho
      obtain ⟨l, h1, h2⟩ := h.obs i o' ho
      exact ⟨l, hext.place _ _ h1, h2.keep hext fun b hb => heap_push_lt (h.fresh i l b h1 hb).1⟩
  · intro i b st C st' rows frz pure hl ho o' hf
    unfold Place.set at hl
    rw [at?_put] at ho
    by_cases e : i = n
    · rw [if_pos e] at hl
      cases hl
      simp only [Loc.block, Option.some.injEq] at hlc
      have := hF _ _ hf
      omega
    · rw [if_neg e] at hl ho
      exact h.prot i b st C st' rows frz pure hl ho o' hf

/-- An object is gone. -/
theorem Inv.gone {B : Base} {β : Place} {F : Froz} {H : Heap} {w : World} (h : Inv B β F H w) (i : Nat) : Inv B β F (H.put i none) w := by
  have sub : ∀ j o, (H.put i none).at? j = some o → H.at? j = some o := by
    intro j o ho
    rw [at?_put] at ho
    split at ho
    · cases ho
    · exact ho
  exact ⟨h.os, h.tape, h.output, h.size, h.keep, h.kin, fun i j oi oj l l' b hi hj => h.inj i j oi oj l l' b (sub _ _ hi) (sub _ _ hj), h.fresh, fun i o ho => h.obs i o (sub _ _ ho), h.froz,
    fun i b st C st' rows frz pure hl ho => h.prot i b st C st' rows frz pure hl (sub _ _ ho)⟩

/-- An object's block turns. -/
theorem Inv.turn {B : Base} {β : Place} {F : Froz} {H : Heap} {w w' : World} (h : Inv B β F H w) {i b : Nat} {oi : Ob} {lc : Loc} (hi : β i = some lc) (hal : H.at? i = some oi) (hb : lc.block = some b)
    (hw : ∀ k, k ≠ b → w'.heap[k]? = w.heap[k]?) (hsz : w'.heap.size = w.heap.size) (hos : w'.os = w.os) (htape : w'.tape = w.tape) (hout : w'.output = w.output)
    (hF : ∀ o, F b o → cl w' b o = cl w b o) {ob : Ob} (hob : Ext β β F F w w' → ObRel F w' β lc ob) (hprot : ∀ st rows frz pure, ob = .buf st rows frz pure → ∀ o, F b o → frz = true ∧ o < rows.length * st) :
    Inv B β F (H.put i (some ob)) w' ∧ Ext β β F F w w' := by
  have hext : Ext β β F F w w' := ⟨fun _ _ h => h, fun b' o hf => by
    by_cases e : b' = b
    · subst e; exact ⟨hf, hF o hf⟩
    · exact ⟨hf, cl_of_block (hw b' e) o⟩⟩
  refine ⟨⟨by rw [hos, h.os], by rw [htape, h.tape], by rw [hout, h.output], by rw [hsz]; exact h.size, fun k hk => ?_, h.kin, ?_, fun j l k hl hk => by rw [hsz]; exact h.fresh j l k hl hk, ?_, fun k o hf => by rw [hsz]; exact h.froz k o hf, ?_⟩, hext⟩
  · rw [hw k (fun e => (h.fresh i lc b hi hb).2 (e ▸ hk))]
    exact h.keep k hk
  · intro j k oj ok l l' c hj hk hl hl' hc hc'
    rw [at?_put] at hj hk
    have alive : ∀ j o, (if j = i then some ob else H.at? j) = some o → ∃ o', H.at? j = some o' := by
      intro j o ho
      split at ho
      · rename_i e; exact ⟨oi, e ▸ hal⟩
      · exact ⟨o, ho⟩
    obtain ⟨oj', hj'⟩ := alive j oj hj
    obtain ⟨ok', hk'⟩ := alive k ok hk
    exact h.inj j k oj' ok' l l' c hj' hk' hl hl' hc hc'
  · intro j o ho
    rw [at?_put] at ho
    by_cases e : j = i
    · rw [if_pos e] at ho
      cases ho
      exact ⟨lc, e ▸ hi, hob hext⟩
    · rw [if_neg e] at ho
      obtain ⟨l, h1, h2⟩ := h.obs j o ho
      refine ⟨l, h1, h2.keep hext fun c hc => hw c ?_⟩
      rintro rfl
      exact e (h.inj j i o oi l lc c ho hal h1 hi hc hb)
  · intro j c st C st' rows frz pure hl ho o hf
    rw [at?_put] at ho
    by_cases e : j = i
    · rw [if_pos e] at ho
      cases ho
      rw [e, hi] at hl
      cases hl
      simp only [Loc.block, Option.some.injEq] at hb
      subst hb
      exact hprot _ _ _ _ rfl o hf
    · rw [if_neg e] at ho
      exact h.prot j c st C st' rows frz pure hl ho o hf

/-! New rows. -/
theorem anyIds_mem : ∀ {l : List V}, V.anyIds l = false ↔ ∀ v ∈ l, v.hasIds = false
  | [] => by simp [V.anyIds]
  | x :: r => by simp [V.anyIds, anyIds_mem (l := r)]

theorem rowIds_mem : ∀ {l : List (List V)}, rowIds l = false ↔ ∀ r ∈ l, ∀ v ∈ r, v.hasIds = false
  | [] => by simp [rowIds]
  | x :: r => by simp [rowIds, rowIds_mem (l := r), anyIds_mem]

theorem cl_new {w : World} {cells : Array Value} {e : TypeId} {j : Nat} (h : j < cells.size) : cl (w.alloc (.cells cells e)) w.heap.size j = some (cells.getD j undef) := by
  have := heap_push_at (w := w) (o := .cells cells e)
  simp only [cl, World.cell?, this]
  simp [h]

theorem there_new {w : World} {cells : Array Value} {e : TypeId} {n : Nat} (h : n ≤ cells.size) : (w.alloc (.cells cells e)).there w.heap.size 0 n := by
  intro j hj
  have := cl_new (w := w) (e := e) (show 0 + j < cells.size by omega)
  refine ⟨by unfold cl at this; rw [this]; rfl, ?_⟩
  have := heap_push_at (w := w) (o := .cells cells e)
  simp only [World.frozen?, this]
  simp

/-- A new row of rows. -/
theorem new_rel {F : Froz} {w : World} {β : Place} {rows : List (List V)} {cells : Array Value} {e : TypeId} {st C : Nat} {pure : Bool} (hst : 0 < st) (hsz : C * st ≤ cells.size) (hC : rows.length ≤ C) (hlen : ∀ row ∈ rows, row.length = st)
    (hcell : ∀ row ∈ rows, ∀ v ∈ row, v.isCell = true) (hpure : pure = true → ∀ row ∈ rows, ∀ v ∈ row, v.hasIds = false)
    (h : ∀ r j row v, rows[r]? = some row → row[j]? = some v → Rel F (cl (w.alloc (.cells cells e))) β v (cells.getD (r * st + j) undef)) (frz : Bool) :
    ObRel F (w.alloc (.cells cells e)) β (.at w.heap.size st C) (.buf st rows frz pure) := by
  refine .buf _ _ _ _ _ _ hst (there_new hsz) hC hlen hcell hpure fun r j row v hr hv => ⟨_, cl_new ?_, h r j row v hr hv⟩
  have h1 := (List.getElem?_eq_some_iff.1 hr).1
  have h2 := (List.getElem?_eq_some_iff.1 hv).1
  have h3 := hlen row (List.mem_of_getElem? hr)
  have : (r + 1) * st ≤ C * st := Nat.mul_le_mul_right _ (by omega)
  rw [Nat.add_mul] at this
  omega

section
variable {P : Program} {T : TT} (hT : TOK P T) {B : Base} {F : Froz} {w : World} {β : Place} {H : Heap} {l l' : List Nat} {v : V} {u : Upd}

/-- What an operation leaves. -/
structure Left (n : Nat) (B : Base) (β : Place) (F : Froz) (H : Heap) (w : World) (v : V) (u : Upd) (cv : Value) (w' : World) (β' : Place) (F' : Froz) : Prop where
  rel : Rel F' (cl w') β' v cv
  inv : Inv B β' F' (H.puts u) w'
  ext : Ext β β' F F' w w'
  only : ∀ i, β' i ≠ β i → n ≤ i ∧ β i = none ∧ ∃ o, (i, o) ∈ u

theorem Left.quiet {n : Nat} {cv : Value} (hI : Inv B β F H w) (h : Rel F (cl w) β v cv) : Left n B β F H w v [] cv w β F := ⟨h, hI, Ext.refl _ _ _, fun i h => absurd rfl h⟩

theorem set_only {n : Nat} {lc : Loc} (hn : β n = none) {ob : Ob} (hu : (n, some ob) ∈ u) : ∀ i, (β.set n lc) i ≠ β i → n ≤ i ∧ β i = none ∧ ∃ o, (i, o) ∈ u := by
  intro i hi
  unfold Place.set at hi
  split at hi
  · rename_i e
    subst e
    exact ⟨Nat.le_refl _, hn, some ob, hu⟩
  · exact absurd rfl hi

include hT in
theorem alloc_ok {n : Nat} {t : TypeId} (hI : Inv B β F H w) (h : (allocR T n t).run H l = some ((v, u), l')) (hn : β n = none) :
    ∃ cv w' β' F', (Instr.alloc t true (.tuple #[])).run P w = .ok cv w' ∧ Left n B β F H w v u cv w' β' F' := by
  unfold allocR at h
  split at h
  · rename_i ti ht
    split at h
    · simp [Rd.run] at h
    · rename_i h0
      simp only [Rd.run, Option.some.injEq, Prod.mk.injEq] at h
      obtain ⟨⟨rfl, rfl⟩, _⟩ := h
      obtain ⟨z, hz, hzok⟩ := (hT.told ht).zero (P := P) w
      have hF : ∀ b o, F b o → b < w.heap.size := fun b o hf => (hI.froz b o hf).1
      have hext : Ext β (β.set n (.at w.heap.size ti.size 1)) F F w (w.alloc (.cells z.cells t)) := alloc_ext hn hF
      obtain ⟨hzr, hzc, hzi⟩ := zOK_rel hzok F (cl (w.alloc (.cells z.cells t))) (β.set n (.at w.heap.size ti.size 1))
      have hcells := hzr.cells hzc
      have hzl := (hT.told ht).zlen
      refine ⟨.pointer (some ⟨w.heap.size, 0 * ti.size + 0, none⟩), w.alloc (.cells z.cells t), β.set n (.at w.heap.size ti.size 1), F, ?_, ⟨?_, ?_, hext, set_only hn (.head _)⟩⟩
      · simp [Instr.alloc, hz, newVar, newRow]
      · exact .ptr _ _ _ _ _ _ 1 (by simp [Place.set])
      · refine hI.alloc hn rfl (new_rel (by omega) (by have := hcells.size; omega) (by simp) (by simpa using hzl) (by simpa using hzc) (fun _ => by simpa using anyIds_mem.1 hzi) (fun r j row v hr hv => ?_) false)
        have hr0 : r = 0 := by have := (List.getElem?_eq_some_iff.1 hr).1; simp at this; omega
        subst hr0
        simp only [List.getElem?_cons_zero, Option.some.injEq] at hr
        subst hr
        simpa using hcells.at_ j v hv
  · simp [Rd.run] at h

theorem box_ok {n : Nat} {t : TypeId} {x : V} {cx : Value} (hI : Inv B β F H w) (h : (boxR n x).run H l = some ((v, u), l')) (hx : Rel F (cl w) β x cx) (hn : β n = none) :
    ∃ cv w' β' F', (Instr.box t cx).run P w = .ok cv w' ∧ Left n B β F H w v u cv w' β' F' := by
  unfold boxR at h
  split at h
  · rename_i hc
    obtain ⟨hall, h0⟩ := hc
    simp only [Rd.run, Option.some.injEq, Prod.mk.injEq] at h
    obtain ⟨⟨rfl, rfl⟩, _⟩ := h
    have hF : ∀ b o, F b o → b < w.heap.size := fun b o hf => (hI.froz b o hf).1
    have hext : Ext β (β.set n (.at w.heap.size x.cells.length 1)) F F w (w.alloc (.cells cx.cells t)) := alloc_ext hn hF
    have hcells := hext.all (hx.cells hall)
    refine ⟨.pointer (some ⟨w.heap.size, 0 * x.cells.length + 0, none⟩), w.alloc (.cells cx.cells t), β.set n (.at w.heap.size x.cells.length 1), F, ?_, ⟨?_, ?_, hext, set_only hn (.head _)⟩⟩
    · simp [Instr.box, newVar, newRow]
    · exact .ptr _ _ _ _ _ _ 1 (by simp [Place.set])
    · refine hI.alloc hn rfl (new_rel (by omega) (by have := hcells.size; omega) (by simp) (by simp) (by simpa using hall) (fun hp => by simpa using anyIds_mem.1 (by simpa using hp)) (fun r j row v hr hv => ?_) false)
      have hr0 : r = 0 := by have := (List.getElem?_eq_some_iff.1 hr).1; simp at this; omega
      subst hr0
      simp only [List.getElem?_cons_zero, Option.some.injEq] at hr
      subst hr
      simpa using hcells.at_ j v hv
  · simp [Rd.run] at h

theorem makeMap_ok {n : Nat} {t : TypeId} (hI : Inv B β F H w) (hn : β n = none) :
    ∃ cv w' β' F', (Instr.makeMap t none).run P w = .ok cv w' ∧ Left n B β F H w (.map n) [(n, some (.mp [] true))] cv w' β' F' := by
  have hF : ∀ b o, F b o → b < w.heap.size := fun b o hf => (hI.froz b o hf).1
  refine ⟨.map (some w.heap.size), w.alloc (.map #[] 0), β.set n (.mp w.heap.size), F, rfl, ⟨?_, ?_, alloc_ext hn hF, set_only hn (.head _)⟩⟩
  · exact .map _ _ _ (by simp [Place.set])
  · exact hI.alloc hn rfl (.mp _ _ _ #[] 0 heap_push_at rfl (by simp) (by simp))
end

/-! Cells written. -/
theorem setCells_heap (b : Nat) : ∀ (vs : List Value) (o : Nat) (w : World), (w.setCells b o vs).heap.size = w.heap.size ∧ (∀ k, k ≠ b → (w.setCells b o vs).heap[k]? = w.heap[k]?) ∧ (w.setCells b o vs).os = w.os ∧ (w.setCells b o vs).tape = w.tape ∧ (w.setCells b o vs).output = w.output
  | [], _, _ => ⟨rfl, fun _ _ => rfl, rfl, rfl, rfl⟩
  | v :: r, o, w => by
    obtain ⟨h1, h2, h3, h4, h5⟩ := setCells_heap b r (o + 1) (w.setCell ⟨b, o, none⟩ v)
    refine ⟨by rw [World.setCells, h1]; simp [World.setCell], fun k hk => ?_, by rw [World.setCells, h3]; rfl, by rw [World.setCells, h4]; rfl, by rw [World.setCells, h5]; rfl⟩
    rw [World.setCells, h2 k hk]
    exact Below.heap_setCell w ⟨b, o, none⟩ v k hk

theorem cl_setCells_in {w : World} {b o : Nat} {vs : List Value} (h : w.there b o vs.length) {j : Nat} (hj : j < vs.length) : cl (w.setCells b o vs) b (o + j) = some (vs.getD j undef) := by
  have := World.cell?_setCells_in b vs o w (fun i hi => (h i hi).1) j hj
  unfold cl
  rw [this]
  simp [hj]

theorem cl_setCells_out {w : World} {b o : Nat} {vs : List Value} {k : Nat} (h : k < o ∨ o + vs.length ≤ k) : cl (w.setCells b o vs) b k = cl w b k :=
  World.cell?_setCells_out b vs o w ⟨b, k, none⟩ fun _ _ => h

theorem there_sub {w : World} {b n q m : Nat} (h : w.there b 0 n) (hq : q + m ≤ n) : w.there b q m := fun j hj => by
  have := h (q + j) (by omega)
  rwa [Nat.zero_add] at this

theorem ObRel.write {F : Froz} {w : World} {β : Place} {b st C : Nat} {rows rows' : List (List V)} {frz frz' p p' : Bool} (h : ObRel F w β (.at b st C) (.buf st rows frz p)) {vs : List Value} {q : Nat} (hq : q + vs.length ≤ C * st)
    (hx : Ext β β F F w (w.setCells b q vs)) (hC' : rows'.length ≤ C) (hlen' : ∀ row ∈ rows', row.length = st) (hcell' : ∀ row ∈ rows', ∀ v ∈ row, v.isCell = true) (hpure' : p' = true → ∀ row ∈ rows', ∀ v ∈ row, v.hasIds = false)
    (hr : ∀ r j row v, rows'[r]? = some row → row[j]? = some v → if q ≤ r * st + j ∧ r * st + j < q + vs.length then Rel F (cl w) β v (vs.getD (r * st + j - q) undef) else ∃ row0, rows[r]? = some row0 ∧ row0[j]? = some v) :
    ObRel F (w.setCells b q vs) β (.at b st C) (.buf st rows' frz' p') := by
  cases h with
  | buf _ _ _ _ _ _ hst ht hC hlen hcell hpure h =>
    refine .buf _ _ _ _ _ _ hst (World.there_setCells ht b q vs) hC' hlen' hcell' hpure' fun r j row v hrow hv => ?_
    have := hr r j row v hrow hv
    split at this
    · rename_i hin
      refine ⟨_, ?_, hx.rel this⟩
      have := cl_setCells_in (there_sub ht hq) (j := r * st + j - q) (by omega)
      rwa [show q + (r * st + j - q) = r * st + j by omega] at this
    · rename_i hout
      obtain ⟨row0, h1, h2⟩ := this
      obtain ⟨cv, h3, h4⟩ := h r j row0 v h1 h2
      exact ⟨cv, by rw [cl_setCells_out (by omega)]; exact h3, hx.rel h4⟩

section
variable {P : Program} {T : TT} (hT : TOK P T) {B : Base} {F : Froz} {w : World} {β : Place} {H : Heap} {l l' : List Nat} {v : V} {u : Upd}

include hT in
theorem store_ok {n : Nat} {t : TypeId} {a x : V} {ca cx : Value} (hI : Inv B β F H w) (h : (storeR T t a x).run H l = some ((v, u), l')) (ha : Rel F (cl w) β a ca) (hx : Rel F (cl w) β x cx) :
    ∃ w' β' F', (Instr.storeAt t ca cx).run P w = .ok () w' ∧ Left n B β F H w v u undef w' β' F' := by
  unfold storeR at h
  split at h
  · simp [Rd.run] at h
  · rename_i ti ht
    split at h
    · rename_i i r off
      simp only [Rd.run] at h
      split at h
      · rename_i ob hob
        split at h
        · rename_i st rows p
          split at h
          · rename_i row hrow
            split at h
            · rename_i hc
              obtain ⟨c1, c2, c3⟩ := hc
              simp only [Rd.run, Option.some.injEq, Prod.mk.injEq] at h
              obtain ⟨⟨rfl, rfl⟩, _⟩ := h
              cases ha with
              | ptr _ _ _ _ b st' C hb =>
                obtain ⟨lc, hl, ho⟩ := hI.obs _ _ hob
                rw [hb] at hl
                cases hl
                have ho' := ho
                cases ho with
                | buf _ _ _ _ _ _ hst hthere hC hlen hcell hpure hr =>
                  have hcx := hx.cells c3
                  have hrl := hlen row (List.mem_of_getElem? hrow)
                  have hrlt := (List.getElem?_eq_some_iff.1 hrow).1
                  have hvl : cx.cells.toList.length = ti.size := by simp [hcx.size, c1]
                  have hin : (r * st + off) + cx.cells.toList.length ≤ C * st := by
                    have : (r + 1) * st ≤ C * st := Nat.mul_le_mul_right _ (by omega)
                    rw [Nat.add_mul] at this
                    omega
                  have hrun : (Instr.storeAt t (.pointer (some ⟨b, r * st + off, none⟩)) cx).run P w = .ok () (w.setCells b (r * st + off) cx.cells.toList) := by
                    have hs := run_storeCells_cells (P := P) b (r * st + off) cx.cells.toList 0 w (fun j hj => by simpa using (there_sub hthere hin j hj).1) (fun j hj => by simpa using (there_sub hthere hin j hj).2) (fun u hu => by
                      obtain ⟨j, hj⟩ := List.mem_iff_getElem?.1 hu
                      have hjl := (List.getElem?_eq_some_iff.1 hj).1
                      have hvj : x.cells[j]? = some (x.cells[j]'(by omega)) := by simp
                      have h1 := hcx.at_ j _ hvj
                      have h2 : cx.cells.getD j undef = u := by
                        rw [Array.getD_eq_getD_getElem?, ← Array.getElem?_toList, hj]; rfl
                      rw [h2] at h1
                      have := h1.one (by simp only [List.all_eq_true] at c3; exact c3 _ (List.getElem_mem _))
                      cases u <;> first | rfl | (simp [oneCell] at this))
                    simp only [Nat.add_zero] at hs
                    have hsz : cx.cells.size = ti.size := by rw [hcx.size, c1]
                    simp [Instr.storeAt, Instr.sureAddr, storeVar, (hT.told ht).sizeOf w, hsz, hs]
                  have hnoF : ∀ o, ¬ F b o := fun o hf => by
                    have := (hI.prot _ _ _ _ _ _ _ _ hb hob o hf).1
                    cases this
                  obtain ⟨s1, s2, s3, s4, s5⟩ := setCells_heap b cx.cells.toList (r * st + off) w
                  obtain ⟨g1, g2⟩ := hI.turn hb hob rfl s2 s1 s3 s4 s5 (fun o hf => absurd hf (hnoF o)) (ob := .buf st (rows.set r (overwrite row off x.cells)) false (p && !V.anyIds x.cells)) (fun hx' => by
                    have hoc : off + x.cells.length ≤ row.length := by omega
                    refine ObRel.write ho' hin hx' (by simpa using hC) (fun row' hm => ?_) (fun row' hm => ?_) (fun hp row' hm => ?_) (fun r' j row' v hr' hv => ?_)
                    · rcases List.mem_or_eq_of_mem_set hm with h | rfl
                      · exact hlen _ h
                      · rw [over_len hoc, hrl]
                    · rcases List.mem_or_eq_of_mem_set hm with h | rfl
                      · exact hcell _ h
                      · intro v hv
                        rcases over_mem hv with h | h
                        · exact hcell row (List.mem_of_getElem? hrow) v h
                        · simp only [List.all_eq_true] at c3; exact c3 v h
                    · simp only [Bool.and_eq_true, Bool.not_eq_true'] at hp
                      rcases List.mem_or_eq_of_mem_set hm with h | rfl
                      · exact hpure hp.1 _ h
                      · intro v hv
                        rcases over_mem hv with h | h
                        · exact hpure hp.1 row (List.mem_of_getElem? hrow) v h
                        · exact anyIds_mem.1 hp.2 v h
                    · rw [List.getElem?_set] at hr'
                      by_cases e : r = r'
                      · subst e
                        rw [if_pos rfl, if_pos hrlt] at hr'
                        cases hr'
                        rw [over_get hoc] at hv
                        by_cases hj : off ≤ j ∧ j < off + x.cells.length
                        · rw [if_pos hj] at hv
                          rw [if_pos (by omega)]
                          have := hcx.at_ _ _ hv
                          rw [show r * st + j - (r * st + off) = j - off by omega]
                          rwa [Array.getD_eq_getD_getElem?, ← Array.getElem?_toList, ← List.getD_eq_getElem?_getD] at this
                        · rw [if_neg hj] at hv
                          rw [if_neg (by omega)]
                          exact ⟨row, hrow, hv⟩
                      · rw [if_neg e] at hr'
                        have hjl := (List.getElem?_eq_some_iff.1 hv).1
                        have hrl' := hlen row' (List.mem_of_getElem? hr')
                        have hne : ¬ (r * st + off ≤ r' * st + j ∧ r' * st + j < r * st + off + cx.cells.toList.length) := by
                          rcases Nat.lt_or_gt_of_ne e with hlt | hgt
                          · have : (r + 1) * st ≤ r' * st := Nat.mul_le_mul_right _ hlt
                            rw [Nat.add_mul] at this
                            omega
                          · have : (r' + 1) * st ≤ r * st := Nat.mul_le_mul_right _ hgt
                            rw [Nat.add_mul] at this
                            omega
                        rw [if_neg hne]
                        exact ⟨row', hr', hv⟩) (fun _ _ _ _ _ o hf => absurd hf (hnoF o))
                  exact ⟨_, β, F, hrun, ⟨.undef _ _, g1, g2, fun i h => absurd rfl h⟩⟩
            · simp [Rd.run] at h
          · simp [Rd.run] at h
        · simp [Rd.run] at h
      · simp at h
    · simp [Rd.run] at h
end

end Go.Proofs.Ytfdemnefkfkghaa.R
