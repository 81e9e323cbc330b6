/- Calls. -/
import Derived.Test.YtfdemnefkfkghaaRI
namespace Go.Proofs.Ytfdemnefkfkghaa.R
set_option linter.unusedVariables false
set_option linter.unusedSimpArgs false
open Go Go.RowKit

/-- The blocks that a call leaves as they are: those of none of its objects. -/
def KOf (β : Place) (w : World) : Nat → Prop := fun b => b < w.heap.size ∧ ∀ i l, β i = some l → l.block ≠ some b

/-- Behind a call. -/
structure Post (w : World) (β : Place) (F : Froz) (r : V) (h : Heap) (cv : Value) (w' : World) (β' : Place) (F' : Froz) : Prop where
  rel : Rel F' (cl w') β' r cv
  inv : Inv ⟨w, KOf β w, F⟩ β' F' h w'
  ext : Ext β β' F F' w w'

/-- What the machine says of a function is so. -/
def FunOK (P : Program) (g : FuncId) (fn : Fun) : Prop := ∀ (args : List V) (hs : List Ob) (r : V) (h : Heap), fn args hs = some (r, h) → ∀ (β : Place) (F : Froz) (w : World) (cargs : Array Value),
  Inv ⟨w, KOf β w, F⟩ β F (hs.map some) w → (∀ i, hs.length ≤ i → β i = none) → RelAll F (cl w) β args cargs →
    Calls P g cargs w fun e w' => ∃ cv β' F', e = .returned cv ∧ Post w β F r h cv w' β' F'

theorem collect_ok {α : Type} {H : Heap} : ∀ (n : Nat) (todo : List Nat) (acc : List (Nat × Ob)) (k : List (Nat × Ob) → Rd α) (l : List Nat) (res : α × List Nat), (collect n todo acc k).run H l = some res → (acc.map (·.1)).Nodup → (∀ p ∈ acc, H.at? p.1 = some p.2) →
    ∃ obs l1, (k obs).run H l1 = some res ∧ (obs.map (·.1)).Nodup ∧ ∀ p ∈ obs, H.at? p.1 = some p.2
  | 0, _, _, _, _, _, h, _, _ => by simp [collect, Rd.run] at h
  | n + 1, [], acc, k, l, res, h, h1, h2 => by
    simp only [collect] at h
    exact ⟨acc, l, h, h1, h2⟩
  | n + 1, i :: todo, acc, k, l, res, h, h1, h2 => by
    simp only [collect] at h
    split at h
    · exact collect_ok n todo acc k l res h h1 h2
    · rename_i hc
      simp only [Rd.run] at h
      split at h
      · rename_i o ho
        refine collect_ok n _ _ k _ res h ?_ fun p hp => ?_
        · rw [List.map_append]
          exact nodup_snoc h1 hc
        · rcases List.mem_append.1 hp with h | h
          · exact h2 p h
          · simp only [List.mem_singleton] at h
            subst h
            exact ho
      · cases h

theorem pullObs_get {f : Nat → Option Nat} : ∀ {l : List (Nat × Ob)} {h' : List Ob}, pullObs f l = some h' → h'.length = l.length ∧ ∀ (j : Nat) (o' : Ob), h'[j]? = some o' → ∃ p, l[j]? = some p ∧ p.2.re f = some o'
  | [], h', h => by
    simp only [pullObs, Option.some.injEq] at h
    subst h
    exact ⟨rfl, by simp⟩
  | (i, o) :: r, h', h => by
    simp only [pullObs, Option.bind_eq_some_iff, Option.map_eq_some_iff] at h
    obtain ⟨o', h1, h2, h3, rfl⟩ := h
    obtain ⟨hl, hg⟩ := pullObs_get h3
    refine ⟨by simp [hl], fun j oj hj => ?_⟩
    cases j with
    | zero =>
      simp only [List.getElem?_cons_zero, Option.some.injEq] at hj
      subst hj
      exact ⟨(i, o), rfl, h1⟩
    | succ j => simpa using hg j oj (by simpa using hj)

theorem at?_map_some (l : List Ob) (i : Nat) : Heap.at? (l.map some) i = l[i]? := by
  rw [at?_eq]
  simp only [List.getElem?_map]
  cases l[i]? <;> rfl

/-! What is written back. -/
theorem puts_append : ∀ (u v : Upd) (h : Heap), h.puts (u ++ v) = (h.puts u).puts v
  | [], v, h => rfl
  | (i, o) :: r, v, h => by simp [Heap.puts, puts_append r v]

theorem puts_other : ∀ (u : Upd) (h : Heap) (i : Nat), (∀ p ∈ u, p.1 ≠ i) → (h.puts u).at? i = h.at? i
  | [], h, i, _ => rfl
  | (j, o) :: r, h, i, hi => by
    simp only [Heap.puts]
    rw [puts_other r _ i fun p hp => hi p (.tail _ hp), at?_put, if_neg (fun e => hi (j, o) (.head _) e.symm)]

theorem puts_at : ∀ (u : Upd) (h : Heap) (i : Nat) (o : Option Ob), (i, o) ∈ u → (∀ q ∈ u, q.1 = i → q.2 = o) → (h.puts u).at? i = o
  | [], h, i, o, hm, _ => by cases hm
  | (j, oj) :: r, h, i, o, hm, hq => by
    simp only [Heap.puts]
    by_cases hr : ∃ p ∈ r, p.1 = i
    · obtain ⟨p, hp, hpi⟩ := hr
      have := hq p (.tail _ hp) hpi
      exact puts_at r _ i o (by rw [← this, ← hpi]; exact hp) fun q hq' => hq q (.tail _ hq')
    · rw [puts_other r _ i fun p hp e => hr ⟨p, hp, e⟩, at?_put]
      cases hm with
      | head => simp
      | tail _ hm => exact absurd ⟨(i, o), hm, rfl⟩ hr

/-- The last one that turns it tells what it is. -/
theorem puts_some : ∀ (u : Upd) (i : Nat), (∃ p ∈ u, p.1 = i) → ∃ p ∈ u, p.1 = i ∧ ∀ h : Heap, (h.puts u).at? i = p.2
  | [], i, h => by obtain ⟨p, hp, _⟩ := h; simp at hp
  | (j, oj) :: r, i, h => by
    by_cases hr : ∃ p ∈ r, p.1 = i
    · obtain ⟨p, hp, e, hh⟩ := puts_some r i hr
      exact ⟨p, .tail _ hp, e, fun h => by simp only [Heap.puts]; exact hh _⟩
    · obtain ⟨p, hp, e⟩ := h
      rcases List.mem_cons.1 hp with rfl | hp
      · refine ⟨_, .head _, e, fun h => ?_⟩
        simp only [Heap.puts]
        simp only at e
        rw [puts_other r _ i fun p hp e => hr ⟨p, hp, e⟩, at?_put, if_pos e.symm]
      · exact absurd ⟨p, hp, e⟩ hr

theorem pushObs_get {f : Nat → Option Nat} : ∀ {l : List (Option Ob)} {j : Nat} {us : Upd}, pushObs f l j = some us →
    (∀ k o, l[k]? = some o → ∃ i, f (j + k) = some i ∧ ((o = none ∧ (i, none) ∈ us) ∨ ∃ ob ob', o = some ob ∧ ob.re f = some ob' ∧ (i, some ob') ∈ us)) ∧
    (∀ p ∈ us, ∃ k o, l[k]? = some o ∧ f (j + k) = some p.1 ∧ ((o = none ∧ p.2 = none) ∨ ∃ ob ob', o = some ob ∧ ob.re f = some ob' ∧ p.2 = some ob'))
  | [], j, us, h => by
    simp only [pushObs, Option.some.injEq] at h
    subst h
    exact ⟨by simp, by simp⟩
  | o :: r, j, us, h => by
    unfold pushObs at h
    split at h
    · rename_i i ob hf
      simp only [Option.bind_eq_some_iff, Option.map_eq_some_iff] at h
      obtain ⟨ob', h1, us', h2, rfl⟩ := h
      obtain ⟨g1, g2⟩ := pushObs_get h2
      refine ⟨fun k o hk => ?_, fun p hp => ?_⟩
      · cases k with
        | zero =>
          simp only [List.getElem?_cons_zero, Option.some.injEq] at hk
          subst hk
          exact ⟨i, hf, .inr ⟨ob, ob', rfl, h1, .head _⟩⟩
        | succ k =>
          obtain ⟨i', a, b⟩ := g1 k o (by simpa using hk)
          rw [show j + 1 + k = j + (k + 1) by omega] at a
          refine ⟨i', a, ?_⟩
          rcases b with ⟨b1, b2⟩ | ⟨x, x', b1, b2, b3⟩
          · exact .inl ⟨b1, .tail _ b2⟩
          · exact .inr ⟨x, x', b1, b2, .tail _ b3⟩
      · cases hp with
        | head => exact ⟨0, some ob, rfl, hf, .inr ⟨ob, ob', rfl, h1, rfl⟩⟩
        | tail _ hp =>
          obtain ⟨k, o, a, b, c⟩ := g2 p hp
          exact ⟨k + 1, o, by simpa using a, by rw [show j + (k + 1) = j + 1 + k by omega]; exact b, c⟩
    · rename_i i hf
      simp only [Option.map_eq_some_iff] at h
      obtain ⟨us', h2, rfl⟩ := h
      obtain ⟨g1, g2⟩ := pushObs_get h2
      refine ⟨fun k o hk => ?_, fun p hp => ?_⟩
      · cases k with
        | zero =>
          simp only [List.getElem?_cons_zero, Option.some.injEq] at hk
          subst hk
          exact ⟨i, hf, .inl ⟨rfl, .head _⟩⟩
        | succ k =>
          obtain ⟨i', a, b⟩ := g1 k o (by simpa using hk)
          rw [show j + 1 + k = j + (k + 1) by omega] at a
          refine ⟨i', a, ?_⟩
          rcases b with ⟨b1, b2⟩ | ⟨x, x', b1, b2, b3⟩
          · exact .inl ⟨b1, .tail _ b2⟩
          · exact .inr ⟨x, x', b1, b2, .tail _ b3⟩
      · cases hp with
        | head => exact ⟨0, none, rfl, hf, .inl ⟨rfl, rfl⟩⟩
        | tail _ hp =>
          obtain ⟨k, o, a, b, c⟩ := g2 p hp
          exact ⟨k + 1, o, by simpa using a, by rw [show j + (k + 1) = j + 1 + k by omega]; exact b, c⟩
    · cases h

theorem back_inj {l : List Nat} {n m : Nat} (hl : l.Nodup) (hlt : ∀ i ∈ l, i < n) {j k i : Nat} (h1 : back l n m j = some i) (h2 : back l n m k = some i) : j = k := by
  unfold back at h1 h2
  rw [nth_eq] at h1 h2
  split at h1
  · rename_i a ha
    cases h1
    split at h2
    · rename_i b hb
      cases h2
      exact nodup_at hl ha hb
    · split at h2
      · have := hlt i (List.mem_of_getElem? ha)
        simp at h2
        omega
      · cases h2
  · rename_i ha
    split at h1
    · split at h2
      · rename_i b hb
        cases h2
        have := hlt i (List.mem_of_getElem? hb)
        simp at h1
        omega
      · rename_i hb
        split at h2
        · simp at h1 h2 ha hb
          omega
        · cases h2
    · cases h1

theorem Rel.noFz {F F' : Froz} {c c' : Nat → Nat → Option Value} {β : Place} {v : V} {cv : Value} (h : Rel F c β v cv) : v.noFz = true → Rel F' c' β v cv := by
  have all : ∀ {l : List V}, V.allNoFz l = true → ∀ (j : Nat) (v : V), l[j]? = some v → v.noFz = true := by
    intro l
    induction l with
    | nil => intro _ j v hv; simp at hv
    | cons x r ih =>
      intro h j v hv
      simp only [V.allNoFz, Bool.and_eq_true] at h
      cases j with
      | zero => simp at hv; exact hv ▸ h.1
      | succ j => exact ih h.2 j v (by simpa using hv)
  induction h with
  | undef β v => intro _; exact .undef _ _
  | bool β b => intro _; exact .bool _ _
  | int β k n => intro _; exact .int _ _ _
  | str β s => intro _; exact .str _ _
  | nils β => intro _; exact .nils _
  | fz0 β a cap => intro _; exact .fz0 _ _ _
  | fz β rows b o st cap g hl hst hcell hF h ih =>
    intro hv
    cases rows with
    | nil => exact .fz0 _ _ _
    | cons a r => simp [V.noFz] at hv
  | ms0 β i st cap h hc => intro _; exact .ms0 _ _ _ _ h hc
  | ms β i st off len cap b C cc o h hc hlen hcap hnone ho => intro _; exact .ms _ _ _ _ _ _ b C cc o h hc hlen hcap hnone ho
  | nilp β => intro _; exact .nilp _
  | ptr β i row off b st C h => intro _; exact .ptr _ _ _ _ _ _ C h
  | el β row off b base g hcell hF h ih => intro hv; simp [V.noFz] at hv
  | nilm β => intro _; exact .nilm _
  | map β i b h => intro _; exact .map _ _ _ h
  | nilf β => intro _; exact .nilf _
  | clo β f caps cvs hs h ih => intro hv; exact .clo _ _ _ _ hs fun j v hj => ih j v hj (all (by simpa [V.noFz] using hv) j v hj)
  | nili β => intro _; exact .nili _
  | ifc β t v cv h ih => intro hv; exact .ifc _ _ _ _ (ih (by simpa [V.noFz] using hv))
  | agg β cs cvs hs h ih => intro hv; exact .agg _ _ _ hs fun j v hj => ih j v hj (all (by simpa [V.noFz] using hv) j v hj)
  | tup β vs cvs hs h ih => intro hv; exact .tup _ _ _ hs fun j v hj => ih j v hj (all (by simpa [V.noFz] using hv) j v hj)

section
variable {P : Program} {B : Base} {F : Froz} {w : World} {β : Place} {H : Heap} {l l' : List Nat} {v : V} {u : Upd}

/-- Where objects stand, some of them frozen. -/
theorem Inv.also (hI : Inv B β F H w) {u : Upd} (hu : FrzUpd F w β H u) : Inv B β (Also F β u) (H.puts u) w := by
  have cases_ : ∀ i o, (H.puts u).at? i = some o → (∃ st rows0 rows fz p0, (i, some (.buf st rows true true)) ∈ u ∧ H.at? i = some (.buf st rows0 fz p0) ∧ o = .buf st rows true true ∧ rows.length = rows0.length ∧ ∀ lc, β i = some lc → ObRel (Also F β u) w β lc o) ∨ ((∀ p ∈ u, p.1 ≠ i) ∧ H.at? i = some o) := by
    intro i o ho
    by_cases hm : ∃ p ∈ u, p.1 = i
    · obtain ⟨p, hp, rfl, hh⟩ := puts_some u i hm
      obtain ⟨st, rows0, rows, fz, p0, h1, h2, h3, h4⟩ := hu p hp
      rw [hh, h2] at ho
      cases ho
      exact .inl ⟨st, rows0, rows, fz, p0, by rw [← h2]; exact hp, h1, rfl, h3, h4⟩
    · have hno : ∀ p ∈ u, p.1 ≠ i := fun p hp e => hm ⟨p, hp, e⟩
      rw [puts_other u H i hno] at ho
      exact .inr ⟨hno, ho⟩
  have hx : Ext β β F (Also F β u) w w := ⟨fun _ _ h => h, fun b o hf => ⟨.inl hf, rfl⟩⟩
  have alive : ∀ i o, (H.puts u).at? i = some o → ∃ o', H.at? i = some o' := by
    intro i o ho
    rcases cases_ i o ho with ⟨st, rows0, rows, fz, p0, _, h1, _⟩ | ⟨_, h1⟩
    · exact ⟨_, h1⟩
    · exact ⟨_, h1⟩
  refine ⟨hI.os, hI.tape, hI.output, hI.size, hI.keep, hI.kin, ?_, hI.fresh, ?_, ?_, ?_⟩
  · intro i j oi oj l l' b hi hj
    obtain ⟨oi', hi'⟩ := alive i oi hi
    obtain ⟨oj', hj'⟩ := alive j oj hj
    exact hI.inj i j oi' oj' l l' b hi' hj'
  · intro i o ho
    rcases cases_ i o ho with ⟨st, rows0, rows, fz, p0, hm, h1, h2, h3, h4⟩ | ⟨_, h1⟩
    · obtain ⟨lc, h5, _⟩ := hI.obs i _ h1
      exact ⟨lc, h5, h4 lc h5⟩
    · obtain ⟨lc, h2, h3⟩ := hI.obs i o h1
      exact ⟨lc, h2, h3.keep hx fun _ _ => rfl⟩
  · intro b o hf
    rcases hf with hf | ⟨i, st, rows, C, h1, h2, h3⟩
    · exact hI.froz b o hf
    · have := hI.fresh i _ b h2 rfl
      exact ⟨this.1, fun hk => absurd hk this.2⟩
  · intro i b st C st' rows frz pure hl ho o hf
    rcases hf with hf | ⟨k, st2, rows2, C2, g1, g2, g3⟩
    · rcases cases_ i _ ho with ⟨st3, rows0, rows3, fz, p0, _, h1, h2, h3, _⟩ | ⟨_, h1⟩
      · cases h2
        have := hI.prot i b st C _ _ _ _ hl h1 o hf
        exact ⟨rfl, by rw [h3]; exact this.2⟩
      · exact hI.prot i b st C _ _ _ _ hl h1 o hf
    · obtain ⟨st4, rows40, rows4, fz4, p4, k1, k2, k3, _⟩ := hu _ g1
      cases k2
      obtain ⟨oi', hi'⟩ := alive i _ ho
      have e : k = i := hI.inj k i _ _ _ _ b k1 hi' g2 hl rfl rfl
      subst e
      rcases cases_ k _ ho with ⟨st3, rows30, rows3, fz, p0, _, h1, h2, h3, _⟩ | ⟨hno, _⟩
      · cases h2
        simp only at k1
        rw [k1] at h1
        cases h1
        exact ⟨rfl, by rw [h3, ← k3]; exact g3⟩
      · exact absurd rfl (hno _ g1)

theorem idx_mem {l : List Nat} {i : Nat} (h : i ∈ l) : ∃ j, idx l i = some j := by
  induction l with
  | nil => cases h
  | cons x r ih =>
    unfold idx
    cases hb : Nat.beq x i
    · simp only [cond_false]
      cases h with
      | head => rw [Nat.beq_refl] at hb; cases hb
      | tail _ h =>
        obtain ⟨j, hj⟩ := ih h
        exact ⟨j + 1, by simp [hj]⟩
    · exact ⟨0, rfl⟩

theorem Inv.base (hI : Inv B β F H w) : Inv ⟨w, KOf β w, F⟩ β F H w :=
  ⟨rfl, rfl, rfl, Nat.le_refl _, fun _ _ => rfl, fun _ h => h.1, hI.inj, fun i l b hl hb => ⟨(hI.fresh i l b hl hb).1, fun hk => hk.2 i l hl hb⟩, hI.obs, fun b o hf => ⟨(hI.froz b o hf).1, fun _ => hf⟩, hI.prot⟩

theorem with_ok {g : FuncId} {fn : Fun} (hfn : FunOK P g fn) (hI : Inv B β F H w) {n : Nat} {u0 : Upd} (hu0 : FrzUpd F w β H u0) {args : List V} {cargs : Array Value} (hargs : RelAll (Also F β u0) (cl w) β args cargs) {obs : List (Nat × Ob)} (hnd : (obs.map (·.1)).Nodup) (hobs : ∀ p ∈ obs, H.at? p.1 = some p.2)
    (h : (withR fn n args u0 obs).run H l = some ((v, u), l')) (hfresh : ∀ p ∈ u, n ≤ p.1 → β p.1 = none) :
    Calls P g cargs w fun e w' => ∃ cv β' F', e = .returned cv ∧ Left n B β F H w v u cv w' β' F' := by
  unfold withR at h
  simp only at h
  split at h
  · rename_i hc
    simp only [Bool.and_eq_true] at hc
    obtain ⟨hdis, hlt⟩ := hc
    generalize hL : obs.map (·.1) = L at *
    have hdis' : ∀ p ∈ u0, p.1 ∉ L := fun p hp hm => by
      unfold upd1 at hdis
      simp only [List.all_eq_true] at hdis
      have := hdis p hp
      simp [hm] at this
    have hlt' : ∀ i ∈ L, i < n := by simpa using hlt
    split at h
    · rename_i args2 hs hargs2 hhs
      split at h
      · rename_i r hp hcall
        split at h
        · rename_i hlen
          obtain ⟨q1, q2⟩ := pullObs_get hhs
          have hLl : L.length = obs.length := by rw [← hL]; simp
          have hLget : ∀ (j : Nat) (p : Nat × Ob), obs[j]? = some p → L[j]? = some p.1 := fun j p hj => by rw [← hL]; simp [hj]
          have hA := hI.also hu0
          have hAobs : ∀ p ∈ obs, (H.puts u0).at? p.1 = some p.2 := fun p hp => by
            rw [puts_other u0 H p.1 fun q hq e => hdis' q hq (by rw [e, ← hL]; exact List.mem_map_of_mem hp)]
            exact hobs p hp
          -- the callee's view
          let βc : Place := fun j => (L[j]?).bind β
          have hIc : Inv B βc (Also F β u0) (hs.map some) w := hA.renum (fun j => L[j]?) (idx L) (fun i j h => idx_get h) (fun j k i h1 h2 => nodup_at hnd h1 h2) fun j o' ho => by
            rw [at?_map_some] at ho
            obtain ⟨p, h1, h2⟩ := q2 j o' ho
            exact ⟨p.1, p.2, hLget j p h1, hAobs p (List.mem_of_getElem? h1), h2⟩
          have hcnone : ∀ i, hs.length ≤ i → βc i = none := fun i hi => by
            have : L[i]? = none := by rw [List.getElem?_eq_none]; omega
            simp [βc, this]
          obtain ⟨r1, r2⟩ := reAll_get hargs2
          have hargsc : RelAll (Also F β u0) (cl w) βc args2 cargs := ⟨by rw [hargs.size, r1], fun j v hj => by
            obtain ⟨x, h1, h2⟩ := r2 j v hj
            exact (hargs.at_ j x h1).re (fun i k hk => by simp [βc, idx_get hk]) h2⟩
          refine (hfn args2 hs r hp hcall βc (Also F β u0) w cargs hIc.base hcnone hargsc).mono ?_
          rintro e w' ⟨cv, β2, F2, rfl, hpost⟩
          -- which blocks stay
          have lalive : ∀ j i, L[j]? = some i → ∃ o, (H.puts u0).at? i = some o ∧ H.at? i = some o := fun j i hj => by
            rw [← hL, List.getElem?_map, Option.map_eq_some_iff] at hj
            obtain ⟨p, h1, rfl⟩ := hj
            exact ⟨p.2, hAobs p (List.mem_of_getElem? h1), hobs p (List.mem_of_getElem? h1)⟩
          have kb : ∀ b, B.K b → KOf βc w b := fun b hb => ⟨Nat.lt_of_lt_of_le (hI.kin b hb) hI.size, fun j lc hj hlc => by
            simp only [βc, Option.bind_eq_some_iff] at hj
            obtain ⟨i, _, h2⟩ := hj
            exact (hI.fresh i lc b h2 hlc).2 hb⟩
          have ko : ∀ i o lc b, (H.puts u0).at? i = some o → i ∉ L → β i = some lc → lc.block = some b → KOf βc w b := fun i o lc b ho hi hl hb => ⟨(hI.fresh i lc b hl hb).1, fun j lc' hj hlc => by
            simp only [βc, Option.bind_eq_some_iff] at hj
            obtain ⟨i', h1, h2⟩ := hj
            obtain ⟨o', h3, _⟩ := lalive j i' h1
            exact hi (hA.inj i i' o o' lc lc' b ho h3 hl h2 hb hlc ▸ List.mem_of_getElem? h1)⟩
          have same : ∀ b, KOf βc w b → w'.heap[b]? = w.heap[b]? := hpost.inv.keep
          have hwsz : w.heap.size ≤ w'.heap.size := hpost.inv.size
          have hos : w'.os = B.w0.os := by rw [hpost.inv.os]; exact hI.os
          have htape : w'.tape = B.w0.tape := by rw [hpost.inv.tape]; exact hI.tape
          have hout : w'.output = B.w0.output := by rw [hpost.inv.output]; exact hI.output
          have hkeep : ∀ b, B.K b → w'.heap[b]? = B.w0.heap[b]? := fun b hb => by rw [same b (kb b hb)]; exact hI.keep b hb
          unfold afterR at h
          split at h
          · rename_i r' us hr' hus
            split at h
            · -- nothing is left of the call but its answer
              rename_i hcond
              simp only [Bool.and_eq_true, List.isEmpty_iff] at hcond
              obtain ⟨⟨hLn, hpn⟩, hnf⟩ := hcond
              subst hLn hpn
              simp only [Rd.run, Option.some.injEq, Prod.mk.injEq] at h
              obtain ⟨⟨rfl, rfl⟩, _⟩ := h
              have hk : ∀ b, b < w.heap.size → KOf βc w b := fun b hb => ⟨hb, fun j lc hj => by simp [βc] at hj⟩
              have hx : Ext β β F F w w' := ⟨fun _ _ h => h, fun b o hf => ⟨hf, cl_of_block (same b (hk b (hI.froz b o hf).1)) o⟩⟩
              have hrel : Rel F2 (cl w') β r' cv := hpost.rel.re (f := back [] n 0) (fun i j hj => by simp [back, nth] at hj) hr'
              refine ⟨cv, β, F, rfl, ⟨hrel.noFz hnf, ?_, hx, fun i hi => absurd rfl hi⟩⟩
              refine ⟨hos, htape, hout, Nat.le_trans hI.size hwsz, hkeep, hI.kin, hI.inj, fun i lc b hl hb => ⟨Nat.lt_of_lt_of_le (hI.fresh i lc b hl hb).1 hwsz, (hI.fresh i lc b hl hb).2⟩, fun i o ho => ?_, fun b o hf => ⟨Nat.lt_of_lt_of_le (hI.froz b o hf).1 hwsz, (hI.froz b o hf).2⟩, hI.prot⟩
              obtain ⟨lc, h1, h2⟩ := hI.obs i o ho
              exact ⟨lc, h1, h2.keep hx fun b hb => same b (hk b (hI.fresh i lc b h1 hb).1)⟩
            · simp only [Rd.run, Option.some.injEq, Prod.mk.injEq] at h
              obtain ⟨⟨rfl, rfl⟩, _⟩ := h
              obtain ⟨g1, g2⟩ := pushObs_get hus
              simp only [Nat.zero_add] at g1 g2
              let β' : Place := fun i => if n ≤ i ∧ i < n + (hp.length - L.length) then β2 (i - n + L.length) else β i
              have bk : ∀ j i, back L n hp.length j = some i → β' i = β2 j := fun j i hj => by
                unfold back at hj
                rw [nth_eq] at hj
                split at hj
                · rename_i a ha
                  cases hj
                  have hi := hlt' i (List.mem_of_getElem? ha)
                  obtain ⟨o, h1, h2⟩ := lalive j i ha
                  obtain ⟨lc, h3, _⟩ := hI.obs i o h2
                  have : β2 j = some lc := hpost.ext.place j lc (by simp [βc, ha, h3])
                  simp only [β']
                  rw [if_neg (by omega), h3, this]
                · rename_i ha
                  split at hj
                  · rename_i hjm
                    cases hj
                    have hjl : L.length ≤ j := by simpa using ha
                    simp only [β']
                    rw [if_pos (by omega)]
                    congr 1
                    omega
                  · cases hj
              have bkin : ∀ i, n ≤ i → i < n + (hp.length - L.length) → back L n hp.length (i - n + L.length) = some i := fun i h1 h2 => by
                unfold back
                rw [nth_eq, List.getElem?_eq_none (by omega)]
                simp only
                rw [if_pos (by omega)]
                congr 1
                omega
              have binj : ∀ {j k i : Nat}, back L n hp.length j = some i → back L n hp.length k = some i → j = k := fun h1 h2 => back_inj hnd hlt' h1 h2
              have hnew : ∀ i, n ≤ i → i < n + (hp.length - L.length) → β i = none := fun i h1 h2 => by
                have hk := bkin i h1 h2
                have hlt2 : i - n + L.length < hp.length := by omega
                obtain ⟨i', a, b⟩ := g1 (i - n + L.length) hp[i - n + L.length] (by simp [hlt2])
                rw [hk] at a
                cases a
                rcases b with ⟨_, b⟩ | ⟨_, _, _, _, b⟩
                · exact hfresh _ (List.mem_append_left _ b) h1
                · exact hfresh _ (List.mem_append_left _ b) h1
              have old : ∀ i lc, β i = some lc → β' i = some lc := fun i lc hi => by
                simp only [β']
                rw [if_neg]
                · exact hi
                · rintro ⟨h1, h2⟩
                  rw [hnew i h1 h2] at hi
                  cases hi
              have hx1 : Ext β β' (Also F β u0) F2 w w' := ⟨old, hpost.ext.froz⟩
              have hx : Ext β β' F F2 w w' := ⟨old, fun b o hf => hpost.ext.froz b o (.inl hf)⟩
              -- an object behind the call
              have nob : ∀ j i, back L n hp.length j = some i → (∀ p ∈ u0, p.1 ≠ i) := fun j i hj p hp' e => by
                unfold back at hj
                rw [nth_eq] at hj
                split at hj
                · rename_i a ha
                  cases hj
                  exact hdis' p hp' (e ▸ List.mem_of_getElem? ha)
                · rename_i ha
                  split at hj
                  · cases hj
                    obtain ⟨st, rows0, rows, fz, p0, h1, _⟩ := hu0 p hp'
                    obtain ⟨lc, h2, _⟩ := hI.obs _ _ h1
                    rw [e] at h2
                    rw [hnew _ (by omega) (by simp at ha; omega)] at h2
                    cases h2
                  · cases hj
              have atN : ∀ j i o, back L n hp.length j = some i → hp[j]? = some o → (H.puts (us ++ u0)).at? i = o.bind (Ob.re (back L n hp.length)) := fun j i o hj ho => by
                rw [puts_append, puts_other u0 _ i (nob j i hj)]
                obtain ⟨i', a, b⟩ := g1 j o ho
                rw [hj] at a
                cases a
                have uniq : ∀ x, (i, x) ∈ us → x = o.bind (Ob.re (back L n hp.length)) := fun x hx' => by
                  obtain ⟨k, o2, a1, a2, a3⟩ := g2 (i, x) hx'
                  have := binj a2 hj
                  subst this
                  rw [ho] at a1
                  cases a1
                  rcases a3 with ⟨rfl, a3⟩ | ⟨ob, ob', rfl, a3, a4⟩
                  · exact a3
                  · simp only [Option.bind_some]
                    rw [a3]
                    exact a4
                rcases b with ⟨_, b⟩ | ⟨_, _, _, _, b⟩
                · rw [puts_at us H i none b fun q hq e => by rw [uniq q.2 (by rw [← e]; exact hq), uniq none b]]
                  exact uniq none b
                · rename_i ob' _ _
                  rw [puts_at us H i _ b fun q hq e => by rw [uniq q.2 (by rw [← e]; exact hq), uniq _ b]]
                  exact uniq _ b
              have atO : ∀ i, (∀ j, back L n hp.length j ≠ some i) → (H.puts (us ++ u0)).at? i = (H.puts u0).at? i := fun i hi => by
                have hno : ∀ p ∈ us, p.1 ≠ i := fun p hp' e => by
                  obtain ⟨k, o, _, a2, _⟩ := g2 p hp'
                  exact hi k (e ▸ a2)
                rw [puts_append]
                by_cases hm : ∃ p ∈ u0, p.1 = i
                · obtain ⟨p, _, _, hh⟩ := puts_some u0 i hm
                  rw [hh, hh]
                · have hn : ∀ p ∈ u0, p.1 ≠ i := fun p hp' e => hm ⟨p, hp', e⟩
                  rw [puts_other u0 _ i hn, puts_other u0 _ i hn, puts_other us _ i hno]
              -- each live object is one of the callee's, or an old one
              have kind : ∀ i o, (H.puts (us ++ u0)).at? i = some o → (∃ j o0, back L n hp.length j = some i ∧ hp.at? j = some o0 ∧ o0.re (back L n hp.length) = some o ∧ β' i = β2 j) ∨
                  ((∀ j, back L n hp.length j ≠ some i) ∧ (H.puts u0).at? i = some o ∧ i ∉ L ∧ β' i = β i) := fun i o ho => by
                by_cases hb : ∃ j, back L n hp.length j = some i
                · obtain ⟨j, hj⟩ := hb
                  have hjm : j < hp.length := by
                    unfold back at hj
                    rw [nth_eq] at hj
                    split at hj
                    · rename_i a ha
                      have := (List.getElem?_eq_some_iff.1 ha).1
                      omega
                    · split at hj
                      · assumption
                      · cases hj
                  rw [atN j i hp[j] hj (by simp [hjm])] at ho
                  simp only [Option.bind_eq_some_iff] at ho
                  obtain ⟨o0, h1, h2⟩ := ho
                  exact .inl ⟨j, o0, hj, by rw [at?_eq]; simp [hjm, h1], h2, bk j i hj⟩
                · have hno : ∀ j, back L n hp.length j ≠ some i := fun j hj => hb ⟨j, hj⟩
                  rw [atO i hno] at ho
                  refine .inr ⟨hno, ho, fun hm => ?_, ?_⟩
                  · obtain ⟨j, hj⟩ := List.mem_iff_getElem?.1 hm
                    exact hno j (by unfold back; rw [nth_eq, hj])
                  · simp only [β']
                    rw [if_neg]
                    rintro ⟨h1, h2⟩
                    exact hno _ (bkin i h1 h2)
              refine ⟨cv, β', F2, rfl, ⟨hpost.rel.re (fun j i hj => bk j i hj) hr', ?_, hx, fun i hi => ?_⟩⟩
              · refine ⟨hos, htape, hout, Nat.le_trans hI.size hwsz, hkeep, hI.kin, ?_, ?_, ?_, ?_, ?_⟩
                · intro i1 i2 o1 o2 l1 l2 b h1 h2 hl1 hl2 hb1 hb2
                  rcases kind i1 o1 h1 with ⟨j1, p1, a1, a2, a3, a4⟩ | ⟨a1, a2, a3, a4⟩ <;> rcases kind i2 o2 h2 with ⟨j2, p2, c1, c2, c3, c4⟩ | ⟨c1, c2, c3, c4⟩
                  · rw [a4] at hl1
                    rw [c4] at hl2
                    have := hpost.inv.inj j1 j2 p1 p2 l1 l2 b a2 c2 hl1 hl2 hb1 hb2
                    subst this
                    rw [a1] at c1
                    exact Option.some.inj c1
                  · rw [a4] at hl1
                    rw [c4] at hl2
                    exact absurd (ko i2 o2 l2 b c2 c3 hl2 hb2) (hpost.inv.fresh j1 l1 b hl1 hb1).2
                  · rw [a4] at hl1
                    rw [c4] at hl2
                    exact absurd (ko i1 o1 l1 b a2 a3 hl1 hb1) (hpost.inv.fresh j2 l2 b hl2 hb2).2
                  · rw [a4] at hl1
                    rw [c4] at hl2
                    exact hA.inj i1 i2 o1 o2 l1 l2 b a2 c2 hl1 hl2 hb1 hb2
                · intro i lc b hl hb
                  simp only [β'] at hl
                  split at hl
                  · have := hpost.inv.fresh _ lc b hl hb
                    exact ⟨this.1, fun hk => this.2 (kb b hk)⟩
                  · exact ⟨Nat.lt_of_lt_of_le (hI.fresh i lc b hl hb).1 hwsz, (hI.fresh i lc b hl hb).2⟩
                · intro i o ho
                  rcases kind i o ho with ⟨j, o0, a1, a2, a3, a4⟩ | ⟨a1, a2, a3, a4⟩
                  · obtain ⟨lc, b1, b2⟩ := hpost.inv.obs j o0 a2
                    exact ⟨lc, by rw [a4]; exact b1, b2.re (fun j i hj => bk j i hj) a3⟩
                  · obtain ⟨lc, b1, b2⟩ := hA.obs i o a2
                    exact ⟨lc, by rw [a4]; exact b1, b2.keep hx1 fun b hb => same b (ko i o lc b a2 a3 b1 hb)⟩
                · intro b o hf
                  refine ⟨(hpost.inv.froz b o hf).1, fun hk => ?_⟩
                  exact (hA.froz b o ((hpost.inv.froz b o hf).2 (kb b hk))).2 hk
                · intro i b st C st' rows frz pure hl ho o hf
                  rcases kind i _ ho with ⟨j, o0, a1, a2, a3, a4⟩ | ⟨a1, a2, a3, a4⟩
                  · rw [a4] at hl
                    obtain ⟨rows0, rfl, hlen0⟩ := re_buf a3
                    have := hpost.inv.prot j b st C _ _ _ _ hl a2 o hf
                    rw [hlen0] at this
                    exact this
                  · rw [a4] at hl
                    have hk := ko i _ _ b a2 a3 hl rfl
                    exact hA.prot i b st C _ _ _ _ hl a2 o ((hpost.inv.froz b o hf).2 hk)
              · simp only [β'] at hi
                split at hi
                · rename_i hr
                  have hk := bkin i hr.1 hr.2
                  obtain ⟨i', a, b⟩ := g1 (i - n + L.length) (hp[i - n + L.length]'(by omega)) (by simp)
                  rw [hk] at a
                  cases a
                  refine ⟨hr.1, hnew i hr.1 hr.2, ?_⟩
                  rcases b with ⟨_, b⟩ | ⟨_, _, _, _, b⟩
                  · exact ⟨_, List.mem_append_left _ b⟩
                  · exact ⟨_, List.mem_append_left _ b⟩
                · exact absurd rfl hi
          · simp [Rd.run] at h
        · simp [Rd.run] at h
      · simp [Rd.run] at h
    · simp [Rd.run] at h
  · simp [Rd.run] at h
end

end Go.Proofs.Ytfdemnefkfkghaa.R
