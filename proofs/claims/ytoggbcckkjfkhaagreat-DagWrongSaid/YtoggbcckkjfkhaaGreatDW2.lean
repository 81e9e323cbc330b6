/- Parts of the proof of YtoggbcckkjfkhaaGreatRDagWrongAll, one behind the other: RM, RMa, RMb, RMc, RMd, RN, RO, RU, RP, RS, RV, RVb, RW, RWd, RZ, RY, RX. -/
import Derived.Test.YtoggbcckkjfkhaaGreatDW0
import Derived.Test.YtoggbcckkjfkhaaGreatDW1
import Derived.LoopNIn
import Derived.KernelRfl
import Derived.Test.YtoggbcckkjfkhaaGreatRows
import Derived.WalkKit
import Derived.ProofKit
import Derived.OpenShut
import Derived.ShutString
import Derived.ChangeOld
import Derived.Below
import Derived.SizedLaws
import Derived.DataElems
/- Code: loops, with what stays at their heads. -/
namespace Go.Proofs.YtoggbcckkjfkhaaGreat.R
set_option linter.unusedVariables false
set_option linter.unusedSimpArgs false
open Go Go.RowKit

theorem lk_live (e : Env) : ∀ (ts : List Nat) (t : Nat), lk (live e ts) t = lk e t ∨ lk (live e ts) t = .undef
  | [], t => .inr rfl
  | x :: r, t => by
    simp only [live]
    rw [lk_cons]
    by_cases h : x = t
    · rw [if_pos h, h]; exact .inl rfl
    · rw [if_neg h]; exact lk_live e r t

theorem reEnv_get {f : Nat → Option Nat} : ∀ {e e' : Env}, reEnv f e = some e' → ∀ t, V.re f (lk e t) = some (lk e' t)
  | [], e', h, t => by
    simp only [reEnv, Option.some.injEq] at h
    subst h
    rfl
  | (x, v) :: r, e', h, t => by
    simp only [reEnv, Option.bind_eq_some_iff, Option.map_eq_some_iff] at h
    obtain ⟨v', h1, r', h2, rfl⟩ := h
    rw [lk_cons, lk_cons]
    by_cases e1 : x = t
    · rw [if_pos e1, if_pos e1]; exact h1
    · rw [if_neg e1, if_neg e1]; exact reEnv_get h2 t

theorem at?_snoc (h : Heap) (x : Option Ob) (i : Nat) : Heap.at? (h ++ [x]) i = if i = h.length then x else h.at? i := by
  rw [at?_eq, at?_eq]
  by_cases e : i = h.length
  · rw [if_pos e, e]; simp
  · rw [if_neg e]
    by_cases hl : i < h.length
    · rw [List.getElem?_append_left hl]
    · rw [List.getElem?_append_right (by omega), List.getElem?_eq_none (by simp; omega), List.getElem?_eq_none (by omega)]

section
variable {P : Program} {cx : Cx} {B : Base} {β0 : Place} {ntmps keep : Nat} {ds : List Deferred}

/-- Numbered anew. -/
theorem gc_ok (hk : ∀ i, keep ≤ i → β0 i = none) {ts : List Nat} {s s1 : St} {a : Act} {w : World} {β : Place} {F : Froz} (h : gc keep ts s = some s1) (hS : Sim B β0 ntmps ds s a w β F) : ∃ β1, Sim B β0 ntmps ds s1 a w β1 F := by
  unfold gc at h
  simp only at h
  generalize hl : reach keep s.heap 4096 (upto keep (envIds (live s.env ts))) [] = l at h
  have hnd : l.Nodup := by rw [← hl]; exact reach_nodup _ _ _ _ _ (by simp)
  split at h
  · rename_i hb
    simp only [Option.bind_eq_some_iff, Option.map_eq_some_iff] at h
    obtain ⟨e1, he, h1, hh, rfl⟩ := h
    obtain ⟨p1, p2⟩ := pull_get hh
    have hβ : ∀ i j, idx l i = some j → (fun j => (l[j]?).bind β) j = β i := fun i j hj => by simp [idx_get hj]
    refine ⟨fun j => (l[j]?).bind β, ⟨hS.inv.renum (fun j => l[j]?) (idx l) (fun i j h => idx_get h) (fun j k i h1 h2 => nodup_at hnd h1 h2) p2, fun t => ?_, hS.defers, hS.size, fun i hi => ?_, ?_⟩⟩
    · have := reEnv_get he t
      have hr : Rel F (cl w) β (lk (live s.env ts) t) (a.tmps.getD t undef) := by
        rcases lk_live s.env ts t with h | h
        · rw [h]; exact hS.env t
        · rw [h]; exact .undef _ _
      exact hr.re hβ this
    · simp only at hi
      have : l[i]? = none := by rw [List.getElem?_eq_none]; omega
      simp [this]
    · refine ⟨fun i lc hi => ?_, hS.ext.froz⟩
      have hlt : i < keep := by
        rcases Nat.lt_or_ge i keep with h | h
        · exact h
        · rw [hk i h] at hi; cases hi
      have := begins_get hb i hlt
      rw [Nat.zero_add] at this
      simp only [this, Option.bind_some]
      exact hS.ext.place i lc hi
  · cases h

/-- An empty object that is nowhere yet. -/
theorem Inv.addNil {β : Place} {F : Froz} {H : Heap} {w : World} (hI : Inv B β F H w) {n : Nat} (hn : β n = none) (hlen : n = H.length) (st : Nat) : Inv B (β.set n .nil) F (H ++ [some (.buf st [] false true)]) w := by
  have hx : Ext β (β.set n .nil) F F w w := ⟨set_ext hn, fun _ _ h => ⟨h, rfl⟩⟩
  have old : ∀ i lc b, (β.set n .nil) i = some lc → lc.block = some b → β i = some lc ∧ i ≠ n := fun i lc b hi hb => by
    unfold Place.set at hi
    split at hi
    · cases hi; cases hb
    · rename_i e; exact ⟨hi, e⟩
  refine ⟨hI.os, hI.tape, hI.output, hI.size, hI.keep, hI.kin, ?_, ?_, ?_, hI.froz, ?_⟩
  · intro i j oi oj l l' b hi hj hl hl' hb hb'
    obtain ⟨a1, a2⟩ := old i l b hl hb
    obtain ⟨c1, c2⟩ := old j l' b hl' hb'
    rw [at?_snoc, if_neg (by omega)] at hi hj
    exact hI.inj i j oi oj l l' b hi hj a1 c1 hb hb'
  · intro i lc b hl hb
    exact hI.fresh i lc b (old i lc b hl hb).1 hb
  · intro i o ho
    rw [at?_snoc] at ho
    split at ho
    · rename_i e
      cases ho
      exact ⟨.nil, by unfold Place.set; rw [if_pos (by omega)], .nil _ _ _⟩
    · obtain ⟨lc, h1, h2⟩ := hI.obs i o ho
      exact ⟨lc, hx.place _ _ h1, h2.keep hx fun _ _ => rfl⟩
  · intro i b st' C st2 rows frz pure hl ho o hf
    obtain ⟨a1, a2⟩ := old i _ b hl rfl
    rw [at?_snoc, if_neg (by omega)] at ho
    exact hI.prot i b st' C st2 rows frz pure a1 ho o hf

/-- An object's rows stand otherwise. -/
theorem Inv.swap {B : Base} {β : Place} {F : Froz} {H : Heap} {w : World} (hI : Inv B β F H w) {i st : Nat} {rows rows' : List (List V)} {p p' : Bool} (hob : H.at? i = some (.buf st rows false p)) (ho : ∀ lc, β i = some lc → ObRel F w β lc (.buf st rows' false p')) :
    Inv B β F (H.put i (some (.buf st rows' false p'))) w := by
  have alive : ∀ j o, (H.put i (some (.buf st rows' false p'))).at? j = some o → ∃ o', H.at? j = some o' := by
    intro j o hj
    rw [at?_put] at hj
    split at hj
    · rename_i e; subst e; exact ⟨_, hob⟩
    · exact ⟨_, hj⟩
  refine ⟨hI.os, hI.tape, hI.output, hI.size, hI.keep, hI.kin, ?_, hI.fresh, ?_, hI.froz, ?_⟩
  · intro j k oj ok l l' b hj hk
    obtain ⟨_, hj'⟩ := alive j oj hj
    obtain ⟨_, hk'⟩ := alive k ok hk
    exact hI.inj j k _ _ l l' b hj' hk'
  · intro j o hj
    rw [at?_put] at hj
    split at hj
    · rename_i e
      subst e
      cases hj
      obtain ⟨lc, h1, _⟩ := hI.obs _ _ hob
      exact ⟨lc, h1, ho lc h1⟩
    · exact hI.obs j o hj
  · intro j b st2 C st3 rows2 frz pure hl hj o hf
    rw [at?_put] at hj
    split at hj
    · rename_i e
      subst e
      have := (hI.prot _ _ _ _ _ _ _ _ hl hob o hf).1
      cases this
    · exact hI.prot j b st2 C st3 rows2 frz pure hl hj o hf

theorem soft_ok {t : Nat} {s : St} {a : Act} {w : World} {β : Place} {F : Froz} (hS : Sim B β0 ntmps ds s a w β F) : ∃ F1, Sim B β0 ntmps ds (soft t s) a w β F1 := by
  unfold soft
  split
  · rename_i i o u h
    unfold softOb at h
    split at h
    · rename_i i' st0 o0 n0 c0 hlk
      split at h
      · rename_i st rows hob
        split at h
        · rename_i rows' u' l' hrun
          split at h
          · rename_i hc
            simp only [Option.some.injEq, Prod.mk.injEq] at h
            obtain ⟨rfl, rfl, rfl⟩ := h
            simp only [Bool.and_eq_true, List.all_eq_true] at hc
            obtain ⟨hu1, hall⟩ := hc
            have hno : ∀ p ∈ u', p.1 ≠ i' := fun p hp e => by
              have := hu1 p hp
              simp [e] at this
            have hall' : ∀ row ∈ rows', ∀ v ∈ row, v.isCell = true ∧ v.hasIds = false := fun row hr v hv => by
              have := hall row hr v hv
              simpa using this
            have fin : FrzUpd F w β s.heap u' → (∀ lc, β i' = some lc → ObRel (Also F β u') w β lc (.buf st rows' false true)) → ∃ F1, Sim B β0 ntmps ds { env := s.env, heap := (s.heap.puts u').put i' (some (.buf st rows' false true)) } a w β F1 := by
              intro hu ho
              have hx : Ext β β F (Also F β u') w w := ⟨fun _ _ h => h, fun b o hf => ⟨.inl hf, rfl⟩⟩
              refine ⟨Also F β u', (hS.inv.also hu).swap (by rw [puts_other u' s.heap i' hno]; exact hob) ho, fun t' => hx.rel (hS.env t'), hS.defers, hS.size, fun j hj => ?_, hS.ext.trans hx⟩
              have h1 := (puts_len u' s.heap).1
              have h2 := (put_len (s.heap.puts u') i' (some (.buf st rows' false true))).1
              exact hS.fresh j (by simp only at hj; omega)
            obtain ⟨lc, hl, ho⟩ := hS.inv.obs _ _ hob
            cases ho with
            | nil =>
              simp only [frzGRows, Rd.run, Option.some.injEq, Prod.mk.injEq] at hrun
              obtain ⟨⟨rfl, rfl⟩, _⟩ := hrun
              refine fin (fun p hp => by simp at hp) fun lc' hl' => ?_
              rw [hl] at hl'
              cases hl'
              exact .nil _ _ _
            | buf b _ C _ _ _ a1 a2 a3 a4 a5 a6 a7 =>
              obtain ⟨rows2, u2, l1, h1, h2, h3, h4⟩ := frzGRows_ok (msUp_ok hS.inv (msUp_ok hS.inv msFail_ok)) rows _ _ _ (fun r => ((List.range st).map fun j => (cl w b (r * st + j)).getD undef).toArray) hrun fun r row hr => by
                have hrl := a4 row (List.mem_of_getElem? hr)
                refine ⟨by simp [hrl], fun j v hj => ?_⟩
                have hjl := (List.getElem?_eq_some_iff.1 hj).1
                obtain ⟨cv, g1, g2⟩ := a7 r j row v hr hj
                have : (((List.range st).map fun j => (cl w b (r * st + j)).getD undef).toArray).getD j undef = cv := by
                  rw [Array.getD_eq_getD_getElem?]
                  simp [show j < st by omega, g1]
                rw [this]
                exact g2
              simp only [Rd.run, Option.some.injEq, Prod.mk.injEq] at h1
              obtain ⟨⟨rfl, rfl⟩, _⟩ := h1
              refine fin h4 fun lc' hl' => ?_
              rw [hl] at hl'
              cases hl'
              refine .buf b _ C _ _ _ a1 a2 (by omega) (fun row hr => ?_) (fun row hr v hv => (hall' row hr v hv).1) (fun _ row hr v hv => (hall' row hr v hv).2) fun r j row v hr hv => ?_
              · obtain ⟨r, hr⟩ := List.mem_iff_getElem?.1 hr
                have := (h3 r row hr).size
                simpa using this.symm
              · have hs := (h3 r row hr).size
                have hjl := (List.getElem?_eq_some_iff.1 hv).1
                simp at hs
                have hrow0 : r < rows.length := by
                  have := (List.getElem?_eq_some_iff.1 hr).1
                  omega
                have hl0 := a4 _ (List.getElem_mem hrow0)
                obtain ⟨cv, g1, _⟩ := a7 r j _ ((rows[r])[j]'(by omega)) (List.getElem?_eq_getElem hrow0) (List.getElem?_eq_getElem _)
                refine ⟨cv, g1, ?_⟩
                have := (h3 r row hr).at_ j v hv
                have e : (((List.range st).map fun j => (cl w b (r * st + j)).getD undef).toArray).getD j undef = cv := by
                  rw [Array.getD_eq_getD_getElem?]
                  simp [show j < st by omega, g1]
                rwa [e] at this
          · cases h
        · cases h
      · cases h
    · cases h
  · exact ⟨F, hS⟩

theorem thaw_ok : ∀ {l : List (Nat × Option Nat × Nat)} {s : St} {a : Act} {w : World} {β : Place} {F : Froz}, Sim B β0 ntmps ds s a w β F → ∃ β1 F1, Sim B β0 ntmps ds (thaw l s) a w β1 F1
  | [], s, a, w, β, F, hS => ⟨β, F, hS⟩
  | (t, none, st) :: r, s, a, w, β, F, hS => by
    simp only [thaw]
    split
    · rename_i hlk
      have hn := hS.fresh s.heap.length (Nat.le_refl _)
      have hx : Ext β (β.set s.heap.length .nil) F F w w := ⟨set_ext hn, fun _ _ h => ⟨h, rfl⟩⟩
      refine thaw_ok (β := β.set s.heap.length .nil) ⟨hS.inv.addNil hn rfl st, fun t' => ?_, hS.defers, hS.size, fun i hi => ?_, hS.ext.trans hx⟩
      · simp only
        rw [lk_cons]
        by_cases e : t = t'
        · subst e
          rw [if_pos rfl]
          have := hS.env t
          rw [hlk] at this
          generalize a.tmps.getD t undef = cv at this
          cases this
          exact .ms0 _ _ _ _ (by simp [Place.set]) (by simp)
        · rw [if_neg e]
          exact hx.rel (hS.env t')
      · simp only [List.length_append, List.length_cons, List.length_nil] at hi
        unfold Place.set
        rw [if_neg (by omega)]
        exact hS.fresh i (by omega)
    · exact thaw_ok hS
  | (t, some o, st) :: r, s, a, w, β, F, hS => by
    simp only [thaw]
    split
    · obtain ⟨F1, hS1⟩ := soft_ok (t := t) hS
      exact thaw_ok hS1
    split
    · rename_i i o hlk
      split
      · rename_i st' row p hob
        split
        · rename_i hro
          have hn := hS.fresh s.heap.length (Nat.le_refl _)
          have hx : Ext β (β.set s.heap.length .nil) F F w w := ⟨set_ext hn, fun _ _ h => ⟨h, rfl⟩⟩
          obtain ⟨lc, hl, hobr⟩ := hS.inv.obs i _ hob
          have hne : i ≠ s.heap.length := by have := at?_lt hob; omega
          have hI1 := hS.inv.addNil hn rfl st
          have hl1 : (β.set s.heap.length .nil) i = some lc := hx.place _ _ hl
          -- the row with the empty object's slice in it
          have hI2 : Inv B (β.set s.heap.length .nil) F ((s.heap.put i (some (Ob.buf st' [row.set o (.ms s.heap.length st 0 0 none)] false false))) ++ [some (Ob.buf st [] false true)]) w := by
            have e : ∀ j, Heap.at? ((s.heap.put i (some (Ob.buf st' [row.set o (.ms s.heap.length st 0 0 none)] false false))) ++ [some (Ob.buf st [] false true)]) j = ((s.heap ++ [some (Ob.buf st [] false true)]).put i (some (Ob.buf st' [row.set o (.ms s.heap.length st 0 0 none)] false false))).at? j := fun j => by
              have hpl : (s.heap.put i (some (Ob.buf st' [row.set o (.ms s.heap.length st 0 0 none)] false false))).length = s.heap.length := by
                have key : ∀ (h : Heap) (i : Nat) (x : Option Ob), i < h.length → (h.put i x).length = h.length := by
                  intro h
                  induction h with
                  | nil => intro i x hi; simp at hi
                  | cons y h ih =>
                    intro i x hi
                    cases i with
                    | zero => rfl
                    | succ i => simp only [Heap.put, List.length_cons]; rw [ih i x (by simpa using hi)]
                exact key _ _ _ (at?_lt hob)
              rw [at?_snoc, hpl, at?_put, at?_put, at?_snoc]
              by_cases e1 : j = s.heap.length
              · rw [if_pos e1, if_neg (by omega), if_pos e1]
              · rw [if_neg e1, if_neg e1]
            refine Inv.congr ?_ e
            have hob1 : Heap.at? (s.heap ++ [some (.buf st [] false true)]) i = some (.buf st' [row] false p) := by rw [at?_snoc, if_neg hne]; exact hob
            cases hobr with
            | buf b _ C _ _ _ hst ht hC hlen hcell hpure hr =>
              have ht2 := hI1.turn (w' := w) hl1 hob1 rfl (fun _ _ => rfl) rfl rfl rfl rfl (fun _ _ => rfl) (ob := .buf st' [row.set o (.ms s.heap.length st 0 0 none)] false false) (fun hx' => by
                refine .buf b st' C _ _ _ hst ht (by simpa using hC) (fun row' hm => ?_) (fun row' hm v hv => ?_) (by simp) (fun r j row' v hr' hv => ?_)
                · simp only [List.mem_singleton] at hm
                  subst hm
                  rw [List.length_set]
                  exact hlen row (.head _)
                · simp only [List.mem_singleton] at hm
                  subst hm
                  rcases List.mem_or_eq_of_mem_set hv with h | rfl
                  · exact hcell row (.head _) v h
                  · rfl
                · have hr0 : r = 0 := by have := (List.getElem?_eq_some_iff.1 hr').1; simp at this; omega
                  subst hr0
                  simp only [List.getElem?_cons_zero, Option.some.injEq] at hr'
                  subst hr'
                  rw [List.getElem?_set] at hv
                  by_cases e1 : o = j
                  · subst e1
                    have hlt := (List.getElem?_eq_some_iff.1 hro).1
                    rw [if_pos rfl, if_pos hlt] at hv
                    cases hv
                    obtain ⟨cv, h1, h2⟩ := hr 0 o row _ rfl hro
                    refine ⟨cv, h1, ?_⟩
                    cases h2
                    exact .ms0 _ _ _ _ (by simp [Place.set]) (by simp)
                  · rw [if_neg e1] at hv
                    obtain ⟨cv, h1, h2⟩ := hr 0 j row v rfl hv
                    exact ⟨cv, h1, hx.rel h2⟩) (fun st2 rows2 frz2 pure2 e1 q hf => by
                cases e1
                have := (hS.inv.prot i b st' C _ _ _ _ hl hob q hf).1
                cases this)
              exact ht2.1
          refine thaw_ok (β := β.set s.heap.length .nil) ⟨hI2, fun t' => hx.rel (hS.env t'), hS.defers, hS.size, fun j hj => ?_, hS.ext.trans hx⟩
          have := (put_len s.heap i (some (Ob.buf st' [row.set o (.ms s.heap.length st 0 0 none)] false false))).1
          simp only [List.length_append, List.length_cons, List.length_nil] at hj
          unfold Place.set
          rw [if_neg (by omega)]
          exact hS.fresh j (by omega)
        · exact thaw_ok hS
      · exact thaw_ok hS
    · exact thaw_ok hS

theorem head_ok (hk : ∀ i, keep ≤ i → β0 i = none) {g : Option AGc} {s s1 : St} {a : Act} {w : World} {β : Place} {F : Froz} (h : head keep g s = some s1) (hS : Sim B β0 ntmps ds s a w β F) : ∃ β1 F1, Sim B β0 ntmps ds s1 a w β1 F1 := by
  unfold head at h
  split at h
  · cases h; exact ⟨β, F, hS⟩
  · obtain ⟨β1, F1, hS1⟩ := thaw_ok (l := (‹AGc›).thaw) hS
    obtain ⟨β2, hS2⟩ := gc_ok hk h hS1
    exact ⟨β2, F1, hS2⟩

def exOf : Ex → Exit
  | .normal => .normal
  | .exit id => .exit id
  | .ret => .ret

def opB (o : Oper) : Bool := match o.op with
  | .defer _ => false
  | _ => true
theorem opB_ok {o : Oper} (h : opB o = true) : noDefer o := fun c hc => by
  unfold opB at h
  rw [hc] at h
  cases h

/-- What is asked of code: its regions that draw are as they should be; no calls are put off; a loop over an iterator stands in no other one. -/
def codeOK (top : Bool) : Code → Bool
  | .region _ ops draw => (!draw || drawOK ops) && ops.toList.all opB
  | .seq a b => codeOK top a && codeOK top b
  | .cond _ a b => codeOK top a && codeOK top b
  | .block _ c => codeOK top c
  | .loop c => codeOK top c
  | .rangeFunc _ _ a b => top && codeOK false a && codeOK false b
  | _ => true

/-- Calls that are put off: the marks of loops over iterators alone, none of which has put off any. -/
inductive Marks (N : Nat) (B : Base) : List Deferred → Prop where
  | nil : Marks N B []
  | cons (D : Nat) (ds : List Deferred) (hN : N ≤ D) (hK : B.K D) (h0 : B.w0.heap[D]? = some (.deferred (some []))) (hd : ∀ d ∈ ds, d.target ≠ .collected D) (h : Marks N B ds) : Marks N B ({ target := .collected D, args := #[] } :: ds)
theorem Marks.le {N : Nat} {B B' : Base} (h : BLe B B') {ds : List Deferred} (hm : Marks N B ds) : Marks N B' ds := by
  induction hm with
  | nil => exact .nil
  | cons D ds hN hK h0 hd _ ih => exact .cons D ds hN (h.k D hK) ((h.same D hK).trans h0) hd ih
theorem Marks.lt {N : Nat} {B : Base} {ds : List Deferred} (hm : Marks N B ds) (hk : ∀ b, B.K b → b < B.w0.heap.size) : ∀ d ∈ ds, ∀ D, d.target = .collected D → D < B.w0.heap.size := by
  induction hm with
  | nil => intro d hd; simp at hd
  | cons D ds hN hK h0 hd _ ih =>
    intro d hm E hE
    rcases List.mem_cons.1 hm with rfl | hm
    · cases hE
      exact hk _ hK
    · exact ih d hm E hE

theorem ops_mem {ops : Array Oper} (h : ops.toList.all opB = true) (i : Nat) (o : Oper) (ho : ops[i]? = some o) : noDefer o :=
  opB_ok (List.all_eq_true.1 h o (List.mem_of_getElem? (by simpa using ho)))

/-- A region, in any frame. -/
theorem region_ok (hcx : CxOK P cx) (hm : P.follows .mixedOrders = true) {r : Option Nat} {n id : Nat} {ops : Array Oper} {draw : Bool} {s s1 : St} {a : Act} {w : World} {β : Place} {F : Froz} (hc : ((!draw || drawOK ops) && ops.toList.all opB) = true)
    (h : (if draw then runDraw cx ntmps ops (Region.before ops) ops.toList 0 s [] else runOps cx ntmps ops ops.toList s) = some s1) (hS : Sim B β0 ntmps ds s a w β F) {Q : Act → World → Prop} (hQ : ∀ a' w' β' F', Sim B β0 ntmps ds s1 a' w' β' F' → Stays ops a a' → Q a' w') :
    (Code.region id ops draw).wpIn (fr r) n P (fun e a w => e = .normal ∧ Q a w) a w := by
  simp only [Bool.and_eq_true] at hc
  have fin : ∀ (e : Exit) (a' : Act) (w' : World), QS ops a (fun a' w' => ∃ β' F', Sim B β0 ntmps ds s1 a' w' β' F') e a' w' → e = .normal ∧ Q a' w' := by
    rintro e a' w' ⟨he, ⟨β', F', hS'⟩, hst⟩
    exact ⟨he, hQ a' w' β' F' hS' hst⟩
  cases draw with
  | false =>
    simp only [Bool.false_eq_true, if_false] at h
    refine wpIn_mono (wpIn_region (wpOpsIn_of (ops_mem hc.2) _ a w (Stays.refl ops a) ?_)) fin
    have := ops_ok hcx 0 ops.toList s s1 a w β F (by simp) h hS (Q := fun e a' w' => e = .normal ∧ ∃ β' F', Sim B β0 ntmps ds s1 a' w' β' F') fun a' w' β' F' hS' => ⟨rfl, β', F', hS'⟩
    simpa using this
  | true =>
    simp only [if_true] at h
    refine wpIn_mono (wpIn_region_any hm (wpAnyIn_of (ops_mem hc.2) _ _ a _ (Stays.refl ops a) ?_)) fin
    exact draw_ok hcx (by simpa using hc.1) h hS (Q := fun e a' w' => e = .normal ∧ ∃ β' F', Sim B β0 ntmps ds s1 a' w' β' F') fun a' w' β' F' hS' => ⟨rfl, β', F', hS'⟩
end
end Go.Proofs.YtoggbcckkjfkhaaGreat.R
/- Iterators: a function of which some slots hold yield. -/
namespace Go.Proofs.YtoggbcckkjfkhaaGreat.R
set_option linter.unusedVariables false
set_option linter.unusedSimpArgs false
open Go Go.RowKit

/-- The machine's state beside Go's, within an iterator. -/
structure SimI (Bs : Option Ex → Base) (β0 : Place) (ntmps lr : Nat) (s : ISt) (a : Act) (w : World) (β : Place) (F : Froz) : Prop where
  sim : Sim (Bs s.stop) β0 ntmps [] ⟨s.env, s.heap⟩ a w β F
  y : ∀ t ∈ s.y, a.tmps.getD t undef = .func (.yield lr) #[] #[]

/-- A round is what it is told to be. -/
def CBOK (P : Program) (Bs : Option Ex → Base) (β0 : Place) (lr : Nat) (cb : CB) : Prop := ∀ (args : List V) (h : Heap) (st : Option Ex) (h' : Heap), cb args h = some (st, h') →
  ∀ (w : World) (β : Place) (F : Froz) (cargs : Array Value) (n : Nat), RelAll F (cl w) β args cargs → Inv (Bs none) β F h w → (∀ i, h.length ≤ i → β i = none) → Ext β0 β (Bs none).F0 F (Bs none).w0 w →
    YieldAt (fr none) n P lr cargs w fun e w' => ∃ β' F', e = .returned (.bool st.isNone) ∧ Inv (Bs st) β' F' h' w' ∧ (∀ i, h'.length ≤ i → β' i = none) ∧ Ext β β' F F' w w'

theorem yDrop_mem {d : Option Tmp} {y : List Nat} {t : Nat} (h : t ∈ yDrop d y) : t ∈ y ∧ d ≠ some t := by
  unfold yDrop at h
  cases d with
  | none => exact ⟨h, by simp⟩
  | some d =>
    simp only [List.mem_filter] at h
    refine ⟨h.1, fun e => ?_⟩
    cases e
    simp at h
theorem yDrops_mem : ∀ {ops : List Oper} {y : List Nat} {t : Nat}, t ∈ yDrops ops y → t ∈ y ∧ ∀ o ∈ ops, o.dst ≠ some t
  | [], y, t, h => ⟨h, by simp⟩
  | o :: r, y, t, h => by
    have h' : t ∈ yDrops r (yDrop o.dst y) := h
    obtain ⟨h1, h2⟩ := yDrops_mem h'
    obtain ⟨h3, h4⟩ := yDrop_mem h1
    refine ⟨h3, fun o' ho => ?_⟩
    rcases List.mem_cons.1 ho with rfl | ho
    · exact h4
    · exact h2 o' ho

theorem yHead_mem {g : Option AGc} {y : List Nat} {t : Nat} (h : t ∈ yHead g y) : t ∈ y := by
  unfold yHead at h
  cases g with
  | none => exact h
  | some g => exact (List.mem_filter.1 h).1

theorem put_other {a : Act} {d : Option Tmp} {v : Value} {t : Nat} (h : d ≠ some t) : (a.put d v).tmps.getD t undef = a.tmps.getD t undef := by
  unfold Act.put
  cases d with
  | none => rfl
  | some d =>
    have : d ≠ t := fun e => h (by rw [e])
    simp only
    rw [Array.getD_eq_getD_getElem?, Array.getD_eq_getD_getElem?, Array.getElem?_setIfInBounds_ne this]
theorem put_same {a : Act} {d : Tmp} {v : Value} (h : d < a.tmps.size) : (a.put (some d) v).tmps.getD d undef = v := by
  unfold Act.put
  simp only
  rw [Array.getD_eq_getD_getElem?, Array.getElem?_setIfInBounds_self_of_lt h]
  rfl

section
variable {P : Program} {cx : Cx} {β0 : Place} {ntmps keep : Nat} {Bs : Option Ex → Base} {lr : Nat} {cb : CB}

theorem SimI.drop {s : ISt} {a : Act} {w : World} {β : Place} {F : Froz} (h : SimI Bs β0 ntmps lr s a w β F) {d : Option Tmp} {v : Value} : ∀ t ∈ yDrop d s.y, (a.put d v).tmps.getD t undef = .func (.yield lr) #[] #[] := fun t ht => by
  obtain ⟨h1, h2⟩ := yDrop_mem ht
  rw [put_other h2]
  exact h.y t h1

theorem putDst_lt {e e' : Env} {d : Tmp} {v : V} (h : putDst ntmps e (some d) v = some e') : d < ntmps := by
  unfold putDst at h
  simp only at h
  split at h
  · assumption
  · cases h

theorem iops_ok (hcx : CxOK P cx) (hBs : ∀ st, (Bs st).F0 = (Bs none).F0 ∧ ∀ b o, cl (Bs st).w0 b o = cl (Bs none).w0 b o) (hcb : CBOK P Bs β0 lr cb) {n : Nat} {ops : Array Oper} (hd : ∀ (i : Nat) (o : Oper), ops[i]? = some o → noDefer o) {Q : Exit → Act → World → Prop} : ∀ (k : Nat) (rest : List Oper) (s s' : ISt) (a : Act) (w : World) (β : Place) (F : Froz), ops.toList.drop k = rest → iOps cx ntmps cb ops rest s = some s' → SimI Bs β0 ntmps lr s a w β F →
    (∀ a' w' β' F', SimI Bs β0 ntmps lr s' a' w' β' F' → Q .normal a' w') → wpOpsIn (fr none) n P ops Q ((List.range ops.size).drop k) a w
  | k, [], s, s', a, w, β, F, hk, h, hS, hQ => by
    have hl : ops.size ≤ k := by simpa using hk
    rw [List.drop_of_length_le (by simpa using hl)]
    simp only [iOps, Option.some.injEq] at h
    subst h
    exact hQ _ _ _ _ hS
  | k, o :: r, s, s', a, w, β, F, hk, h, hS, hQ => by
    have hlt : k < ops.size := by
      rcases Nat.lt_or_ge k ops.size with h | h
      · exact h
      · rw [List.drop_of_length_le (by simpa using h)] at hk; cases hk
    have ho : ops[k]? = some o := by
      have : (ops.toList.drop k)[0]? = some o := by rw [hk]; rfl
      rw [List.getElem?_drop] at this
      simpa using this
    have hr : ops.toList.drop (k + 1) = r := by rw [← List.drop_drop, hk]; rfl
    have hdr : (List.range ops.size).drop k = k :: (List.range ops.size).drop (k + 1) := by
      rw [List.drop_eq_getElem_cons (by simpa using hlt)]
      simp
    rw [hdr, wpOpsIn_cons]
    unfold wpOpIn
    simp only [ho]
    simp only [iOps] at h
    split at h
    · cases h
    · rename_i hw
      rw [wanted_of hS.sim.env hw]
      simp only [Option.bind_eq_some_iff] at h
      obtain ⟨e', he, h⟩ := h
      simp only [Bool.false_eq_true, if_false]
      exact ⟨fun _ _ => trivial, iops_ok hcx hBs hcb hd (k + 1) r _ s' _ _ β F hr h ⟨hS.sim.skip he, hS.drop⟩ hQ⟩
    · rename_i hw
      rw [wanted_of hS.sim.env hw]
      simp only [if_true]
      split at h
      · rename_i ars hya
        -- yield
        unfold yArgs at hya
        split at hya
        · rename_i c hop
          split at hya
          · rename_i t hcal
            split at hya
            · rename_i hty
              simp only [Option.some.injEq] at hya
              subst hya
              cases hst : s.stop with
              | some x => simp [hst] at h
              | none =>
                simp only [hst] at h
                split at h
                · cases h
                · rename_i st h' hcbr
                  simp only [Option.bind_eq_some_iff] at h
                  obtain ⟨e', he, h⟩ := h
                  have hsim : Sim (Bs none) β0 ntmps [] ⟨s.env, s.heap⟩ a w β F := by have := hS.sim; rw [hst] at this; exact this
                  have hargs := evs_rel (F := F) (w := w) (β := β) (e := s.env) (a := a) hsim.env c.args
                  obtain ⟨fn, tmps, assign, body, hrun, hround⟩ := hcb _ _ _ _ hcbr w β F (c.args.map a.eval) (n - 1) hargs hsim.inv hsim.fresh hsim.ext
                  have hty' : a.tmps.getD t undef = .func (.yield lr) #[] #[] := hS.y t (by simpa using hty)
                  refine ⟨fun _ _ => trivial, ?_⟩
                  have hex : (o.semAt (fr none).round a.eval).run P w = .ok (.round lr fn tmps assign body) w := by
                    rw [show (fr none).round = none from rfl, Oper.semAt_none]
                    unfold execOp
                    have hev : a.eval (.tmp t) = .func (.yield lr) #[] #[] := hty'
                    simp only [hop, resolve, hcal, hev, Deferred.ofValue]
                    rw [Sem.run_bind, Sem.run_pure]
                    simpa [invoke, Result.andThen] using hrun
                  rw [hex, Oper.uponIn_round]
                  refine ⟨fun hh => (by cases hh), hround.mono fun e w' he' => ?_⟩
                  obtain ⟨β', F', rfl, hI', hf', hx'⟩ := he'
                  obtain ⟨g1, g2, g3, g4⟩ := putDst_env (v := .bool st.isNone) (cv := .bool st.isNone) (hx'.env hsim.env) hsim.size (.bool _ _) he
                  refine iops_ok hcx hBs hcb hd (k + 1) r _ s' _ _ β' F' hr h ⟨⟨hI', g1, by rw [g3, hsim.defers], g2, hf', ?_⟩, hS.drop⟩ hQ
                  have h5 := hsim.ext.trans hx'
                  refine ⟨h5.place, fun b x hf => ?_⟩
                  simp only at hf ⊢
                  rw [(hBs st).1] at hf
                  exact ⟨(h5.froz b x hf).1, (h5.froz b x hf).2.trans ((hBs st).2 b x).symm⟩
            · cases hya
          · cases hya
        · cases hya
      · split at h
        · cases h
        · rename_i v u l hrun
          simp only [Option.bind_eq_some_iff] at h
          obtain ⟨e', he, h⟩ := h
          have hsim := hS.sim
          by_cases hmv : ∃ t d, o.op = .move (.tmp t) ∧ o.dst = some d ∧ s.y.contains t = true
          · obtain ⟨t, d, hop, hdst, hty⟩ := hmv
            have hvr : v = lk s.env t ∧ u = [] := by
              unfold aop at hrun
              simp only [hop, Rd.run, Option.some.injEq, Prod.mk.injEq, ev] at hrun
              exact ⟨hrun.1.1.symm, hrun.1.2.symm⟩
            obtain ⟨rfl, rfl⟩ := hvr
            refine ⟨fun _ _ => trivial, ?_⟩
            have hex : (o.semAt (fr none).round a.eval).run P w = .ok (.value (a.tmps.getD t undef)) w := by
              rw [show (fr none).round = none from rfl, Oper.semAt_none]
              unfold execOp
              simp only [hop]
              rfl
            rw [hex]
            show wpOpsIn (fr none) n P ops Q _ (a.put o.dst (a.tmps.getD t undef)) w
            refine iops_ok hcx hBs hcb hd (k + 1) r _ s' _ _ β F hr h ⟨hsim.next (Left.quiet hsim.inv (hsim.env t)) he, fun t' ht' => ?_⟩ hQ
            simp only [yNext, hop, hdst, hty, if_true, List.mem_cons] at ht'
            replace ht' : t' = d ∨ t' ∈ s.y := ht'.imp id fun h => (yDrop_mem h).1
            rw [hdst]
            by_cases e : t' = d
            · subst e
              rw [put_same (by rw [hsim.size]; rw [hdst] at he; exact putDst_lt he)]
              exact hS.y t (by simpa using hty)
            · rw [put_other (by simpa using fun e' => e e'.symm)]
              exact hS.y t' (ht'.resolve_left e)
          · have hyn : yNext o s.y = yDrop o.dst s.y := by
              unfold yNext
              split
              · rename_i t d hop hdst
                split
                · rename_i hty
                  exact absurd ⟨t, d, hop, hdst, hty⟩ hmv
                · rw [hdst]
              · rfl
            rw [hyn] at h
            have h1 : o.wp P a w (fun a' w' => ∃ cv β' F', a' = a.put o.dst cv ∧ Left s.heap.length (Bs s.stop) β F s.heap w v u cv w' β' F') Q :=
              aop_ok hcx.types rfl hcx.fns hcx.call hsim.inv hsim.env (hsim.fresh _ (Nat.le_refl _)) hrun (fun p _ hp => hsim.fresh _ hp) fun cv w' β' F' hL => ⟨cv, β', F', rfl, hL⟩
            refine Oper.wpIn_mono ?_ (opIn_of (hd k o ho) h1)
            rintro a' w' ⟨⟨cv, β', F', rfl, hL⟩, _⟩
            exact iops_ok hcx hBs hcb hd (k + 1) r _ s' _ _ β' F' hr h ⟨hsim.next hL he, hS.drop⟩ hQ

theorem icode_ok (hcx : CxOK P cx) (hm : P.follows .mixedOrders = true) (hBs : ∀ st, (Bs st).F0 = (Bs none).F0 ∧ ∀ b o, cl (Bs st).w0 b o = cl (Bs none).w0 b o) (hcb : CBOK P Bs β0 lr cb) (hk : ∀ i, keep ≤ i → β0 i = none) {R n : Nat} {gcs : List AGc} {top : Bool} :
    ∀ (c : Code) (id : Option Nat) (s : ISt) (ex : Ex) (s' : ISt) (a : Act) (w : World) (β : Place) (F : Froz) (Q : Exit → Act → World → Prop), codeOK top c = true →
    icode cx ntmps keep R gcs cb c id s = some (ex, s') → SimI Bs β0 ntmps lr s a w β F → (∀ a' w' β' F', SimI Bs β0 ntmps lr s' a' w' β' F' → Q (exOf ex) a' w') → c.wpIn (fr none) n P Q a w
  | .skip, id, s, ex, s', a, w, β, F, Q, hc, h, hS, hQ => by
    simp only [icode, Option.some.injEq, Prod.mk.injEq] at h
    obtain ⟨rfl, rfl⟩ := h
    exact wpIn_skip (hQ _ _ _ _ hS)
  | .region rid ops draw, id, s, ex, s', a, w, β, F, Q, hc, h, hS, hQ => by
    simp only [icode] at h
    have hc' : ((!draw || drawOK ops) && ops.toList.all opB) = true := hc
    cases draw with
    | false =>
      simp only [Bool.false_eq_true, if_false, Option.map_eq_some_iff, Prod.mk.injEq] at h
      obtain ⟨s1, h1, rfl, rfl⟩ := h
      simp only [Bool.and_eq_true] at hc'
      refine wpIn_region ?_
      have := iops_ok hcx hBs hcb (n := n) (ops_mem hc'.2) 0 ops.toList s s1 a w β F (by simp) h1 hS (Q := Q) hQ
      simpa using this
    | true =>
      simp only [if_true] at h
      split at h
      · rename_i hall
        simp only [Option.map_eq_some_iff, Prod.mk.injEq] at h
        obtain ⟨t, h1, rfl, rfl⟩ := h
        refine wpIn_mono (region_ok hcx hm hc' (by simpa using h1) hS.sim (Q := fun a' w' => Q (exOf .normal) a' w') fun a' w' β' F' hS' hst => ?_) (by rintro e a' w' ⟨rfl, h⟩; exact h)
        refine hQ a' w' β' F' ⟨hS', fun t' ht' => ?_⟩
        obtain ⟨h3, h4⟩ := yDrops_mem ht'
        rw [hst t' fun i o hi => h4 o (List.mem_of_getElem? (by simpa using hi))]
        exact hS.y t' h3
      · cases h
  | .seq x y, id, s, ex, s', a, w, β, F, Q, hc, h, hS, hQ => by
    simp only [codeOK, Bool.and_eq_true] at hc
    simp only [icode, Option.bind_eq_some_iff] at h
    obtain ⟨⟨ex1, s1⟩, h1, h2⟩ := h
    refine wpIn_seq (icode_ok hcx hm hBs hcb hk x none s ex1 s1 a w β F _ hc.1 h1 hS fun a' w' β' F' hS' => ?_)
    cases ex1 with
    | normal => exact icode_ok hcx hm hBs hcb hk y none s1 ex s' a' w' β' F' Q hc.2 h2 hS' hQ
    | exit i =>
      simp only [Option.some.injEq, Prod.mk.injEq] at h2
      obtain ⟨rfl, rfl⟩ := h2
      exact hQ _ _ _ _ hS'
    | ret =>
      simp only [Option.some.injEq, Prod.mk.injEq] at h2
      obtain ⟨rfl, rfl⟩ := h2
      exact hQ _ _ _ _ hS'
  | .cond c x y, id, s, ex, s', a, w, β, F, Q, hc, h, hS, hQ => by
    simp only [codeOK, Bool.and_eq_true] at hc
    simp only [icode] at h
    have hr := ev_rel hS.sim.env c
    split at h
    · rename_i hev
      simp only [hev] at hr
      refine wpIn_cond (t := true) (by generalize a.eval c = cv at hr; cases hr; rfl) ?_
      exact icode_ok hcx hm hBs hcb hk x none s ex s' a w β F Q hc.1 h hS hQ
    · rename_i hev
      simp only [hev] at hr
      refine wpIn_cond (t := false) (by generalize a.eval c = cv at hr; cases hr; rfl) ?_
      exact icode_ok hcx hm hBs hcb hk y none s ex s' a w β F Q hc.2 h hS hQ
    · cases h
  | .block bid c, id, s, ex, s', a, w, β, F, Q, hc, h, hS, hQ => by
    simp only [icode, Option.map_eq_some_iff] at h
    obtain ⟨⟨ex1, s1⟩, h1, h2⟩ := h
    refine wpIn_block (icode_ok hcx hm hBs hcb hk c (some bid) s ex1 s1 a w β F _ (by simpa [codeOK] using hc) h1 hS fun a' w' β' F' hS' => ?_)
    cases ex1 with
    | normal =>
      simp only [Prod.mk.injEq] at h2
      obtain ⟨rfl, rfl⟩ := h2
      exact hQ _ _ _ _ hS'
    | exit i =>
      simp only at h2
      by_cases e : i = bid
      · rw [if_pos e] at h2
        simp only [Prod.mk.injEq] at h2
        obtain ⟨rfl, rfl⟩ := h2
        simp only [exOf, Exit.inBlock, e, if_true]
        exact hQ _ _ _ _ hS'
      · rw [if_neg e] at h2
        simp only [Prod.mk.injEq] at h2
        obtain ⟨rfl, rfl⟩ := h2
        simp only [exOf, Exit.inBlock, e, if_false]
        exact hQ _ _ _ _ hS'
    | ret =>
      simp only [Prod.mk.injEq] at h2
      obtain ⟨rfl, rfl⟩ := h2
      exact hQ _ _ _ _ hS'
  | .loop c, id, s, ex, s', a, w, β, F, Q, hc, h, hS, hQ => by
    simp only [icode] at h
    have key : ∀ (m : Nat) (s : ISt) (a : Act) (w : World) (β : Place) (F : Froz), iRounds (fun s => (head keep (gcOf gcs id) { env := s.env, heap := s.heap }).bind fun t => icode cx ntmps keep R gcs cb c none { env := t.env, heap := t.heap, y := yHead (gcOf gcs id) s.y, stop := s.stop }) m s = some (ex, s') → SimI Bs β0 ntmps lr s a w β F →
        Code.roundsIn (fr none) n P c Q m a w := by
      intro m
      induction m with
      | zero => intro s a w β F h _; simp [iRounds] at h
      | succ m ih =>
        intro s a w β F h hS
        unfold iRounds at h
        cases hb : (head keep (gcOf gcs id) { env := s.env, heap := s.heap }).bind fun t => icode cx ntmps keep R gcs cb c none { env := t.env, heap := t.heap, y := yHead (gcOf gcs id) s.y, stop := s.stop } with
        | none => simp [hb] at h
        | some r =>
          obtain ⟨ex1, s1⟩ := r
          simp only [hb] at h
          rw [Option.bind_eq_some_iff] at hb
          obtain ⟨s0, hb1, hb2⟩ := hb
          obtain ⟨β1, F1, hS1⟩ := head_ok hk hb1 hS.sim
          rw [roundsIn_succ]
          refine icode_ok hcx hm hBs hcb hk c none _ ex1 s1 a w β1 F1 _ (by simpa [codeOK] using hc) hb2 ⟨hS1, fun t ht => hS.y t (yHead_mem ht)⟩ fun a' w' β' F' hS' => ?_
          cases ex1 with
          | normal => exact ih s1 a' w' β' F' h hS'
          | exit i =>
            simp only [Option.some.injEq, Prod.mk.injEq] at h
            obtain ⟨rfl, rfl⟩ := h
            exact hQ _ _ _ _ hS'
          | ret =>
            simp only [Option.some.injEq, Prod.mk.injEq] at h
            obtain ⟨rfl, rfl⟩ := h
            exact hQ _ _ _ _ hS'
    exact wpIn_loop_rounds R (key R s a w β F h hS)
  | .exit i, id, s, ex, s', a, w, β, F, Q, hc, h, hS, hQ => by
    simp only [icode, Option.some.injEq, Prod.mk.injEq] at h
    obtain ⟨rfl, rfl⟩ := h
    exact wpIn_exit (hQ _ _ _ _ hS)
  | .ret, id, s, ex, s', a, w, β, F, Q, hc, h, hS, hQ => by
    simp only [icode, Option.some.injEq, Prod.mk.injEq] at h
    obtain ⟨rfl, rfl⟩ := h
    exact wpIn_ret (hQ _ _ _ _ hS)
  | .rangeFunc .., id, s, ex, s', a, w, β, F, Q, hc, h, hS, hQ | .scope .., id, s, ex, s', a, w, β, F, Q, hc, h, hS, hQ | .label .., id, s, ex, s', a, w, β, F, Q, hc, h, hS, hQ | .goto .., id, s, ex, s', a, w, β, F, Q, hc, h, hS, hQ | .refuse .., id, s, ex, s', a, w, β, F, Q, hc, h, hS, hQ => by
    simp [icode] at h

end
end Go.Proofs.YtoggbcckkjfkhaaGreat.R
/- Loops over iterators. -/
namespace Go.Proofs.YtoggbcckkjfkhaaGreat.R
set_option linter.unusedVariables false
set_option linter.unusedSimpArgs false
open Go Go.RowKit

theorem putObj_putObj {w : World} {l : Nat} {o o' : Obj} : (w.putObj l o).putObj l o' = w.putObj l o' := by
  simp [World.putObj]
theorem putObj_self {w : World} {l : Nat} {o : Obj} (h : w.heap[l]? = some o) : w.putObj l o = w := by
  obtain ⟨h1, h2⟩ := Array.getElem?_eq_some_iff.1 h
  unfold World.putObj
  have : w.heap.setIfInBounds l o = w.heap := by
    apply Array.ext
    · simp
    · intro i h3 h4
      rw [Array.getElem_setIfInBounds (by simpa using h3)]
      split
      · rename_i e; subst e; exact h2.symm
      · rfl
  rw [this]
theorem Base.turn_turn {B : Base} {l : Nat} {o o' : Obj} : (B.turn l o).turn l o' = B.turn l o' := by
  simp [Base.turn, putObj_putObj]

section
variable {A B : Base}
theorem BLe.turn (h : BLe A B) {l : Nat} {o oB o' : Obj} (hA : A.w0.heap[l]? = some o) (hB : B.w0.heap[l]? = some oB) (hc : o.isCells = false) (hcB : oB.isCells = false) (hc' : o'.isCells = false) : BLe (A.turn l o') (B.turn l o') := by
  have e1 := cl_putObj hA hc hc'
  have e2 := cl_putObj hB hcB hc'
  refine ⟨h.k, fun b hb => ?_, by simpa [Base.turn] using h.size, h.os, h.tape, h.output, h.f0, fun b o hf => ⟨(h.f1 b o hf).1, ?_⟩⟩
  · show (B.w0.putObj l o').heap[b]? = (A.w0.putObj l o').heap[b]?
    by_cases e : b = l
    · subst e
      rw [World.putObj_heap_same (Array.getElem?_eq_some_iff.1 hB).1, World.putObj_heap_same (Array.getElem?_eq_some_iff.1 hA).1]
    · rw [World.putObj_heap_other e, World.putObj_heap_other e]
      exact h.same b hb
  · show cl (B.w0.putObj l o') b o = cl (A.w0.putObj l o') b o
    rw [e1, e2]
    exact (h.f1 b o hf).2
theorem BLe.turnNew (h : BLe A B) {l : Nat} {oB o' : Obj} (hA : ¬ A.K l) (hB : B.w0.heap[l]? = some oB) (hcB : oB.isCells = false) (hc' : o'.isCells = false) : BLe A (B.turn l o') := by
  have e2 := cl_putObj hB hcB hc'
  refine ⟨h.k, fun b hb => ?_, by simpa [Base.turn] using h.size, h.os, h.tape, h.output, h.f0, fun b o hf => ⟨(h.f1 b o hf).1, ?_⟩⟩
  · show (B.w0.putObj l o').heap[b]? = A.w0.heap[b]?
    rw [World.putObj_heap_other (fun e => hA (by rw [← e]; exact hb))]
    exact h.same b hb
  · show cl (B.w0.putObj l o') b o = cl A.w0 b o
    rw [e2]
    exact (h.f1 b o hf).2
end

theorem bind_ok {F : Froz} {w : World} {β : Place} : ∀ (ps : List Tmp) (args : List V) (cargs : List Value) (e : Env) (tmps : Array Value), args.length = ps.length → cargs.length = args.length → (∀ p ∈ ps, p < tmps.size) →
    (∀ (j : Nat) (v : V), args[j]? = some v → Rel F (cl w) β v (cargs[j]?.getD undef)) → EnvRel F w β e tmps →
    EnvRel F w β (bindPs ps args e) ((ps.zip cargs).foldl (fun t p => t.setIfInBounds p.1 p.2) tmps) ∧ ((ps.zip cargs).foldl (fun t p => t.setIfInBounds p.1 p.2) tmps).size = tmps.size
  | [], args, cargs, e, tmps, h1, h2, h3, h4, h5 => by
    cases args with
    | nil => exact ⟨h5, rfl⟩
    | cons _ _ => simp at h1
  | p :: ps, [], cargs, e, tmps, h1, h2, h3, h4, h5 => by simp at h1
  | p :: ps, v :: args, [], e, tmps, h1, h2, h3, h4, h5 => by simp at h2
  | p :: ps, v :: args, c :: cargs, e, tmps, h1, h2, h3, h4, h5 => by
    have hv := h4 0 v rfl
    have hp := h3 p (.head _)
    have := bind_ok ps args cargs ((p, v) :: e) (tmps.setIfInBounds p c) (by simpa using h1) (by simpa using h2) (fun q hq => by simpa using h3 q (.tail _ hq)) (fun j u hu => by simpa using h4 (j + 1) u (by simpa using hu)) fun t => by
      rw [lk_cons]
      by_cases et : p = t
      · subst et
        rw [if_pos rfl, Array.getD_eq_getD_getElem?, Array.getElem?_setIfInBounds_self_of_lt hp]
        simpa using hv
      · rw [if_neg et, Array.getD_eq_getD_getElem?, Array.getElem?_setIfInBounds_ne et, ← Array.getD_eq_getD_getElem?]
        exact h5 t
    simpa [bindPs] using this

/-- Functions of the table, as code. -/
structure FnsCode (P : Program) (fns : FuncId → Option AFn) : Prop where
  code : ∀ g fn, fns g = some fn → fn.intr = none → ∃ fc : Func, P.funcs[g]? = some fc ∧ (fc.name == "runtime.NumGoroutine") = false ∧ fc.body = some fn.body ∧ fc.ntmps = fn.ntmps ∧ fc.results.toList = fn.res ∧ codeOK true fn.body = true

def codeOf : Ex → Code
  | .normal => .skip
  | .exit id => .exit id
  | .ret => .ret
/-- The record of a loop over an iterator, between two rounds. -/
def recOf (r : Loop) : Option Ex → Loop
  | none => r
  | some ex => { r with state := .done, pending := some (codeOf ex) }

section
variable {P : Program} {cx : Cx} {R ntmps : Nat} {gcs : List AGc}

/-- Code in a round. -/
def RoundCode (P : Program) (cx : Cx) (R ntmps : Nat) (gcs : List AGc) (c : Code) : Prop := ∀ (l n keep : Nat) (B : Base) (β0 : Place) (_ : ∀ i, keep ≤ i → β0 i = none) (s : St) (ex : Ex) (s' : St) (a : Act) (w : World) (β : Place) (F : Froz) (Q : Exit → Act → World → Prop),
  acode cx ntmps keep R gcs c none s = some (ex, s') → Sim B β0 ntmps [] s a w β F → (∀ a' w' β' F', Sim B β0 ntmps [] s' a' w' β' F' → Q (exOf ex) a' w') → c.wpIn (fr (some l)) n P Q a w

theorem round_ok {assign body : Code} (hA : RoundCode P cx R ntmps gcs assign) (hBd : RoundCode P cx R ntmps gcs body) {B1 : Base} {l : Nat} {r0 : Loop} {β0 : Place} {e : Env} (hl0 : B1.w0.heap[l]? = some (.loop r0)) (hK : B1.K l) (h1 : r0.state = .ready) (h2 : r0.pending = none) (h3 : r0.assign = assign) (h4 : r0.body = body)
    (hin : ∀ b, B1.K b → b < B1.w0.heap.size) (hsz : r0.tmps.size = ntmps) (hE : EnvRel B1.F0 B1.w0 β0 e r0.tmps) :
    CBOK P (fun st => B1.turn l (.loop (recOf r0 st))) β0 l (roundOf ntmps r0.params.toList e (fun k s1 => acode cx ntmps k R gcs assign none s1) (fun k s1 => acode cx ntmps k R gcs body none s1)) := by
  intro args h st h' hcb w β F cargs n hargs hI hfresh hx
  have eB : B1.turn l (.loop (recOf r0 none)) = B1 := by
    show (⟨B1.w0.putObj l (.loop r0), B1.K, B1.F0⟩ : Base) = B1
    rw [putObj_self hl0]
  simp only [eB] at hI hx
  unfold roundOf at hcb
  split at hcb
  · rename_i hlen
    split at hcb
    · rename_i s1 hassign
      rw [Option.map_eq_some_iff] at hcb
      obtain ⟨⟨ex, s2⟩, hbody, hst⟩ := hcb
      simp only [Prod.mk.injEq] at hst
      obtain ⟨hst, rfl⟩ := hst
      have hl : w.heap[l]? = some (.loop r0) := (hI.keep l hK).trans hl0
      -- the round's own base
      let Bn : Base := B1.now w F (fun _ => False)
      have hsimA : ∀ (e : Env) (tmps : Array Value), EnvRel F w β e tmps → tmps.size = ntmps → Sim B1 β0 ntmps [] ⟨e, h⟩ { tmps := tmps, defers := [] } w β F ∧ True := fun e tmps h1 h2 => ⟨⟨hI, h1, rfl, h2, hfresh, hx⟩, trivial⟩
      obtain ⟨hb1, hb2⟩ := bind_ok (F := F) (w := w) (β := β) r0.params.toList args cargs.toList e r0.tmps hlen.1 (by simpa using hargs.size) (fun p hp => by
        rw [hsz]
        have := List.all_eq_true.1 hlen.2 p hp
        simpa using this) (fun j v hv => by
        have := hargs.at_ j v hv
        rw [Array.getD_eq_getD_getElem?] at this
        simpa using this) (hx.env hE)
      generalize htm : (r0.params.toList.zip cargs.toList).foldl (fun t p => t.setIfInBounds p.1 p.2) r0.tmps = tm at hb1 hb2
      obtain ⟨hs0, hle0⟩ := Sim.now (hsimA _ _ hb1 (hb2.trans hsz)).1 (X := fun _ => False) (by simp)
      refine ⟨r0.fn, tm, assign, body, ?_, roundIn_of_wpIn trivial ?_⟩
      · have := run_yield (P := P) (args := cargs) hl (by have h1 := hargs.size; have h2 := hlen.1; simp at h2; omega)
        rw [this, h3, h4]
        congr 2
        rw [← htm, ← Array.foldl_toList, Array.toList_zip]
      · have efr : (fr none).inRound l = fr (some l) := rfl
        rw [efr]
        refine hA l n h.length Bn β hfresh _ .normal s1 _ w β F _ hassign hs0 fun a1 w1 β1 F1 hs1 => ?_
        have hKn : Bn.K l := .inl hK
        have hl1 : w1.heap[l]? = some (.loop r0) := (hs1.inv.keep l hKn).trans hl
        refine ⟨_, run_beginRound hl1 h1, ?_⟩
        have hs1' := hs1.turn (o' := .loop { r0 with state := .busy }) hKn hl1 rfl rfl
        refine hBd l n h.length _ β hfresh _ ex s2 a1 _ β1 F1 _ hbody hs1' fun a2 w2 β2 F2 hs2 => ?_
        have hl2 : w2.heap[l]? = some (.loop { r0 with state := .busy }) := (hs2.inv.keep l hKn).trans (World.putObj_heap_same (Array.getElem?_eq_some_iff.1 hl).1)
        have hle : BLe (B1.turn l (.loop (recOf r0 st))) (Bn.turn l (.loop (recOf r0 st))) := hle0.turn hl0 hl rfl rfl rfl
        have fin : ∀ jump : Option Code, (({ r0 with state := if jump.isNone then .ready else .done, pending := jump } : Loop) = recOf r0 st) → jump.isNone = st.isNone →
            ∃ v w', (Instr.endRound l jump).run P w2 = .ok v w' ∧ ∃ β' F', Ending.returned v = .returned (.bool st.isNone) ∧ Inv (B1.turn l (.loop (recOf r0 st))) β' F' s2.heap w' ∧ (∀ i, s2.heap.length ≤ i → β' i = none) ∧ Ext β β' F F' w w' := by
          intro jump e1 e2
          refine ⟨_, _, run_endRound jump hl2, β2, F2, by rw [e2], ?_⟩
          have hs3 := hs2.turn (o' := .loop (recOf r0 st)) hKn hl2 rfl rfl
          rw [Base.turn_turn] at hs3
          have e3 : ({ ({ r0 with state := .busy } : Loop) with state := if jump.isNone then .ready else .done, pending := jump } : Loop) = recOf r0 st := e1
          rw [e3]
          refine ⟨hs3.inv.rebase hle (by simpa [Base.turn] using hin), hs3.fresh, hs3.ext.place, fun b x hf => ⟨(hs3.ext.froz b x hf).1, (hs3.ext.froz b x hf).2.trans (cl_putObj hl rfl rfl b x)⟩⟩
        cases ex with
        | normal =>
          simp only at hst
          subst hst
          exact fin none (by simp [recOf, ← h1, ← h2]) rfl
        | exit id =>
          simp only at hst
          subst hst
          exact fin (some (.exit id)) (by simp [recOf, codeOf]) rfl
        | ret =>
          simp only at hst
          subst hst
          exact fin (some .ret) (by simp [recOf, codeOf]) rfl
    · cases hcb
  · cases hcb

end
end Go.Proofs.YtoggbcckkjfkhaaGreat.R
/- Code, whole. -/
namespace Go.Proofs.YtoggbcckkjfkhaaGreat.R
set_option linter.unusedVariables false
set_option linter.unusedSimpArgs false
open Go Go.RowKit

section
variable {P : Program} {cx : Cx} {R ntmps : Nat} {gcs : List AGc}

variable {B : Base} {β0 : Place} {ds : List Deferred} {T : TT}

theorem resOne_ok (hT : TOK P T) {s : St} {a : Act} {w : World} {β : Place} {F : Froz} (hS : Sim B β0 ntmps ds s a w β F) {x : ResultVar} {v : V} (h : resOne T s x = some v) :
    ∃ cv, Sem.run P (match x with
      | .tmp t => pure (a.tmps.getD t undef)
      | .cell a' t => do loadVar t (← asAddr (a.tmps.getD a' undef))) w = .ok cv w ∧ Rel F (cl w) β v cv := by
  cases x with
  | tmp t =>
    simp only [resOne, Option.some.injEq] at h
    subst h
    exact ⟨_, rfl, hS.env t⟩
  | cell t ty =>
    simp only [resOne] at h
    have he := hS.env t
    split at h
    case h_2 =>
      unfold resArr at h
      split at h
      · rename_i i r off hlk
        rw [hlk] at he
        simp only [Option.map_eq_some_iff] at h
        obtain ⟨⟨⟨v1, u1⟩, l1⟩, h1, h2⟩ := h
        simp only at h2
        subst h2
        obtain ⟨cw, g1, g2, _⟩ := loadA_ok hT hS.inv h1 he
        show ∃ cv, (do loadVar ty (← asAddr (a.tmps.getD t undef)) : Sem Value).run P w = .ok cv w ∧ _
        generalize a.tmps.getD t undef = cv at he g1 ⊢
        cases he with
        | ptr _ _ _ _ b st' C hb => exact ⟨cw, by simpa [Instr.loadAt, Instr.sureAddr, asAddr] using g1, g2⟩
      · cases h
    rename_i v0 h0
    simp only [Option.some.injEq] at h
    subst h
    have h := h0
    unfold resCell at h
    split at h
    · rename_i i r off ti hlk hti
      rw [hlk] at he
      split at h
      · rename_i st rows frz pure hob
        split at h
        · rename_i row hrow
          obtain ⟨lc, hl, ho⟩ := hS.inv.obs _ _ hob
          show ∃ cv, (do loadVar ty (← asAddr (a.tmps.getD t undef)) : Sem Value).run P w = .ok cv w ∧ _
          generalize a.tmps.getD t undef = cv at he ⊢
          cases he with
          | ptr _ _ _ _ b st' C hb =>
            rw [hb] at hl
            cases hl
            cases ho with
            | buf _ _ _ _ _ _ hst hthere hC hlen hcell hpure hr =>
              obtain ⟨cw, h1, h2⟩ := load_at (P := P) (β := β) (F := F) (w := w) (hT.told hti) (base := r * st) (fun j v hv => hr r j row v hrow hv) h
              refine ⟨cw, ?_, h2⟩
              simpa [Instr.loadAt, Instr.sureAddr, asAddr] using h1
        · cases h
      · cases h
    · cases h

theorem resAll_ok (hT : TOK P T) {s : St} {a : Act} {w : World} {β : Place} {F : Froz} (hS : Sim B β0 ntmps ds s a w β F) {f : ResultVar → Sem Value} (hf : ∀ x v, resOne T s x = some v → ∃ cv, (f x).run P w = .ok cv w ∧ Rel F (cl w) β v cv) :
    ∀ {l : List ResultVar} {vs : List V}, resAll T s l = some vs → ∃ cvs : List Value, (l.mapM f).run P w = .ok cvs w ∧ cvs.length = vs.length ∧ ∀ (j : Nat) (v : V), vs[j]? = some v → ∃ cv, cvs[j]? = some cv ∧ Rel F (cl w) β v cv
  | [], vs, h => by
    simp only [resAll, Option.some.injEq] at h
    subst h
    exact ⟨[], by simp, rfl, by simp⟩
  | x :: r, vs, h => by
    simp only [resAll, Option.bind_eq_some_iff, Option.map_eq_some_iff] at h
    obtain ⟨v, h1, vs', h2, rfl⟩ := h
    obtain ⟨cv, g1, g2⟩ := hf x v h1
    obtain ⟨cvs, g3, g4, g5⟩ := resAll_ok hT hS hf h2
    refine ⟨cv :: cvs, by simp [List.mapM_cons, g1, g3], by simp [g4], fun j u hu => ?_⟩
    cases j with
    | zero =>
      simp only [List.getElem?_cons_zero, Option.some.injEq] at hu
      subst hu
      exact ⟨cv, rfl, g2⟩
    | succ j => simpa using g5 j u (by simpa using hu)

theorem results_ok (hT : TOK P T) {s : St} {a : Act} {w : World} {β : Place} {F : Froz} (hS : Sim B β0 ntmps ds s a w β F) {fn : Func} {vs : List V} (h : resAll T s fn.results.toList = some vs) :
    ∃ cv, (results fn a.tmps).run P w = .ok cv w ∧ Rel F (cl w) β (oneOf vs) cv := by
  unfold results
  rw [Array.mapM_eq_mapM_toList]
  obtain ⟨cvs, h1, h2, h3⟩ := resAll_ok hT hS (fun x v hx => resOne_ok hT hS hx) h
  have hall : ∀ (j : Nat) (v : V), vs[j]? = some v → Rel F (cl w) β v (cvs.toArray.getD j undef) := fun j v hv => by
    obtain ⟨cv, a1, a2⟩ := h3 j v hv
    rw [Array.getD_eq_getD_getElem?]
    simpa [a1] using a2
  have harr : ∀ m : Sem (List Value), m.run P w = .ok cvs w → (List.toArray <$> m).run P w = .ok cvs.toArray w := fun m hm => by
    show (m >>= fun l => pure l.toArray).run P w = _
    simp [hm]
  have h4 := harr _ h1
  by_cases e : vs.length = 1
  · match vs, e with
    | [v], _ =>
      match cvs, h2 with
      | [cv], _ =>
        refine ⟨cv, ?_, by have := hall 0 v rfl; simpa [Array.getD, oneOf] using this⟩
        rw [Sem.run_bind]; erw [h4]
        rfl
  · refine ⟨.tuple cvs.toArray, ?_, ?_⟩
    · have : ¬ cvs.length = 1 := by omega
      rw [Sem.run_bind]; erw [h4]
      simp [this]
    · have : oneOf vs = .tup vs := by
        unfold oneOf
        split
        · simp at e
        · rfl
      rw [this]
      exact .tup _ _ _ (by simpa using h2) hall

theorem lk_argEnv : ∀ (args : List V) (n t : Nat), lk (argEnv n args) t = if n ≤ t then (args[t - n]?).getD .undef else .undef
  | [], n, t => by simp [argEnv, lk]
  | v :: r, n, t => by
    simp only [argEnv]
    rw [lk_cons]
    by_cases e : n = t
    · subst e; simp
    · rw [if_neg e, lk_argEnv r (n + 1) t]
      by_cases h : n + 1 ≤ t
      · rw [if_pos h, if_pos (by omega), show t - n = (t - (n + 1)) + 1 by omega]
        rfl
      · rw [if_neg h, if_neg (by omega)]

theorem args_env {F : Froz} {w : World} {β : Place} {args : List V} {cargs : Array Value} (k : Nat) (hargs : RelAll F (cl w) β args cargs) : EnvRel F w β (argEnv 0 args) (cargs ++ Array.replicate k undef) := fun t => by
  have hsz := hargs.size
  rw [lk_argEnv]
  simp only [Nat.zero_le, if_true, Nat.sub_zero]
  cases hv : args[t]? with
  | none => exact .undef _ _
  | some v =>
    have hlt := (List.getElem?_eq_some_iff.1 hv).1
    have := hargs.at_ t v hv
    rw [Array.getD_eq_getD_getElem?] at this ⊢
    rw [Array.getElem?_append_left (by omega)]
    exact this

theorem range_ok (hcx : CxOK P cx) (hm : P.follows .mixedOrders = true) (hfc : FnsCode P cx.fns) {g : Operand} {ps : Array Tmp} {assign body : Code} (hA : RoundCode P cx R ntmps gcs assign) (hBd : RoundCode P cx R ntmps gcs body)
    {n N keep : Nat} {B : Base} {β0 : Place} {id : Option Nat} {s s' : St} {ex : Ex} {a : Act} {w : World} {β : Place} {F : Froz} {ds : List Deferred} {Q : Exit → Act → World → Prop} (hN : N ≤ B.w0.heap.size)
    (h : acode cx ntmps keep R gcs (.rangeFunc g ps assign body) id s = some (ex, s')) (hS : Sim B β0 ntmps ds s a w β F) (hmk : Marks N B ds)
    (hQ : ∀ B' ds' a' w' β' F', BLe B B' → Marks N B' ds' → (∀ b, B'.K b → b < B'.w0.heap.size) → Sim B' β0 ntmps ds' s' a' w' β' F' → Q (exOf ex) a' w') : (Code.rangeFunc g ps assign body).wpIn (fr none) n P Q a w := by
  simp only [acode] at h
  split at h
  · rename_i gf caps hev
    split at h
    · rename_i fn hfn
      split at h
      · cases h
      · rename_i hno
        simp only [Bool.or_eq_true, not_or, Bool.not_eq_true, Option.isSome_eq_false_iff, Option.isNone_iff_eq_none, bne_eq_false_iff_eq, decide_eq_false_iff_not, Nat.not_lt, beq_iff_eq] at hno
        obtain ⟨⟨hintr, hres0⟩, hnt⟩ := hno
        rw [Option.bind_eq_some_iff] at h
        obtain ⟨⟨ex0, t⟩, hic, h2⟩ := h
        obtain ⟨fc, f1, f2, f3, f4, f5, f6⟩ := hfc.code gf fn hfn hintr
        refine wpIn_rangeFunc fun fnid _ => ?_
        have hg := ev_rel hS.env g
        rw [hev] at hg
        generalize hcg : a.eval g = cg at hg
        cases hg with
        | clo _ _ _ cvs hsz hrel =>
          -- the two blocks
          let D := w.heap.size
          let r0 : Loop := { state := .ready, pending := none, fn := fnid, tmps := a.tmps, params := ps, assign, body, defers := w.heap.size }
          let w1 : World := (w.alloc (.deferred (some []))).alloc (.loop r0)
          have hw1s : w1.heap.size = D + 2 := by simp [w1, D]
          have hsame : ∀ b, b < w.heap.size → w1.heap[b]? = w.heap[b]? := fun b hb => by
            show ((w.alloc _).alloc _).heap[b]? = _
            rw [Below.heap_alloc _ _ _ (by simp; omega), Below.heap_alloc _ _ _ hb]
          have hD : w1.heap[D]? = some (.deferred (some [])) := by
            show ((w.alloc _).alloc _).heap[D]? = _
            rw [Below.heap_alloc _ _ _ (by simp [D])]
            exact World.alloc_heap_new w _
          have hl : w1.heap[D + 1]? = some (.loop r0) := by
            have := World.alloc_heap_new (w.alloc (.deferred (some []))) (.loop r0)
            rw [World.size_alloc] at this
            exact this
          have hS1 : Sim B β0 ntmps ds s a w1 β F := hS.grow (by omega) hsame rfl rfl rfl
          have hX : ∀ b, (b = D ∨ b = D + 1) → b < w1.heap.size ∧ ∀ i lc, β i = some lc → lc.block ≠ some b := fun b hb => ⟨by omega, fun i lc hi hbl => by
            have := (hS.inv.fresh i lc b hi hbl).1
            omega⟩
          obtain ⟨hS2, hle⟩ := hS1.now hX
          -- the base
          let B1 : Base := B.now w1 F (fun b => b = D ∨ b = D + 1)
          have hK : B1.K (D + 1) := .inr (.inr rfl)
          have hKD : B1.K D := .inr (.inl rfl)
          have hnK : ¬ B.K (D + 1) := fun hb => by
            have := hS.inv.kin _ hb
            have := hS.inv.size
            omega
          have hcb := round_ok (P := P) (cx := cx) (R := R) (gcs := gcs) hA hBd (B1 := B1) (l := D + 1) (r0 := r0) (β0 := β) (e := s.env) hl hK rfl rfl rfl rfl hS2.inv.kin hS.size hS2.env
          let Bs : Option Ex → Base := fun st => B1.turn (D + 1) (.loop (recOf r0 st))
          have eB : Bs none = B1 := by
            exact congrArg (fun w => (⟨w, B1.K, B1.F0⟩ : Base)) (putObj_self hl)
          have hBs : ∀ st, (Bs st).F0 = (Bs none).F0 ∧ ∀ b o, cl (Bs st).w0 b o = cl (Bs none).w0 b o := fun st => ⟨rfl, fun b o => (cl_putObj hl rfl rfl b o).trans (cl_putObj hl rfl rfl b o).symm⟩
          let iargs : Array Value := #[.func (.yield (D + 1)) #[] #[]] ++ cvs
          have hiargs : RelAll F (cl w1) β (.undef :: caps) iargs := ⟨by simp [iargs, hsz]; omega, fun j v hj => by
            cases j with
            | zero =>
              simp only [List.getElem?_cons_zero, Option.some.injEq] at hj
              subst hj
              exact .undef _ _
            | succ j =>
              have := (Ext.mk (β := β) (β' := β) (F := F) (F' := F) (w := w) (w' := w1) (fun _ _ h => h) fun b o hf => ⟨hf, cl_of_block (hsame b (hS.inv.froz b o hf).1) o⟩).rel (hrel j v (by simpa using hj))
              rw [Array.getD_eq_getD_getElem?] at this ⊢
              rw [Array.getElem?_append_right (by simp)]
              simpa using this⟩
          have hisz : iargs.size ≤ fn.ntmps := by simp [iargs, hsz]; omega
          have hSI : SimI Bs β fn.ntmps (D + 1) { env := argEnv 0 (.undef :: caps), heap := s.heap, y := [0], stop := none } { tmps := iargs ++ Array.replicate (fn.ntmps - iargs.size) undef, defers := [] } w1 β F := by
            refine ⟨?_, fun t ht => ?_⟩
            · show Sim (Bs none) _ _ _ _ _ _ _ _
              rw [eB]
              exact ⟨hS2.inv, args_env _ hiargs, rfl, by simp; omega, hS.fresh, .refl _ _ _⟩
            · simp only [List.mem_singleton] at ht
              subst ht
              rw [Array.getD_eq_getD_getElem?, Array.getElem?_append_left (by simp [iargs]; omega), Array.getElem?_append_left (by simp)]
              rfl
          refine ⟨D + 1, [{ target := .collected D, args := #[] }], w1, { target := .fn (.func gf) cvs, args := #[.func (.yield (D + 1)) #[] #[]] }, w1, gf, iargs, w1, run_enterLoop_outer _ _ _ _ _, ?_, fun _ _ => trivial, ?_, fun hh => (by cases hh), ?_⟩
          · simp only [rangeCall, resolve, hcg, Deferred.ofValue]
            rw [Sem.run_pure]
            have e0 : (#[Operand.const (Value.func (.yield (D + 1)) #[] #[])] : Array Operand).map a.eval = #[.func (.yield (D + 1)) #[] #[]] := by
              simp only [List.map_toArray, List.map_cons, List.map_nil]
              rfl
            rw [e0, Array.empty_append]
          · have f2' : ¬ fc.name = "runtime.NumGoroutine" := by simpa using f2
            simp [invoke, callFunc, f1, f2', f3, iargs]
          · refine callsIn_of_wp_marks f1 f3 trivial ?_
            rw [f4]
            refine icode_ok hcx hm hBs hcb hS.fresh (keep := s.heap.length) fn.body none _ ex0 t _ w1 β F _ f6 hic hSI fun a2 w2 β2 F2 hSI2 => ?_
            have hl2 : w2.heap[D + 1]? = some (.loop (recOf r0 t.stop)) := (hSI2.sim.inv.keep (D + 1) hK).trans (World.putObj_heap_same (Array.getElem?_eq_some_iff.1 hl).1)
            have hs3 := hSI2.sim.turn (o' := .loop { recOf r0 t.stop with state := .exhausted }) hK hl2 rfl rfl
            rw [show (Bs t.stop).turn (D + 1) (.loop { recOf r0 t.stop with state := .exhausted }) = B1.turn (D + 1) (.loop { recOf r0 t.stop with state := .exhausted }) from Base.turn_turn] at hs3
            have fin : ∀ ex' : Ex, some (ex', ({ env := s.env, heap := t.heap } : St)) = some (ex, s') → (match t.stop with | none => Ex.normal | some ex => ex) = ex' → LeavesInM (fr none) (n - 1) P fc a2.tmps (rangePost (fr none) n P (D + 1) Q { a with defers := [{ target := .collected D, args := #[] }] ++ a.defers }) a2.defers .returning w2 := by
              intro ex' e1 e2
              simp only [Option.some.injEq, Prod.mk.injEq] at e1
              obtain ⟨rfl, rfl⟩ := e1
              rw [hSI2.sim.defers]
              obtain ⟨cv, g1, _⟩ := results_ok hcx.types hSI2.sim (fn := fc) (vs := []) (by rw [f5, List.length_eq_zero_iff.1 hres0]; rfl)
              refine ⟨cv, g1, (recOf r0 t.stop).pending, _, run_endLoop hl2 (by unfold recOf; cases t.stop <;> simp [r0]), ?_⟩
              have hleB : BLe B (B1.turn (D + 1) (.loop { recOf r0 t.stop with state := .exhausted })) := hle.turnNew hnK hl rfl rfl
              have hQ' : Q (exOf ex') { a with defers := [{ target := .collected D, args := #[] }] ++ a.defers } (w2.putObj (D + 1) (.loop { recOf r0 t.stop with state := .exhausted })) := by
                have hx3 : Ext β β2 F F2 w1 (w2.putObj (D + 1) (.loop { recOf r0 t.stop with state := .exhausted })) := ⟨hs3.ext.place, fun b x hf => ⟨(hs3.ext.froz b x hf).1, (hs3.ext.froz b x hf).2.trans (cl_putObj hl rfl rfl b x)⟩⟩
                refine hQ _ ({ target := .collected D, args := #[] } :: ds) _ _ β2 F2 hleB (.cons D ds ?_ hKD ?_ ?_ (hmk.le hleB)) (by simpa [Base.turn] using hS2.inv.kin) ⟨hs3.inv, hx3.env hS2.env, by simp [hS.defers], hS.size, hs3.fresh, fun i lc hi => hs3.ext.place _ _ (hS.ext.place i lc hi), fun b x hf => ?_⟩
                · have := hS.inv.size; omega
                · show (w1.putObj (D + 1) _).heap[D]? = _
                  rw [World.putObj_heap_other (by omega)]
                  exact hD
                · intro d hd hE
                  have := hmk.lt hS.inv.kin d hd D hE
                  have := hS.inv.size
                  omega
                · exact hs3.ext.froz b x hf
              cases hstop : t.stop with
              | none =>
                rw [hstop] at e2 hQ'
                simp only at e2
                subst e2
                exact hQ'
              | some ex =>
                rw [hstop] at e2 hQ'
                simp only at e2
                subst e2
                cases ex with
                | normal => exact wpIn_skip hQ'
                | exit i => exact wpIn_exit hQ'
                | ret => exact wpIn_ret hQ'
            cases ex0 with
            | normal => exact fin _ h2 rfl
            | ret => exact fin _ h2 rfl
            | exit i => cases h2
    · cases h
  · cases h

end
end Go.Proofs.YtoggbcckkjfkhaaGreat.R
/- Code, whole. -/
namespace Go.Proofs.YtoggbcckkjfkhaaGreat.R
set_option linter.unusedVariables false
set_option linter.unusedSimpArgs false
open Go Go.RowKit

section
variable {P : Program} {cx : Cx} {R ntmps : Nat} {gcs : List AGc}

/-- What is left behind code: 'top' false: the base stays. -/
structure After (top : Bool) (N : Nat) (B : Base) (ds : List Deferred) (B' : Base) (ds' : List Deferred) : Prop where
  le : BLe B B'
  marks : Marks N B' ds'
  kin : ∀ b, B'.K b → b < B'.w0.heap.size
  size : N ≤ B'.w0.heap.size
  same : top = false → B' = B ∧ ds' = ds
theorem After.trans {top : Bool} {N : Nat} {B B' B'' : Base} {ds ds' ds'' : List Deferred} (h : After top N B ds B' ds') (k : After top N B' ds' B'' ds'') : After top N B ds B'' ds'' :=
  ⟨h.le.trans k.le, k.marks, k.kin, k.size, fun e => ⟨(k.same e).1.trans (h.same e).1, (k.same e).2.trans (h.same e).2⟩⟩

theorem code_ok (hcx : CxOK P cx) (hm : P.follows .mixedOrders = true) (hfc : FnsCode P cx.fns) : ∀ (c : Code) (top : Bool) (r : Option Nat) (n N keep : Nat) (β0 : Place) (_ : ∀ i, keep ≤ i → β0 i = none) (B : Base) (ds : List Deferred) (id : Option Nat) (s : St) (ex : Ex) (s' : St) (a : Act) (w : World) (β : Place) (F : Froz) (Q : Exit → Act → World → Prop), (top = true → r = none) → codeOK top c = true →
    acode cx ntmps keep R gcs c id s = some (ex, s') → Sim B β0 ntmps ds s a w β F → After top N B ds B ds → (∀ B' ds' a' w' β' F', After top N B ds B' ds' → Sim B' β0 ntmps ds' s' a' w' β' F' → Q (exOf ex) a' w') → c.wpIn (fr r) n P Q a w
  | .skip, top, r, n, N, keep, β0, hk, B, ds, id, s, ex, s', a, w, β, F, Q, hr, hc, h, hS, hA, hQ => by
    simp only [acode, Option.some.injEq, Prod.mk.injEq] at h
    obtain ⟨rfl, rfl⟩ := h
    exact wpIn_skip (hQ _ _ _ _ _ _ hA hS)
  | .region rid ops draw, top, r, n, N, keep, β0, hk, B, ds, id, s, ex, s', a, w, β, F, Q, hr, hc, h, hS, hA, hQ => by
    simp only [acode, aregion, Option.map_eq_some_iff, Prod.mk.injEq] at h
    obtain ⟨s1, h1, rfl, rfl⟩ := h
    exact wpIn_mono (region_ok hcx hm hc h1 hS (Q := fun a' w' => Q (exOf .normal) a' w') fun a' w' β' F' hS' hst => hQ _ _ _ _ _ _ hA hS') (by rintro e a' w' ⟨rfl, h⟩; exact h)
  | .seq x y, top, r, n, N, keep, β0, hk, B, ds, id, s, ex, s', a, w, β, F, Q, hr, hc, h, hS, hA, hQ => by
    simp only [codeOK, Bool.and_eq_true] at hc
    simp only [acode, Option.bind_eq_some_iff] at h
    obtain ⟨⟨ex1, s1⟩, h1, h2⟩ := h
    refine wpIn_seq (code_ok hcx hm hfc x top r n N keep β0 hk B ds none s ex1 s1 a w β F _ hr hc.1 h1 hS hA fun B' ds' a' w' β' F' hA' hS' => ?_)
    cases ex1 with
    | normal => exact code_ok hcx hm hfc y top r n N keep β0 hk B' ds' none s1 ex s' a' w' β' F' Q hr hc.2 h2 hS' ⟨.refl _, hA'.marks, hA'.kin, hA'.size, fun _ => ⟨rfl, rfl⟩⟩ fun B2 ds2 a2 w2 β2 F2 hA2 hS2 => hQ _ _ _ _ _ _ (hA'.trans hA2) hS2
    | exit i =>
      simp only [Option.some.injEq, Prod.mk.injEq] at h2
      obtain ⟨rfl, rfl⟩ := h2
      exact hQ _ _ _ _ _ _ hA' hS'
    | ret =>
      simp only [Option.some.injEq, Prod.mk.injEq] at h2
      obtain ⟨rfl, rfl⟩ := h2
      exact hQ _ _ _ _ _ _ hA' hS'
  | .cond c x y, top, r, n, N, keep, β0, hk, B, ds, id, s, ex, s', a, w, β, F, Q, hr, hc, h, hS, hA, hQ => by
    simp only [codeOK, Bool.and_eq_true] at hc
    simp only [acode] at h
    have hrel := ev_rel hS.env c
    split at h
    · rename_i hev
      simp only [hev] at hrel
      refine wpIn_cond (t := true) (by generalize a.eval c = cv at hrel; cases hrel; rfl) ?_
      exact code_ok hcx hm hfc x top r n N keep β0 hk B ds none s ex s' a w β F Q hr hc.1 h hS hA hQ
    · rename_i hev
      simp only [hev] at hrel
      refine wpIn_cond (t := false) (by generalize a.eval c = cv at hrel; cases hrel; rfl) ?_
      exact code_ok hcx hm hfc y top r n N keep β0 hk B ds none s ex s' a w β F Q hr hc.2 h hS hA hQ
    · cases h
  | .block bid c, top, r, n, N, keep, β0, hk, B, ds, id, s, ex, s', a, w, β, F, Q, hr, hc, h, hS, hA, hQ => by
    simp only [acode, Option.map_eq_some_iff] at h
    obtain ⟨⟨ex1, s1⟩, h1, h2⟩ := h
    refine wpIn_block (code_ok hcx hm hfc c top r n N keep β0 hk B ds (some bid) s ex1 s1 a w β F _ hr (by simpa [codeOK] using hc) h1 hS hA fun B' ds' a' w' β' F' hA' hS' => ?_)
    cases ex1 with
    | normal =>
      simp only [Prod.mk.injEq] at h2
      obtain ⟨rfl, rfl⟩ := h2
      exact hQ _ _ _ _ _ _ hA' hS'
    | exit i =>
      simp only at h2
      by_cases e : i = bid
      · rw [if_pos e] at h2
        simp only [Prod.mk.injEq] at h2
        obtain ⟨rfl, rfl⟩ := h2
        simp only [exOf, Exit.inBlock, e, if_true]
        exact hQ _ _ _ _ _ _ hA' hS'
      · rw [if_neg e] at h2
        simp only [Prod.mk.injEq] at h2
        obtain ⟨rfl, rfl⟩ := h2
        simp only [exOf, Exit.inBlock, e, if_false]
        exact hQ _ _ _ _ _ _ hA' hS'
    | ret =>
      simp only [Prod.mk.injEq] at h2
      obtain ⟨rfl, rfl⟩ := h2
      exact hQ _ _ _ _ _ _ hA' hS'
  | .loop c, top, r, n, N, keep, β0, hk, B, ds, id, s, ex, s', a, w, β, F, Q, hr, hc, h, hS, hA, hQ => by
    simp only [acode] at h
    have key : ∀ (m : Nat) (B1 : Base) (ds1 : List Deferred) (s : St) (a : Act) (w : World) (β : Place) (F : Froz), rounds (fun s => (head keep (gcOf gcs id) s).bind fun s => acode cx ntmps keep R gcs c none s) m s = some (ex, s') → Sim B1 β0 ntmps ds1 s a w β F → After top N B ds B1 ds1 →
        Code.roundsIn (fr r) n P c Q m a w := by
      intro m
      induction m with
      | zero => intro B1 ds1 s a w β F h _ _; simp [rounds] at h
      | succ m ih =>
        intro B1 ds1 s a w β F h hS hA1
        unfold rounds at h
        cases hb : (head keep (gcOf gcs id) s).bind fun s => acode cx ntmps keep R gcs c none s with
        | none => simp [hb] at h
        | some rr =>
          obtain ⟨ex1, s1⟩ := rr
          simp only [hb] at h
          rw [Option.bind_eq_some_iff] at hb
          obtain ⟨s0, hb1, hb2⟩ := hb
          obtain ⟨β1, F1, hS1⟩ := head_ok hk hb1 hS
          rw [roundsIn_succ]
          refine code_ok hcx hm hfc c top r n N keep β0 hk B1 ds1 none s0 ex1 s1 a w β1 F1 _ hr (by simpa [codeOK] using hc) hb2 hS1 ⟨.refl _, hA1.marks, hA1.kin, hA1.size, fun _ => ⟨rfl, rfl⟩⟩ fun B' ds' a' w' β' F' hA' hS' => ?_
          cases ex1 with
          | normal => exact ih B' ds' s1 a' w' β' F' h hS' (hA1.trans hA')
          | exit i =>
            simp only [Option.some.injEq, Prod.mk.injEq] at h
            obtain ⟨rfl, rfl⟩ := h
            exact hQ _ _ _ _ _ _ (hA1.trans hA') hS'
          | ret =>
            simp only [Option.some.injEq, Prod.mk.injEq] at h
            obtain ⟨rfl, rfl⟩ := h
            exact hQ _ _ _ _ _ _ (hA1.trans hA') hS'
    exact wpIn_loop_rounds R (key R B ds s a w β F h hS hA)
  | .exit i, top, r, n, N, keep, β0, hk, B, ds, id, s, ex, s', a, w, β, F, Q, hr, hc, h, hS, hA, hQ => by
    simp only [acode, Option.some.injEq, Prod.mk.injEq] at h
    obtain ⟨rfl, rfl⟩ := h
    exact wpIn_exit (hQ _ _ _ _ _ _ hA hS)
  | .ret, top, r, n, N, keep, β0, hk, B, ds, id, s, ex, s', a, w, β, F, Q, hr, hc, h, hS, hA, hQ => by
    simp only [acode, Option.some.injEq, Prod.mk.injEq] at h
    obtain ⟨rfl, rfl⟩ := h
    exact wpIn_ret (hQ _ _ _ _ _ _ hA hS)
  | .rangeFunc g ps assign body, top, r, n, N, keep, β0, hk, B, ds, id, s, ex, s', a, w, β, F, Q, hr, hc, h, hS, hA, hQ => by
    simp only [codeOK, Bool.and_eq_true] at hc
    obtain ⟨⟨htop, hc1⟩, hc2⟩ := hc
    subst htop
    have := hr rfl
    subst this
    have round : ∀ (c : Code), (∀ (top : Bool) (r : Option Nat) (n N keep : Nat) (β0 : Place) (_ : ∀ i, keep ≤ i → β0 i = none) (B : Base) (ds : List Deferred) (id : Option Nat) (s : St) (ex : Ex) (s' : St) (a : Act) (w : World) (β : Place) (F : Froz) (Q : Exit → Act → World → Prop), (top = true → r = none) → codeOK top c = true →
      acode cx ntmps keep R gcs c id s = some (ex, s') → Sim B β0 ntmps ds s a w β F → After top N B ds B ds → (∀ B' ds' a' w' β' F', After top N B ds B' ds' → Sim B' β0 ntmps ds' s' a' w' β' F' → Q (exOf ex) a' w') → c.wpIn (fr r) n P Q a w) →
        codeOK false c = true → RoundCode P cx R ntmps gcs c := fun c hcode hc l n keep B β0 hk s ex s' a w β F Q h hS hQ => by
      refine hcode false (some l) n 0 keep β0 hk B [] none s ex s' a w β F Q (by simp) hc h hS ⟨.refl _, .nil, hS.inv.kin, Nat.zero_le _, fun _ => ⟨rfl, rfl⟩⟩ fun B' ds' a' w' β' F' hA' hS' => ?_
      obtain ⟨rfl, rfl⟩ := hA'.same rfl
      exact hQ a' w' β' F' hS'
    exact range_ok hcx hm hfc (round assign (fun top r n N keep β0 hk B ds id s ex s' a w β F Q => code_ok hcx hm hfc assign top r n N keep β0 hk B ds id s ex s' a w β F Q) hc1) (round body (fun top r n N keep β0 hk B ds id s ex s' a w β F Q => code_ok hcx hm hfc body top r n N keep β0 hk B ds id s ex s' a w β F Q) hc2) hA.size h hS hA.marks fun B' ds' a' w' β' F' hle hmk hkin hS' =>
      hQ B' ds' a' w' β' F' ⟨hle, hmk, hkin, Nat.le_trans hA.size hle.size, by simp⟩ hS'
  | .scope .., top, r, n, N, keep, β0, hk, B, ds, id, s, ex, s', a, w, β, F, Q, hr, hc, h, hS, hA, hQ | .label .., top, r, n, N, keep, β0, hk, B, ds, id, s, ex, s', a, w, β, F, Q, hr, hc, h, hS, hA, hQ | .goto .., top, r, n, N, keep, β0, hk, B, ds, id, s, ex, s', a, w, β, F, Q, hr, hc, h, hS, hA, hQ | .refuse .., top, r, n, N, keep, β0, hk, B, ds, id, s, ex, s', a, w, β, F, Q, hr, hc, h, hS, hA, hQ => by
    simp [acode] at h

/-- Marks are left with. -/
theorem leaves_ok {fc : Func} {N n : Nat} {Rr : Ending → World → Prop} {tmps : Array Value} {B0 : Base} {β : Place} {F : Froz} {H : Heap} (hlt : ∀ b, B0.K b → b < N) : ∀ (ds : List Deferred) (B : Base) (w : World), Marks N B ds → BLe B0 B → Inv B β F H w → Inv B0 β F H w →
    (∀ w', (∀ b o, cl w' b o = cl w b o) → Inv B0 β F H w' → LeavesInM (fr none) n P fc tmps Rr [] .returning w') → LeavesInM (fr none) n P fc tmps Rr ds .returning w
  | [], B, w, hm, hle, hB, hI, h => h w (fun _ _ => rfl) hI
  | d :: ds, B, w, hm, hle, hB, hI, h => by
    cases hm with
    | cons D _ hN hK h0 hd hm =>
      have hw : w.heap[D]? = some (.deferred (some [])) := (hB.keep D hK).trans h0
      have hcl := cl_putObj (o' := .deferred none) hw rfl rfl
      refine ⟨by simp, .inl ⟨D, w.putObj D (.deferred none), rfl, run_takeDeferred hw, ?_⟩⟩
      have hx : Ext β β F F w (w.putObj D (.deferred none)) := ⟨fun _ _ h => h, fun b x hf => ⟨hf, hcl b x⟩⟩
      have turn : ∀ (B1 : Base), Inv B1 β F H w → (∀ b, B1.K b → b ≠ D) → Inv B1 β F H (w.putObj D (.deferred none)) := fun B1 hi hne => by
        refine ⟨hi.os, hi.tape, hi.output, by simpa using hi.size, fun b hb => (World.putObj_heap_other (hne b hb)).trans (hi.keep b hb), hi.kin, hi.inj, fun i lc b h1 h2 => by simpa using hi.fresh i lc b h1 h2, fun i ob ho => ?_, fun b x hf => by simpa using hi.froz b x hf, hi.prot⟩
        obtain ⟨lc, h1, h2⟩ := hi.obs i ob ho
        refine ⟨lc, h1, h2.keep hx fun b hb => World.putObj_heap_other fun e => ?_⟩
        subst e
        exact (hB.fresh i lc _ h1 hb).2 hK
      -- the base without D
      let B2 : Base := ⟨B.w0, fun b => B.K b ∧ b ≠ D, B.F0⟩
      have hB2 : Inv B2 β F H w := ⟨hB.os, hB.tape, hB.output, hB.size, fun b hb => hB.keep b hb.1, fun b hb => hB.kin b hb.1, hB.inj, fun i l b h1 h2 => ⟨(hB.fresh i l b h1 h2).1, fun hb => (hB.fresh i l b h1 h2).2 hb.1⟩, hB.obs, fun b o hf => ⟨(hB.froz b o hf).1, fun hb => (hB.froz b o hf).2 hb.1⟩, hB.prot⟩
      have hm2 : ∀ ds : List Deferred, (∀ d ∈ ds, d.target ≠ .collected D) → Marks N B ds → Marks N B2 ds := by
        intro ds hd hm
        induction hm with
        | nil => exact .nil
        | cons E ds hN hK h0 hd' hm ih => exact .cons E ds hN ⟨hK, fun e => hd _ (.head _) (by rw [e])⟩ h0 hd' (ih fun d h => hd d (.tail _ h))
      have hne0 : ∀ b, B0.K b → b ≠ D := fun b hb e => by have := hlt b hb; omega
      refine leaves_ok hlt ds B2 _ (hm2 ds hd hm) ⟨fun b hb => ⟨hle.k b hb, hne0 b hb⟩, hle.same, hle.size, hle.os, hle.tape, hle.output, hle.f0, hle.f1⟩ (turn B2 hB2 fun b hb => hb.2) (turn B0 hI hne0) fun w' hw' hI' => h w' (fun b o => (hw' b o).trans (hcl b o)) hI'
end
end Go.Proofs.YtoggbcckkjfkhaaGreat.R
/- Functions: what they answer, and the whole. -/
namespace Go.Proofs.YtoggbcckkjfkhaaGreat.R
set_option linter.unusedVariables false
set_option linter.unusedSimpArgs false
open Go Go.RowKit

section
variable {P : Program} {cx : Cx} {B : Base} {β0 : Place} {ntmps keep : Nat} {T : TT}

theorem finish_ok (hk : ∀ i, keep ≤ i → β0 i = none) {w : World} {β : Place} {F : Froz} {H h' : Heap} {rfz : Bool} {v r : V} {cv : Value} (h : finish keep rfz v H = some (r, h')) (hI : Inv B β F H w) (hx : Ext β0 β B.F0 F B.w0 w) (hr : Rel F (cl w) β v cv) :
    ∃ β' F', Rel F' (cl w) β' r cv ∧ Inv B β' F' h' w ∧ Ext β0 β' B.F0 F' B.w0 w := by
  have key : ∀ (v : V) (H : Heap) (F : Froz), (let l := reach keep H 4096 (upto keep (V.ids v)) []
      if begins keep 0 l then (V.re (idx l) v).bind fun v => (pull H (idx l) l).map fun h => (v, h) else none) = some (r, h') → Inv B β F H w → Ext β0 β B.F0 F B.w0 w → Rel F (cl w) β v cv →
      ∃ β' F', Rel F' (cl w) β' r cv ∧ Inv B β' F' h' w ∧ Ext β0 β' B.F0 F' B.w0 w := by
    intro v H F h hI hx hr
    simp only at h
    generalize hl : reach keep H 4096 (upto keep (V.ids v)) [] = l at h
    have hnd : l.Nodup := by rw [← hl]; exact reach_nodup _ _ _ _ _ (by simp)
    split at h
    · rename_i hb
      simp only [Option.bind_eq_some_iff, Option.map_eq_some_iff, Prod.mk.injEq] at h
      obtain ⟨v1, hv, h1, hh, rfl, rfl⟩ := h
      obtain ⟨p1, p2⟩ := pull_get hh
      have hβ : ∀ i j, idx l i = some j → (fun j => (l[j]?).bind β) j = β i := fun i j hj => by simp [idx_get hj]
      refine ⟨fun j => (l[j]?).bind β, F, hr.re hβ hv, hI.renum (fun j => l[j]?) (idx l) (fun i j h => idx_get h) (fun j k i h1 h2 => nodup_at hnd h1 h2) p2, fun i lc hi => ?_, hx.froz⟩
      have hlt : i < keep := by
        rcases Nat.lt_or_ge i keep with h | h
        · exact h
        · rw [hk i h] at hi; cases hi
      have := begins_get hb i hlt
      rw [Nat.zero_add] at this
      simp only [this, Option.bind_some]
      exact hx.place i lc hi
    · cases h
  unfold finish at h
  simp only [Option.bind_eq_some_iff] at h
  obtain ⟨⟨v1, H1⟩, h1, h2⟩ := h
  cases rfz with
  | false =>
    simp only [Bool.false_eq_true, if_false, Option.some.injEq, Prod.mk.injEq] at h1
    obtain ⟨rfl, rfl⟩ := h1
    exact key v H F h2 hI hx hr
  | true =>
    simp only [if_true, Option.map_eq_some_iff, Prod.mk.injEq] at h1
    obtain ⟨⟨⟨v2, u⟩, l⟩, h3, rfl, rfl⟩ := h1
    obtain ⟨x', u', l1, h4, h5, h6⟩ := frz_ok hI v _ [] _ cv h3 hr
    simp only [Rd.run, Option.some.injEq, Prod.mk.injEq] at h4
    obtain ⟨⟨rfl, rfl⟩, _⟩ := h4
    exact key _ _ _ h2 (hI.also h6) (hx.trans ⟨fun _ _ h => h, fun b o hf => ⟨.inl hf, rfl⟩⟩) h5

theorem runFn_ok (hcx : CxOK P cx) (hm : P.follows .mixedOrders = true) (hfc : FnsCode P cx.fns) {g : FuncId} {fn : AFn} {R : Nat} {fc : Func} (hf : P.funcs[g]? = some fc) (hb : fc.body = some fn.body) (hn : fc.ntmps = fn.ntmps) (hres : fc.results.toList = fn.res) (hc : codeOK true fn.body = true) :
    FunOK P g (runFn cx fn R) := by
  intro args hs r h heq β F w cargs hI hfresh hargs
  unfold runFn at heq
  split at heq
  · cases heq
  · rename_i hlen
    rw [Option.bind_eq_some_iff] at heq
    obtain ⟨⟨ex, s⟩, hcode, h2⟩ := heq
    have hsz := hargs.size
    rw [← calls_fr (r := none) (n := 0)]
    refine callsIn_of_wp_marks hf hb trivial (code_ok hcx hm hfc fn.body true none 0 w.heap.size hs.length β hfresh ⟨w, KOf β w, F⟩ [] none _ ex s _ w β F _ (fun _ => rfl) hc hcode ⟨hI, by rw [hn]; exact args_env _ hargs, rfl, ?_, by simpa using hfresh, .refl _ _ _⟩ ⟨.refl _, .nil, hI.kin, Nat.le_refl _, by simp⟩ fun B' ds' a' w' β' F' hA' hS' => ?_)
    · simp only [Array.size_append, Array.size_replicate]
      omega
    · have hS0 := hS'.rebase hA'.le hI.kin
      have fin : (resAll cx.T s fn.res).bind (fun vs => finish hs.length fn.rfz (oneOf vs) s.heap) = some (r, h) → LeavesInM (fr none) 0 P fc a'.tmps (fun e w' => ∃ cv β' F', e = .returned cv ∧ Post w β F r h cv w' β' F') a'.defers .returning w' := by
        intro h2
        rw [Option.bind_eq_some_iff] at h2
        obtain ⟨vs, hvs, hfin⟩ := h2
        rw [hS'.defers]
        refine leaves_ok (B0 := ⟨w, KOf β w, F⟩) hI.kin ds' B' w' hA'.marks hA'.le hS'.inv hS0.inv fun w2 hcl hI2 => ?_
        have hx : Ext β' β' F' F' w' w2 := ⟨fun _ _ h => h, fun b o hf => ⟨hf, hcl b o⟩⟩
        have hS2 : Sim ⟨w, KOf β w, F⟩ β fn.ntmps ds' s a' w2 β' F' := ⟨hI2, hx.env hS0.env, hS0.defers, hS0.size, hS0.fresh, hS0.ext.trans hx⟩
        obtain ⟨cv, h3, h4⟩ := results_ok hcx.types hS2 (fn := fc) (by rw [hres]; exact hvs)
        obtain ⟨β2, F2, h5, h6, h7⟩ := finish_ok hfresh hfin hS2.inv hS2.ext h4
        exact ⟨cv, h3, cv, β2, F2, rfl, h5, h6, h7⟩
      cases ex with
      | normal => exact fin h2
      | ret => exact fin h2
      | exit i => cases h2

/-- A function of the table is one of the program's. -/
structure FnGood (P : Program) (g : FuncId) (fn : AFn) : Prop where
  fc : ∃ fc : Func, P.funcs[g]? = some fc ∧ (fc.name == "runtime.NumGoroutine") = false ∧ fc.body.isNone = false ∧ (fn.intr = none → fc.body = some fn.body ∧ fc.ntmps = fn.ntmps ∧ fc.results.toList = fn.res ∧ codeOK true fn.body = true)
  intr : ∀ G, fn.intr = some G → FunOK P g G

theorem acall_ok (hT : TOK P T) (hm : P.follows .mixedOrders = true) {fns : FuncId → Option AFn} {R : Nat} (hF : ∀ g fn, fns g = some fn → FnGood P g fn) : ∀ (d : Nat) (g : FuncId), FunOK P g (acall T fns R d g)
  | 0, g => fun args hs r h heq => by simp [acall] at heq
  | d + 1, g => fun args hs r h heq => by
    unfold acall at heq
    split at heq
    · cases heq
    · rename_i fn hfn
      have hg := hF g fn hfn
      split at heq
      · rename_i G hi
        exact hg.intr G hi args hs r h heq
      · rename_i hi
        obtain ⟨fc, h1, h2, h3, h4⟩ := hg.fc
        obtain ⟨h5, h6, h7, h8⟩ := h4 hi
        refine runFn_ok (cx := { T, fns, call := acall T fns R d }) ⟨hT, ⟨fun g fn hfn => ?_⟩, fun g fn hfn => acall_ok hT hm hF d g⟩ hm ⟨fun g fn hfn hi => ?_⟩ h1 h5 h6 h7 h8 args hs r h heq
        · obtain ⟨fc, a1, a2, a3, _⟩ := (hF g fn hfn).fc
          exact ⟨fc, a1, a3, a2⟩
        · obtain ⟨fc, a1, a2, a3, a4⟩ := (hF g fn hfn).fc
          obtain ⟨b1, b2, b3, b4⟩ := a4 hi
          exact ⟨fc, a1, a2, b1, b2, b3, b4⟩

end

end Go.Proofs.YtoggbcckkjfkhaaGreat.R
/- slices.Clone, of elements of any type. -/
namespace Go.Proofs.YtoggbcckkjfkhaaGreat.R
set_option linter.unusedVariables false
set_option linter.unusedSimpArgs false
open Go Go.RowKit

def cl0 (t : TypeId) : Array Oper := #[{ dst := some 2, op := .assign (.const (.slice none 0 0)), type := t, pos := "slices.go:355", after := #[], guard := none }]
def cl1 (t : TypeId) : Array Oper := #[{ dst := some 3, op := .move (.tmp 0), type := t, pos := "slices.go:357", after := #[], guard := none },
  { dst := some 4, op := .binOp .eql t (.tmp 3) (.const (.slice none 0 0)) t, type := 4, pos := "slices.go:357", after := #[{ on := 0, ground := .data }], guard := none }]
def cl2 (t : TypeId) : Array Oper := #[{ dst := some 2, op := .assign (.const (.slice none 0 0)), type := t, pos := "slices.go:358", after := #[], guard := none }]
def cl3 (t : TypeId) : Array Oper := #[{ dst := some 5, op := .buildSlice t 0 #[], type := t, pos := "slices.go:362", after := #[], guard := none },
  { dst := some 6, op := .move (.tmp 0), type := t, pos := "slices.go:362", after := #[], guard := none },
  { dst := some 7, op := .call { callee := .builtin .append, args := #[.tmp 5, .tmp 6], argTypes := #[t, t] }, type := t, pos := "slices.go:362", after := #[{ on := 0, ground := .data }, { on := 1, ground := .data }], guard := none },
  { dst := some 2, op := .assign (.tmp 7), type := t, pos := "slices.go:362", after := #[{ on := 2, ground := .data }, { on := 2, ground := .chain }, { on := 0, ground := .phase }, { on := 1, ground := .phase }, { on := 2, ground := .phase }], guard := none }]
/-- The code of slices.Clone at the slices' type 't'. -/
def cloneCode (t : TypeId) : Code := (Code.region 0 (cl0 t) false).seq (((Code.region 1 (cl1 t) false).seq (.cond (.tmp 4) ((Code.region 2 (cl2 t) false).seq .ret) .skip)).seq ((Code.region 3 (cl3 t) false).seq .ret))

section
variable {P : Program} {T : TT}

theorem code_wp {cx : Cx} {R ntmps keep : Nat} {gcs : List AGc} {B : Base} {β0 : Place} (hcx : CxOK P cx) (hm : P.follows .mixedOrders = true) (hfc : FnsCode P cx.fns) (hk : ∀ i, keep ≤ i → β0 i = none) (c : Code) (id : Option Nat) (s : St) (ex : Ex) (s' : St) (a : Act) (w : World) (β : Place) (F : Froz) (Q : Exit → Act → World → Prop) (hc : codeOK false c = true)
    (h : acode cx ntmps keep R gcs c id s = some (ex, s')) (hS : Sim B β0 ntmps [] s a w β F) (hQ : ∀ a' w' β' F', Sim B β0 ntmps [] s' a' w' β' F' → Q (exOf ex) a' w') : c.wp P Q a w := by
  have h1 : c.wpIn (fr none) 0 P Q a w := code_ok hcx hm hfc c false none 0 0 keep β0 hk B [] id s ex s' a w β F Q (fun _ => rfl) hc h hS ⟨.refl _, .nil, hS.inv.kin, Nat.zero_le _, fun _ => ⟨rfl, rfl⟩⟩ fun B' ds' a' w' β' F' hA' hS' => by
    obtain ⟨rfl, rfl⟩ := hA'.same rfl
    exact hQ a' w' β' F' hS'
  exact wpIn_wide.1 h1

theorem clone_ok (hT : TOK P T) (hm : P.follows .mixedOrders = true) {g : FuncId} {fc : Func} {t el : TypeId} {ti ti' : TI} (hti' : T t = some ti') (hk : ti'.kd = .slice el) (hti : T el = some ti) (hbz : 0 < ti.bytes)
    (hf : P.funcs[g]? = some fc) (hb : fc.body = some (cloneCode t)) (hn : fc.ntmps = 8) (hres : fc.results.toList = [.tmp 2]) : FunOK P g (cloneFn ti.size ti.bytes) := by
  intro args hs r h heq β F w cargs hI hfresh hargs
  unfold cloneFn at heq
  split at heq
  · rename_i rows
    split at heq
    · rename_i hc
      obtain ⟨h0, hall, hbytes⟩ := hc
      simp only [Option.some.injEq, Prod.mk.injEq] at heq
      obtain ⟨rfl, rfl⟩ := heq
      have hsz : cargs.size = 1 := hargs.size
      have hu := (hT.told hti').slice hk
      obtain ⟨cv0, rfl⟩ : ∃ cv0, cargs = #[cv0] := Array.size_eq_one_iff.1 hsz
      have hr0 : Rel F (cl w) β (.fz rows) cv0 := by simpa [Array.getD] using hargs.at_ 0 _ rfl
      have hcx : CxOK P { T, fns := fun _ => none, call := fun _ _ _ => none } := ⟨hT, ⟨fun g fn h => by cases h⟩, fun g fn h => by cases h⟩
      have hfc0 : FnsCode P (fun _ => none) := ⟨fun g fn h => by cases h⟩
      have fin : ∀ (e : Env) (a' : Act) (w' : World) (β' : Place) (F' : Froz) (H : Heap) (h' : Heap) (v : V) (r : V), finish 0 false v H = some (r, h') → Sim ⟨w, KOf β w, F⟩ β 8 [] { env := e, heap := H } a' w' β' F' → lk e 2 = v →
          bodyPost P fc (fun e w' => ∃ cv β' F', e = .returned cv ∧ Post w β F r h' cv w' β' F') .ret a' w' := by
        intro e a' w' β' F' H h' v r hfin hS hv
        obtain ⟨cv, h3, h4⟩ := results_ok hT hS (fn := fc) (vs := [v]) (by rw [hres]; simp [resAll, resOne, hv])
        obtain ⟨β2, F2, h5, h6, h7⟩ := finish_ok (keep := 0) (by simpa using hfresh) hfin hS.inv hS.ext h4
        exact ⟨hS.defers, cv, h3, cv, β2, F2, rfl, h5, h6, h7⟩
      refine calls_of_wp hf hb ?_
      have hS0 : Sim ⟨w, KOf β w, F⟩ β 8 [] { env := [(0, .fz rows)], heap := [] } { tmps := #[cv0] ++ Array.replicate (fc.ntmps - (#[cv0] : Array Value).size) undef, defers := [] } w β F := by
        refine ⟨hI, fun t => ?_, rfl, by simp [hn], by simpa using hfresh, .refl _ _ _⟩
        rw [lk_cons]
        by_cases e : 0 = t
        · subst e
          have : (#[cv0] ++ Array.replicate (fc.ntmps - (#[cv0] : Array Value).size) undef).getD 0 undef = cv0 := by simp [Array.getD, hn]
          simp only [this, if_true]
          exact hr0
        · rw [if_neg e]; exact .undef _ _
      unfold cloneCode
      refine wp_seq (code_wp hcx hm hfc0 (R := 0) (gcs := []) (keep := 0) (ntmps := 8) (by simpa using hfresh) _ none _ .normal { env := [(2, .nils), (0, .fz rows)], heap := [] } _ _ _ _ _ rfl rfl hS0 fun a1 w1 β1 F1 hS1 => ?_)
      have hr1 : Rel F1 (cl w1) β1 (.fz rows) (a1.tmps.getD 0 undef) := hS1.env 0
      obtain ⟨adr, cap, hcv⟩ : ∃ adr cap, a1.tmps.getD 0 undef = .slice adr rows.length cap ∧ (adr = none → rows = []) := by
        generalize a1.tmps.getD 0 undef = cv at hr1
        cases hr1 with
        | fz0 => exact ⟨_, _, rfl, fun _ => rfl⟩
        | fz => exact ⟨_, _, rfl, fun h => by cases h⟩
      have hS2 : Sim ⟨w, KOf β w, F⟩ β 8 [] { env := [(4, .bool adr.isNone), (3, .fz rows), (2, .nils), (0, .fz rows)], heap := [] } ((a1.put (some 3) (a1.tmps.getD 0 undef)).put (some 4) (.bool adr.isNone)) w1 β1 F1 := by
        obtain ⟨k1, k2, k3, _⟩ := putDst_env (d := some 3) hS1.env hS1.size hr1 (e' := [(3, .fz rows), (2, .nils), (0, .fz rows)]) rfl
        obtain ⟨g1, g2, g3, _⟩ := putDst_env (d := some 4) k1 k2 (Rel.bool β1 adr.isNone) (e' := [(4, .bool adr.isNone), (3, .fz rows), (2, .nils), (0, .fz rows)]) rfl
        exact ⟨hS1.inv, g1, by rw [g3, k3, hS1.defers], g2, hS1.fresh, hS1.ext⟩
      have first : ∀ Q : Exit → Act → World → Prop, Q .normal ((a1.put (some 3) (a1.tmps.getD 0 undef)).put (some 4) (.bool adr.isNone)) w1 → (Code.region 1 (cl1 t) false).wp P Q a1 w1 := by
        intro Q hQ
        refine wp_region ?_
        show wpOps P (cl1 t) _ [0, 1] a1 w1
        have hw0 : ∀ (a : Act), Region.wanted ((cl1 t)[0]'(by simp [cl1])) (yielded (cl1 t) a.tmps) = true := fun a => rfl
        have hw1 : ∀ (a : Act), Region.wanted ((cl1 t)[1]'(by simp [cl1])) (yielded (cl1 t) a.tmps) = true := fun a => rfl
        rw [wpOps_cons]
        unfold wpOp
        simp only [show (cl1 t)[0]? = some ((cl1 t)[0]'(by simp [cl1])) from rfl, hw0, if_true]
        left
        refine wp_value (cv := a1.tmps.getD 0 undef) rfl ?_
        rw [wpOps_cons]
        unfold wpOp
        simp only [show (cl1 t)[1]? = some ((cl1 t)[1]'(by simp [cl1])) from rfl, hw1, if_true]
        left
        refine wp_value (cv := .bool adr.isNone) ?_ hQ
        show (do pure (Next.value (← (do eqGuard .eql t (.tmp 3) (.const (.slice none 0 0)) ((a1.put (some 3) (a1.tmps.getD 0 undef)).eval (.tmp 3)) (.slice none 0 0); binOp .eql t ((a1.put (some 3) (a1.tmps.getD 0 undef)).eval (.tmp 3)) (.slice none 0 0) : Sem Value))) : Sem _).run P w1 = _
        have he : (a1.put (some 3) (a1.tmps.getD 0 undef)).eval (.tmp 3) = .slice adr rows.length cap := by
          have h3 : 3 < a1.tmps.size := by rw [hS1.size]; omega
          rw [hcv.1]
          simp [Act.eval, Act.put, Array.getD, h3]
        rw [he]
        have heq : (Op.equal t (.slice adr rows.length cap) (.slice none 0 0)).run P w1 = .ok adr.isNone w1 :=
          (show ∀ d, (Op.equalIn (d + 1) t _ _).run P w1 = _ from fun d => by cases adr <;> simp [Op.equalIn, run_underlying hu]) 9999
        rw [Sem.run_bind, Sem.run_bind, eqGuard_free (by simp) (by simp)]
        simp only [Result.andThen_ok]
        rw [show binOp .eql t (.slice adr rows.length cap) (.slice none 0 0) = (do pure (.bool (← Op.equal t (.slice adr rows.length cap) (.slice none 0 0))) : Sem Value) from rfl]
        simp [heq]
      refine wp_seq (wp_seq (first _ (wp_cond (t := adr.isNone) ?_ ?_)))
      · have := hS2.env 4
        show (((a1.put (some 3) (a1.tmps.getD 0 undef)).put (some 4) (.bool adr.isNone)).tmps.getD 4 undef) = _
        generalize ((a1.put (some 3) (a1.tmps.getD 0 undef)).put (some 4) (.bool adr.isNone)).tmps.getD 4 undef = cv at this
        cases this
        rfl
      cases hadr : adr with
      | none =>
        obtain rfl := hcv.2 hadr
        subst hadr
        simp only [Option.isNone_none, if_true]
        refine code_wp hcx hm hfc0 (R := 0) (gcs := []) (keep := 0) (ntmps := 8) (by simpa using hfresh) _ none _ .ret { env := [(2, .nils), (4, .bool true), (3, .fz []), (2, .nils), (0, .fz [])], heap := [] } _ _ _ _ _ rfl rfl hS2 fun a3 w3 β3 F3 hS3 => ?_
        have hI3 := hS3.inv.addNil (n := 0) (hS3.fresh 0 (Nat.le_refl _)) rfl ti.size
        have hx3 : Ext β3 (β3.set 0 .nil) F3 F3 w3 w3 := ⟨set_ext (hS3.fresh 0 (Nat.le_refl _)), fun _ _ h => ⟨h, rfl⟩⟩
        obtain ⟨cv, g3, g4⟩ := results_ok hT hS3 (fn := fc) (vs := [.nils]) (by rw [hres]; rfl)
        refine ⟨hS3.defers, cv, g3, cv, _, F3, rfl, ?_, hI3, hS3.ext.trans hx3⟩
        have g5 : Rel F3 (cl w3) β3 .nils cv := g4
        cases g5
        exact .ms0 _ _ _ _ (by simp [Place.set]) (by simp)
      | some ad =>
        subst hadr
        simp only [Option.isNone_some, Bool.false_eq_true, if_false]
        refine wp_skip ?_
        have hb' : ¬ (ti.size = 0 ∨ 16777216 < 0 * ti.size) := by omega
        have h1 : buildSliceR T 0 t 0 [] = .pure (.ms 0 ti.size 0 0 none, [(0, some (.buf ti.size [] false true))]) := by
          simp only [buildSliceR, hti', hk, hti, if_neg hb']
          rfl
        have h3 : appendB T 1 t t (.ms 0 ti.size 0 0 none) (.fz rows) = appendR ti 1 (.ms 0 ti.size 0 0 none) rows true := by
          simp only [appendB, hti', hk, hti, if_neg h0, rows?, hall, if_true]
        let cx : Cx := { T, fns := fun _ => none, call := fun _ _ _ => none }
        have three : ∀ v u l, (appendR ti 1 (.ms 0 ti.size 0 0 none) rows true).run [some (.buf ti.size [] false true)] [] = some ((v, u), l) →
            acode cx 8 0 0 [] ((Code.region 3 (cl3 t) false).seq .ret) none { env := [(4, .bool false), (3, .fz rows), (2, .nils), (0, .fz rows)], heap := [] } =
              some (.ret, { env := [(2, v), (7, v), (6, .fz rows), (5, .ms 0 ti.size 0 0 none), (4, .bool false), (3, .fz rows), (2, .nils), (0, .fz rows)], heap := Heap.puts [some (.buf ti.size [] false true)] u }) := by
          intro v u l hv
          show ((Option.map (fun s => (Ex.normal, s)) (match (buildSliceR T 0 t 0 []).run [] [] with
            | none => none
            | some ((v, u), _) => (putDst 8 [(4, .bool false), (3, .fz rows), (2, .nils), (0, .fz rows)] (some 5) v).bind fun e => runOps cx 8 (cl3 t) (cl3 t).toList.tail { env := e, heap := Heap.puts [] u })).bind _) = _
          rw [h1]
          show ((Option.map (fun s => (Ex.normal, s)) (match (appendB T 1 t t (.ms 0 ti.size 0 0 none) (.fz rows)).run [some (.buf ti.size [] false true)] [] with
            | none => none
            | some ((v, u), _) => (putDst 8 [(6, .fz rows), (5, .ms 0 ti.size 0 0 none), (4, .bool false), (3, .fz rows), (2, .nils), (0, .fz rows)] (some 7) v).bind fun e => runOps cx 8 (cl3 t) (cl3 t).toList.tail.tail.tail { env := e, heap := Heap.puts [some (.buf ti.size [] false true)] u })).bind _) = _
          rw [h3, hv]
          rfl
        by_cases hr : rows = []
        · subst hr
          refine code_wp hcx hm hfc0 (R := 0) (gcs := []) (keep := 0) (ntmps := 8) (by simpa using hfresh) _ none _ .ret _ _ _ _ _ _ rfl (three (.ms 0 ti.size 0 0 none) [] [] rfl) hS2 fun a3 w3 β3 F3 hS3 => ?_
          exact fin _ a3 w3 β3 F3 _ _ _ _ rfl hS3 rfl
        · have hl : rows.length ≠ 0 := by simpa using hr
          refine code_wp hcx hm hfc0 (R := 0) (gcs := []) (keep := 0) (ntmps := 8) (by simpa using hfresh) _ none _ .ret _ _ _ _ _ _ rfl (three (.ms 1 ti.size 0 rows.length none) [(0, none), (1, some (.buf ti.size rows false true))] [0] ?_) hS2 fun a3 w3 β3 F3 hS3 => ?_
          · have hle : rows.length ≤ rows.length * ti.bytes := Nat.le_mul_of_pos_right _ hbz
            simp only [appendR, if_neg hl, if_true, Rd.run, Heap.at?, Nat.zero_add, Nat.add_zero, List.length_nil, Nat.le_refl, true_and]
            rw [if_pos ⟨hbytes, by omega⟩]
            simp only [appendM, List.length_nil, Nat.zero_add]
            rw [if_neg (by omega)]
            simp [Rd.run]
          · exact fin _ a3 w3 β3 F3 _ _ _ _ rfl hS3 rfl
    · cases heq
  · cases heq
end
end Go.Proofs.YtoggbcckkjfkhaaGreat.R
/- Types and functions are the program's. -/
namespace Go.Proofs.YtoggbcckkjfkhaaGreat.R
open Go Go.Proofs
theorem tok_ : (table.zipIdx.all fun p => match p.1 with | some ti => tiOK Tryz.prog p.2 ti | none => true) = true := by kernel_rfl
theorem tok : TOK Tryz.prog T := fun t ti h => by
  have hl : table[t]? = some (some ti) := by
    unfold T at h
    split at h
    · rename_i x hx; rw [hx, h]
    · cases h
  have := List.all_eq_true.1 tok_ (some ti, t) (by
    rw [List.mem_iff_getElem?]
    exact ⟨t, by rw [List.getElem?_zipIdx, hl]; simp⟩)
  simpa using this
theorem mixed_ : Tryz.prog.follows .mixedOrders = true := by kernel_rfl
theorem good_3 : FnGood Tryz.prog 3 fn3 := ⟨⟨Tryz.f3, by kernel_rfl, by kernel_rfl, by kernel_rfl, fun _ => ⟨by kernel_rfl, by kernel_rfl, by kernel_rfl, by kernel_rfl⟩⟩, fun _ h => by cases h⟩
theorem good_4 : FnGood Tryz.prog 4 fn4 := ⟨⟨Tryz.f4, by kernel_rfl, by kernel_rfl, by kernel_rfl, fun _ => ⟨by kernel_rfl, by kernel_rfl, by kernel_rfl, by kernel_rfl⟩⟩, fun _ h => by cases h⟩
theorem good_5 : FnGood Tryz.prog 5 fn5 := ⟨⟨Tryz.f5, by kernel_rfl, by kernel_rfl, by kernel_rfl, fun _ => ⟨by kernel_rfl, by kernel_rfl, by kernel_rfl, by kernel_rfl⟩⟩, fun _ h => by cases h⟩
theorem good_6 : FnGood Tryz.prog 6 fn6 := ⟨⟨Tryz.f6, by kernel_rfl, by kernel_rfl, by kernel_rfl, fun _ => ⟨by kernel_rfl, by kernel_rfl, by kernel_rfl, by kernel_rfl⟩⟩, fun _ h => by cases h⟩
theorem good_7 : FnGood Tryz.prog 7 fn7 := ⟨⟨Tryz.f7, by kernel_rfl, by kernel_rfl, by kernel_rfl, fun _ => ⟨by kernel_rfl, by kernel_rfl, by kernel_rfl, by kernel_rfl⟩⟩, fun _ h => by cases h⟩
theorem good_8 : FnGood Tryz.prog 8 fn8 := ⟨⟨Tryz.f8, by kernel_rfl, by kernel_rfl, by kernel_rfl, fun _ => ⟨by kernel_rfl, by kernel_rfl, by kernel_rfl, by kernel_rfl⟩⟩, fun _ h => by cases h⟩
theorem good_9 : FnGood Tryz.prog 9 fn9 := ⟨⟨Tryz.f9, by kernel_rfl, by kernel_rfl, by kernel_rfl, fun _ => ⟨by kernel_rfl, by kernel_rfl, by kernel_rfl, by kernel_rfl⟩⟩, fun _ h => by cases h⟩
theorem good_10 : FnGood Tryz.prog 10 fn10 := ⟨⟨Tryz.f10, by kernel_rfl, by kernel_rfl, by kernel_rfl, fun _ => ⟨by kernel_rfl, by kernel_rfl, by kernel_rfl, by kernel_rfl⟩⟩, fun _ h => by cases h⟩
theorem good_11 : FnGood Tryz.prog 11 fn11 := ⟨⟨Tryz.f11, by kernel_rfl, by kernel_rfl, by kernel_rfl, fun _ => ⟨by kernel_rfl, by kernel_rfl, by kernel_rfl, by kernel_rfl⟩⟩, fun _ h => by cases h⟩
theorem good_12 : FnGood Tryz.prog 12 fn12 := ⟨⟨Tryz.f12, by kernel_rfl, by kernel_rfl, by kernel_rfl, fun _ => ⟨by kernel_rfl, by kernel_rfl, by kernel_rfl, by kernel_rfl⟩⟩, fun _ h => by cases h⟩
theorem good_13 : FnGood Tryz.prog 13 fn13 := ⟨⟨Tryz.f13, by kernel_rfl, by kernel_rfl, by kernel_rfl, fun _ => ⟨by kernel_rfl, by kernel_rfl, by kernel_rfl, by kernel_rfl⟩⟩, fun _ h => by cases h⟩
theorem good_14 : FnGood Tryz.prog 14 fn14 := ⟨⟨Tryz.f14, by kernel_rfl, by kernel_rfl, by kernel_rfl, fun _ => ⟨by kernel_rfl, by kernel_rfl, by kernel_rfl, by kernel_rfl⟩⟩, fun _ h => by cases h⟩
theorem good_15 : FnGood Tryz.prog 15 fn15 := ⟨⟨Tryz.f15, by kernel_rfl, by kernel_rfl, by kernel_rfl, fun _ => ⟨by kernel_rfl, by kernel_rfl, by kernel_rfl, by kernel_rfl⟩⟩, fun _ h => by cases h⟩
theorem good_16 : FnGood Tryz.prog 16 fn16 := ⟨⟨Tryz.f16, by kernel_rfl, by kernel_rfl, by kernel_rfl, fun _ => ⟨by kernel_rfl, by kernel_rfl, by kernel_rfl, by kernel_rfl⟩⟩, fun _ h => by cases h⟩
theorem good_17 : FnGood Tryz.prog 17 fn17 := ⟨⟨Tryz.f17, by kernel_rfl, by kernel_rfl, by kernel_rfl, fun _ => ⟨by kernel_rfl, by kernel_rfl, by kernel_rfl, by kernel_rfl⟩⟩, fun _ h => by cases h⟩
theorem good_18 : FnGood Tryz.prog 18 fn18 := ⟨⟨Tryz.f18, by kernel_rfl, by kernel_rfl, by kernel_rfl, fun _ => ⟨by kernel_rfl, by kernel_rfl, by kernel_rfl, by kernel_rfl⟩⟩, fun _ h => by cases h⟩
theorem good_19 : FnGood Tryz.prog 19 fn19 := ⟨⟨Tryz.f19, by kernel_rfl, by kernel_rfl, by kernel_rfl, fun _ => ⟨by kernel_rfl, by kernel_rfl, by kernel_rfl, by kernel_rfl⟩⟩, fun _ h => by cases h⟩
theorem good_20 : FnGood Tryz.prog 20 fn20 := ⟨⟨Tryz.f20, by kernel_rfl, by kernel_rfl, by kernel_rfl, fun _ => ⟨by kernel_rfl, by kernel_rfl, by kernel_rfl, by kernel_rfl⟩⟩, fun _ h => by cases h⟩
theorem good_21 : FnGood Tryz.prog 21 fn21 := ⟨⟨Tryz.f21, by kernel_rfl, by kernel_rfl, by kernel_rfl, fun _ => ⟨by kernel_rfl, by kernel_rfl, by kernel_rfl, by kernel_rfl⟩⟩, fun _ h => by cases h⟩
theorem good_22 : FnGood Tryz.prog 22 fn22 := ⟨⟨Tryz.f22, by kernel_rfl, by kernel_rfl, by kernel_rfl, fun _ => ⟨by kernel_rfl, by kernel_rfl, by kernel_rfl, by kernel_rfl⟩⟩, fun _ h => by cases h⟩
theorem good_23 : FnGood Tryz.prog 23 fn23 := ⟨⟨Tryz.f23, by kernel_rfl, by kernel_rfl, by kernel_rfl, fun _ => ⟨by kernel_rfl, by kernel_rfl, by kernel_rfl, by kernel_rfl⟩⟩, fun _ h => by cases h⟩
theorem good_24 : FnGood Tryz.prog 24 fn24 := ⟨⟨Tryz.f24, by kernel_rfl, by kernel_rfl, by kernel_rfl, fun _ => ⟨by kernel_rfl, by kernel_rfl, by kernel_rfl, by kernel_rfl⟩⟩, fun _ h => by cases h⟩
theorem good_25 : FnGood Tryz.prog 25 fn25 := ⟨⟨Tryz.f25, by kernel_rfl, by kernel_rfl, by kernel_rfl, fun _ => ⟨by kernel_rfl, by kernel_rfl, by kernel_rfl, by kernel_rfl⟩⟩, fun _ h => by cases h⟩
theorem good_26 : FnGood Tryz.prog 26 fn26 := ⟨⟨Tryz.f26, by kernel_rfl, by kernel_rfl, by kernel_rfl, fun _ => ⟨by kernel_rfl, by kernel_rfl, by kernel_rfl, by kernel_rfl⟩⟩, fun _ h => by cases h⟩
theorem good_27 : FnGood Tryz.prog 27 fn27 := ⟨⟨Tryz.f27, by kernel_rfl, by kernel_rfl, by kernel_rfl, fun _ => ⟨by kernel_rfl, by kernel_rfl, by kernel_rfl, by kernel_rfl⟩⟩, fun _ h => by cases h⟩
theorem good_28 : FnGood Tryz.prog 28 fn28 := ⟨⟨Tryz.f28, by kernel_rfl, by kernel_rfl, by kernel_rfl, fun _ => ⟨by kernel_rfl, by kernel_rfl, by kernel_rfl, by kernel_rfl⟩⟩, fun _ h => by cases h⟩
theorem good_29 : FnGood Tryz.prog 29 fn29 := ⟨⟨Tryz.f29, by kernel_rfl, by kernel_rfl, by kernel_rfl, fun _ => ⟨by kernel_rfl, by kernel_rfl, by kernel_rfl, by kernel_rfl⟩⟩, fun _ h => by cases h⟩
theorem good_30 : FnGood Tryz.prog 30 fn30 := ⟨⟨Tryz.f30, by kernel_rfl, by kernel_rfl, by kernel_rfl, fun _ => ⟨by kernel_rfl, by kernel_rfl, by kernel_rfl, by kernel_rfl⟩⟩, fun _ h => by cases h⟩
theorem good_31 : FnGood Tryz.prog 31 fn31 := ⟨⟨Tryz.f31, by kernel_rfl, by kernel_rfl, by kernel_rfl, fun _ => ⟨by kernel_rfl, by kernel_rfl, by kernel_rfl, by kernel_rfl⟩⟩, fun _ h => by cases h⟩
theorem good_32 : FnGood Tryz.prog 32 fn32 := ⟨⟨Tryz.f32, by kernel_rfl, by kernel_rfl, by kernel_rfl, fun _ => ⟨by kernel_rfl, by kernel_rfl, by kernel_rfl, by kernel_rfl⟩⟩, fun _ h => by cases h⟩
theorem good_33 : FnGood Tryz.prog 33 fn33 := ⟨⟨Tryz.f33, by kernel_rfl, by kernel_rfl, by kernel_rfl, fun _ => ⟨by kernel_rfl, by kernel_rfl, by kernel_rfl, by kernel_rfl⟩⟩, fun _ h => by cases h⟩
theorem good_34 : FnGood Tryz.prog 34 fn34 := ⟨⟨Tryz.f34, by kernel_rfl, by kernel_rfl, by kernel_rfl, fun _ => ⟨by kernel_rfl, by kernel_rfl, by kernel_rfl, by kernel_rfl⟩⟩, fun _ h => by cases h⟩
theorem good_35 : FnGood Tryz.prog 35 fn35 := ⟨⟨Tryz.f35, by kernel_rfl, by kernel_rfl, by kernel_rfl, fun _ => ⟨by kernel_rfl, by kernel_rfl, by kernel_rfl, by kernel_rfl⟩⟩, fun _ h => by cases h⟩
theorem good_36 : FnGood Tryz.prog 36 fn36 := ⟨⟨Tryz.f36, by kernel_rfl, by kernel_rfl, by kernel_rfl, fun _ => ⟨by kernel_rfl, by kernel_rfl, by kernel_rfl, by kernel_rfl⟩⟩, fun _ h => by cases h⟩
theorem good_37 : FnGood Tryz.prog 37 fn37 := ⟨⟨Tryz.f37, by kernel_rfl, by kernel_rfl, by kernel_rfl, fun _ => ⟨by kernel_rfl, by kernel_rfl, by kernel_rfl, by kernel_rfl⟩⟩, fun _ h => by cases h⟩
theorem good_38 : FnGood Tryz.prog 38 fn38 := ⟨⟨Tryz.f38, by kernel_rfl, by kernel_rfl, by kernel_rfl, fun _ => ⟨by kernel_rfl, by kernel_rfl, by kernel_rfl, by kernel_rfl⟩⟩, fun _ h => by cases h⟩
theorem good_39 : FnGood Tryz.prog 39 fn39 := ⟨⟨Tryz.f39, by kernel_rfl, by kernel_rfl, by kernel_rfl, fun _ => ⟨by kernel_rfl, by kernel_rfl, by kernel_rfl, by kernel_rfl⟩⟩, fun _ h => by cases h⟩
theorem good_40 : FnGood Tryz.prog 40 fn40 := ⟨⟨Tryz.f40, by kernel_rfl, by kernel_rfl, by kernel_rfl, fun _ => ⟨by kernel_rfl, by kernel_rfl, by kernel_rfl, by kernel_rfl⟩⟩, fun _ h => by cases h⟩
theorem good_41 : FnGood Tryz.prog 41 fn41 := ⟨⟨Tryz.f41, by kernel_rfl, by kernel_rfl, by kernel_rfl, fun _ => ⟨by kernel_rfl, by kernel_rfl, by kernel_rfl, by kernel_rfl⟩⟩, fun _ h => by cases h⟩
theorem good_42 : FnGood Tryz.prog 42 fn42 := ⟨⟨Tryz.f42, by kernel_rfl, by kernel_rfl, by kernel_rfl, fun _ => ⟨by kernel_rfl, by kernel_rfl, by kernel_rfl, by kernel_rfl⟩⟩, fun _ h => by cases h⟩
theorem good_43 : FnGood Tryz.prog 43 fn43 := ⟨⟨Tryz.f43, by kernel_rfl, by kernel_rfl, by kernel_rfl, fun _ => ⟨by kernel_rfl, by kernel_rfl, by kernel_rfl, by kernel_rfl⟩⟩, fun _ h => by cases h⟩
theorem good_45 : FnGood Tryz.prog 45 fn45 := ⟨⟨Tryz.f45, by kernel_rfl, by kernel_rfl, by kernel_rfl, fun _ => ⟨by kernel_rfl, by kernel_rfl, by kernel_rfl, by kernel_rfl⟩⟩, fun _ h => by cases h⟩
theorem good_46 : FnGood Tryz.prog 46 fn46 := ⟨⟨Tryz.f46, by kernel_rfl, by kernel_rfl, by kernel_rfl, fun _ => ⟨by kernel_rfl, by kernel_rfl, by kernel_rfl, by kernel_rfl⟩⟩, fun _ h => by cases h⟩
theorem good_47 : FnGood Tryz.prog 47 fn47 := ⟨⟨Tryz.f47, by kernel_rfl, by kernel_rfl, by kernel_rfl, fun _ => ⟨by kernel_rfl, by kernel_rfl, by kernel_rfl, by kernel_rfl⟩⟩, fun _ h => by cases h⟩
theorem good_48 : FnGood Tryz.prog 48 fn48 := ⟨⟨Tryz.f48, by kernel_rfl, by kernel_rfl, by kernel_rfl, fun _ => ⟨by kernel_rfl, by kernel_rfl, by kernel_rfl, by kernel_rfl⟩⟩, fun _ h => by cases h⟩
theorem good_54 : FnGood Tryz.prog 54 fn54 := ⟨⟨Tryz.f54, by kernel_rfl, by kernel_rfl, by kernel_rfl, fun _ => ⟨by kernel_rfl, by kernel_rfl, by kernel_rfl, by kernel_rfl⟩⟩, fun _ h => by cases h⟩
theorem good_58 : FnGood Tryz.prog 58 fn58 := ⟨⟨Tryz.f58, by kernel_rfl, by kernel_rfl, by kernel_rfl, fun _ => ⟨by kernel_rfl, by kernel_rfl, by kernel_rfl, by kernel_rfl⟩⟩, fun _ h => by cases h⟩
theorem good_59 : FnGood Tryz.prog 59 fn59 := ⟨⟨Tryz.f59, by kernel_rfl, by kernel_rfl, by kernel_rfl, fun _ => ⟨by kernel_rfl, by kernel_rfl, by kernel_rfl, by kernel_rfl⟩⟩, fun _ h => by cases h⟩
theorem good_60 : FnGood Tryz.prog 60 fn60 := ⟨⟨Tryz.f60, by kernel_rfl, by kernel_rfl, by kernel_rfl, fun _ => ⟨by kernel_rfl, by kernel_rfl, by kernel_rfl, by kernel_rfl⟩⟩, fun _ h => by cases h⟩
theorem good_61 : FnGood Tryz.prog 61 fn61 := ⟨⟨Tryz.f61, by kernel_rfl, by kernel_rfl, by kernel_rfl, fun _ => ⟨by kernel_rfl, by kernel_rfl, by kernel_rfl, by kernel_rfl⟩⟩, fun _ h => by cases h⟩
theorem good_62 : FnGood Tryz.prog 62 fn62 := ⟨⟨Tryz.f62, by kernel_rfl, by kernel_rfl, by kernel_rfl, fun _ => ⟨by kernel_rfl, by kernel_rfl, by kernel_rfl, by kernel_rfl⟩⟩, fun _ h => by cases h⟩
theorem good_63 : FnGood Tryz.prog 63 fn63 := ⟨⟨Tryz.f63, by kernel_rfl, by kernel_rfl, by kernel_rfl, fun _ => ⟨by kernel_rfl, by kernel_rfl, by kernel_rfl, by kernel_rfl⟩⟩, fun _ h => by cases h⟩
theorem good_64 : FnGood Tryz.prog 64 fn64 := ⟨⟨Tryz.f64, by kernel_rfl, by kernel_rfl, by kernel_rfl, fun _ => ⟨by kernel_rfl, by kernel_rfl, by kernel_rfl, by kernel_rfl⟩⟩, fun _ h => by cases h⟩
theorem good_65 : FnGood Tryz.prog 65 fn65 := ⟨⟨Tryz.f65, by kernel_rfl, by kernel_rfl, by kernel_rfl, fun _ => ⟨by kernel_rfl, by kernel_rfl, by kernel_rfl, by kernel_rfl⟩⟩, fun _ h => by cases h⟩
theorem good_66 : FnGood Tryz.prog 66 fn66 := ⟨⟨Tryz.f66, by kernel_rfl, by kernel_rfl, by kernel_rfl, fun _ => ⟨by kernel_rfl, by kernel_rfl, by kernel_rfl, by kernel_rfl⟩⟩, fun _ h => by cases h⟩
theorem good_67 : FnGood Tryz.prog 67 fn67 := ⟨⟨Tryz.f67, by kernel_rfl, by kernel_rfl, by kernel_rfl, fun _ => ⟨by kernel_rfl, by kernel_rfl, by kernel_rfl, by kernel_rfl⟩⟩, fun _ h => by cases h⟩
theorem good_68 : FnGood Tryz.prog 68 fn68 := ⟨⟨Tryz.f68, by kernel_rfl, by kernel_rfl, by kernel_rfl, fun _ => ⟨by kernel_rfl, by kernel_rfl, by kernel_rfl, by kernel_rfl⟩⟩, fun _ h => by cases h⟩
theorem good_69 : FnGood Tryz.prog 69 fn69 := ⟨⟨Tryz.f69, by kernel_rfl, by kernel_rfl, by kernel_rfl, fun _ => ⟨by kernel_rfl, by kernel_rfl, by kernel_rfl, by kernel_rfl⟩⟩, fun _ h => by cases h⟩
theorem good_70 : FnGood Tryz.prog 70 fn70 := ⟨⟨Tryz.f70, by kernel_rfl, by kernel_rfl, by kernel_rfl, fun _ => ⟨by kernel_rfl, by kernel_rfl, by kernel_rfl, by kernel_rfl⟩⟩, fun _ h => by cases h⟩
theorem good_71 : FnGood Tryz.prog 71 fn71 := ⟨⟨Tryz.f71, by kernel_rfl, by kernel_rfl, by kernel_rfl, fun _ => ⟨by kernel_rfl, by kernel_rfl, by kernel_rfl, by kernel_rfl⟩⟩, fun _ h => by cases h⟩
theorem good_72 : FnGood Tryz.prog 72 fn72 := ⟨⟨Tryz.f72, by kernel_rfl, by kernel_rfl, by kernel_rfl, fun h => by cases h⟩, fun _ h => by cases h; exact clone_ok tok mixed_ T_24 rfl T_54 (by decide) (fc := Tryz.f72) (by kernel_rfl) (by kernel_rfl) (by kernel_rfl) (by kernel_rfl)⟩
theorem good_73 : FnGood Tryz.prog 73 fn73 := ⟨⟨Tryz.f73, by kernel_rfl, by kernel_rfl, by kernel_rfl, fun _ => ⟨by kernel_rfl, by kernel_rfl, by kernel_rfl, by kernel_rfl⟩⟩, fun _ h => by cases h⟩
theorem good_74 : FnGood Tryz.prog 74 fn74 := ⟨⟨Tryz.f74, by kernel_rfl, by kernel_rfl, by kernel_rfl, fun _ => ⟨by kernel_rfl, by kernel_rfl, by kernel_rfl, by kernel_rfl⟩⟩, fun _ h => by cases h⟩
theorem good_75 : FnGood Tryz.prog 75 fn75 := ⟨⟨Tryz.f75, by kernel_rfl, by kernel_rfl, by kernel_rfl, fun _ => ⟨by kernel_rfl, by kernel_rfl, by kernel_rfl, by kernel_rfl⟩⟩, fun _ h => by cases h⟩
theorem good_76 : FnGood Tryz.prog 76 fn76 := ⟨⟨Tryz.f76, by kernel_rfl, by kernel_rfl, by kernel_rfl, fun _ => ⟨by kernel_rfl, by kernel_rfl, by kernel_rfl, by kernel_rfl⟩⟩, fun _ h => by cases h⟩
theorem good_78 : FnGood Tryz.prog 78 fn78 := ⟨⟨Tryz.f78, by kernel_rfl, by kernel_rfl, by kernel_rfl, fun _ => ⟨by kernel_rfl, by kernel_rfl, by kernel_rfl, by kernel_rfl⟩⟩, fun _ h => by cases h⟩
theorem good_79 : FnGood Tryz.prog 79 fn79 := ⟨⟨Tryz.f79, by kernel_rfl, by kernel_rfl, by kernel_rfl, fun _ => ⟨by kernel_rfl, by kernel_rfl, by kernel_rfl, by kernel_rfl⟩⟩, fun _ h => by cases h⟩
theorem good_80 : FnGood Tryz.prog 80 fn80 := ⟨⟨Tryz.f80, by kernel_rfl, by kernel_rfl, by kernel_rfl, fun _ => ⟨by kernel_rfl, by kernel_rfl, by kernel_rfl, by kernel_rfl⟩⟩, fun _ h => by cases h⟩
theorem good_81 : FnGood Tryz.prog 81 fn81 := ⟨⟨Tryz.f81, by kernel_rfl, by kernel_rfl, by kernel_rfl, fun _ => ⟨by kernel_rfl, by kernel_rfl, by kernel_rfl, by kernel_rfl⟩⟩, fun _ h => by cases h⟩
theorem good_82 : FnGood Tryz.prog 82 fn82 := ⟨⟨Tryz.f82, by kernel_rfl, by kernel_rfl, by kernel_rfl, fun _ => ⟨by kernel_rfl, by kernel_rfl, by kernel_rfl, by kernel_rfl⟩⟩, fun _ h => by cases h⟩
theorem good_86 : FnGood Tryz.prog 86 fn86 := ⟨⟨Tryz.f86, by kernel_rfl, by kernel_rfl, by kernel_rfl, fun _ => ⟨by kernel_rfl, by kernel_rfl, by kernel_rfl, by kernel_rfl⟩⟩, fun _ h => by cases h⟩
theorem good_87 : FnGood Tryz.prog 87 fn87 := ⟨⟨Tryz.f87, by kernel_rfl, by kernel_rfl, by kernel_rfl, fun _ => ⟨by kernel_rfl, by kernel_rfl, by kernel_rfl, by kernel_rfl⟩⟩, fun _ h => by cases h⟩
theorem good_88 : FnGood Tryz.prog 88 fn88 := ⟨⟨Tryz.f88, by kernel_rfl, by kernel_rfl, by kernel_rfl, fun _ => ⟨by kernel_rfl, by kernel_rfl, by kernel_rfl, by kernel_rfl⟩⟩, fun _ h => by cases h⟩
theorem good_89 : FnGood Tryz.prog 89 fn89 := ⟨⟨Tryz.f89, by kernel_rfl, by kernel_rfl, by kernel_rfl, fun _ => ⟨by kernel_rfl, by kernel_rfl, by kernel_rfl, by kernel_rfl⟩⟩, fun _ h => by cases h⟩
theorem good_90 : FnGood Tryz.prog 90 fn90 := ⟨⟨Tryz.f90, by kernel_rfl, by kernel_rfl, by kernel_rfl, fun _ => ⟨by kernel_rfl, by kernel_rfl, by kernel_rfl, by kernel_rfl⟩⟩, fun _ h => by cases h⟩
theorem good_91 : FnGood Tryz.prog 91 fn91 := ⟨⟨Tryz.f91, by kernel_rfl, by kernel_rfl, by kernel_rfl, fun _ => ⟨by kernel_rfl, by kernel_rfl, by kernel_rfl, by kernel_rfl⟩⟩, fun _ h => by cases h⟩
theorem good_92 : FnGood Tryz.prog 92 fn92 := ⟨⟨Tryz.f92, by kernel_rfl, by kernel_rfl, by kernel_rfl, fun _ => ⟨by kernel_rfl, by kernel_rfl, by kernel_rfl, by kernel_rfl⟩⟩, fun _ h => by cases h⟩
theorem good_93 : FnGood Tryz.prog 93 fn93 := ⟨⟨Tryz.f93, by kernel_rfl, by kernel_rfl, by kernel_rfl, fun _ => ⟨by kernel_rfl, by kernel_rfl, by kernel_rfl, by kernel_rfl⟩⟩, fun _ h => by cases h⟩
theorem good_94 : FnGood Tryz.prog 94 fn94 := ⟨⟨Tryz.f94, by kernel_rfl, by kernel_rfl, by kernel_rfl, fun _ => ⟨by kernel_rfl, by kernel_rfl, by kernel_rfl, by kernel_rfl⟩⟩, fun _ h => by cases h⟩
theorem good_95 : FnGood Tryz.prog 95 fn95 := ⟨⟨Tryz.f95, by kernel_rfl, by kernel_rfl, by kernel_rfl, fun _ => ⟨by kernel_rfl, by kernel_rfl, by kernel_rfl, by kernel_rfl⟩⟩, fun _ h => by cases h⟩
theorem good_96 : FnGood Tryz.prog 96 fn96 := ⟨⟨Tryz.f96, by kernel_rfl, by kernel_rfl, by kernel_rfl, fun _ => ⟨by kernel_rfl, by kernel_rfl, by kernel_rfl, by kernel_rfl⟩⟩, fun _ h => by cases h⟩
theorem good_98 : FnGood Tryz.prog 98 fn98 := ⟨⟨Tryz.f98, by kernel_rfl, by kernel_rfl, by kernel_rfl, fun _ => ⟨by kernel_rfl, by kernel_rfl, by kernel_rfl, by kernel_rfl⟩⟩, fun _ h => by cases h⟩
theorem good_103 : FnGood Tryz.prog 103 fn103 := ⟨⟨Tryz.f103, by kernel_rfl, by kernel_rfl, by kernel_rfl, fun _ => ⟨by kernel_rfl, by kernel_rfl, by kernel_rfl, by kernel_rfl⟩⟩, fun _ h => by cases h⟩
theorem good_104 : FnGood Tryz.prog 104 fn104 := ⟨⟨Tryz.f104, by kernel_rfl, by kernel_rfl, by kernel_rfl, fun _ => ⟨by kernel_rfl, by kernel_rfl, by kernel_rfl, by kernel_rfl⟩⟩, fun _ h => by cases h⟩
theorem good_105 : FnGood Tryz.prog 105 fn105 := ⟨⟨Tryz.f105, by kernel_rfl, by kernel_rfl, by kernel_rfl, fun _ => ⟨by kernel_rfl, by kernel_rfl, by kernel_rfl, by kernel_rfl⟩⟩, fun _ h => by cases h⟩
theorem good_106 : FnGood Tryz.prog 106 fn106 := ⟨⟨Tryz.f106, by kernel_rfl, by kernel_rfl, by kernel_rfl, fun _ => ⟨by kernel_rfl, by kernel_rfl, by kernel_rfl, by kernel_rfl⟩⟩, fun _ h => by cases h⟩
theorem good_111 : FnGood Tryz.prog 111 fn111 := ⟨⟨Tryz.f111, by kernel_rfl, by kernel_rfl, by kernel_rfl, fun _ => ⟨by kernel_rfl, by kernel_rfl, by kernel_rfl, by kernel_rfl⟩⟩, fun _ h => by cases h⟩
theorem good_112 : FnGood Tryz.prog 112 fn112 := ⟨⟨Tryz.f112, by kernel_rfl, by kernel_rfl, by kernel_rfl, fun _ => ⟨by kernel_rfl, by kernel_rfl, by kernel_rfl, by kernel_rfl⟩⟩, fun _ h => by cases h⟩
theorem good_113 : FnGood Tryz.prog 113 fn113 := ⟨⟨Tryz.f113, by kernel_rfl, by kernel_rfl, by kernel_rfl, fun _ => ⟨by kernel_rfl, by kernel_rfl, by kernel_rfl, by kernel_rfl⟩⟩, fun _ h => by cases h⟩
theorem good_114 : FnGood Tryz.prog 114 fn114 := ⟨⟨Tryz.f114, by kernel_rfl, by kernel_rfl, by kernel_rfl, fun _ => ⟨by kernel_rfl, by kernel_rfl, by kernel_rfl, by kernel_rfl⟩⟩, fun _ h => by cases h⟩
theorem good_115 : FnGood Tryz.prog 115 fn115 := ⟨⟨Tryz.f115, by kernel_rfl, by kernel_rfl, by kernel_rfl, fun _ => ⟨by kernel_rfl, by kernel_rfl, by kernel_rfl, by kernel_rfl⟩⟩, fun _ h => by cases h⟩
theorem good_116 : FnGood Tryz.prog 116 fn116 := ⟨⟨Tryz.f116, by kernel_rfl, by kernel_rfl, by kernel_rfl, fun _ => ⟨by kernel_rfl, by kernel_rfl, by kernel_rfl, by kernel_rfl⟩⟩, fun _ h => by cases h⟩
theorem good_117 : FnGood Tryz.prog 117 fn117 := ⟨⟨Tryz.f117, by kernel_rfl, by kernel_rfl, by kernel_rfl, fun _ => ⟨by kernel_rfl, by kernel_rfl, by kernel_rfl, by kernel_rfl⟩⟩, fun _ h => by cases h⟩
theorem good_118 : FnGood Tryz.prog 118 fn118 := ⟨⟨Tryz.f118, by kernel_rfl, by kernel_rfl, by kernel_rfl, fun _ => ⟨by kernel_rfl, by kernel_rfl, by kernel_rfl, by kernel_rfl⟩⟩, fun _ h => by cases h⟩
theorem good_119 : FnGood Tryz.prog 119 fn119 := ⟨⟨Tryz.f119, by kernel_rfl, by kernel_rfl, by kernel_rfl, fun _ => ⟨by kernel_rfl, by kernel_rfl, by kernel_rfl, by kernel_rfl⟩⟩, fun _ h => by cases h⟩
theorem good_120 : FnGood Tryz.prog 120 fn120 := ⟨⟨Tryz.f120, by kernel_rfl, by kernel_rfl, by kernel_rfl, fun _ => ⟨by kernel_rfl, by kernel_rfl, by kernel_rfl, by kernel_rfl⟩⟩, fun _ h => by cases h⟩
theorem good_121 : FnGood Tryz.prog 121 fn121 := ⟨⟨Tryz.f121, by kernel_rfl, by kernel_rfl, by kernel_rfl, fun _ => ⟨by kernel_rfl, by kernel_rfl, by kernel_rfl, by kernel_rfl⟩⟩, fun _ h => by cases h⟩
theorem good_122 : FnGood Tryz.prog 122 fn122 := ⟨⟨Tryz.f122, by kernel_rfl, by kernel_rfl, by kernel_rfl, fun _ => ⟨by kernel_rfl, by kernel_rfl, by kernel_rfl, by kernel_rfl⟩⟩, fun _ h => by cases h⟩
theorem good_123 : FnGood Tryz.prog 123 fn123 := ⟨⟨Tryz.f123, by kernel_rfl, by kernel_rfl, by kernel_rfl, fun _ => ⟨by kernel_rfl, by kernel_rfl, by kernel_rfl, by kernel_rfl⟩⟩, fun _ h => by cases h⟩
theorem good_124 : FnGood Tryz.prog 124 fn124 := ⟨⟨Tryz.f124, by kernel_rfl, by kernel_rfl, by kernel_rfl, fun _ => ⟨by kernel_rfl, by kernel_rfl, by kernel_rfl, by kernel_rfl⟩⟩, fun _ h => by cases h⟩
theorem good_128 : FnGood Tryz.prog 128 fn128 := ⟨⟨Tryz.f128, by kernel_rfl, by kernel_rfl, by kernel_rfl, fun h => by cases h⟩, fun _ h => by cases h; exact clone_ok tok mixed_ T_46 rfl T_156 (by decide) (fc := Tryz.f128) (by kernel_rfl) (by kernel_rfl) (by kernel_rfl) (by kernel_rfl)⟩
theorem good_129 : FnGood Tryz.prog 129 fn129 := ⟨⟨Tryz.f129, by kernel_rfl, by kernel_rfl, by kernel_rfl, fun h => by cases h⟩, fun _ h => by cases h; exact clone_ok tok mixed_ T_47 rfl T_9 (by decide) (fc := Tryz.f129) (by kernel_rfl) (by kernel_rfl) (by kernel_rfl) (by kernel_rfl)⟩
theorem good_130 : FnGood Tryz.prog 130 fn130 := ⟨⟨Tryz.f130, by kernel_rfl, by kernel_rfl, by kernel_rfl, fun h => by cases h⟩, fun _ h => by cases h; exact clone_ok tok mixed_ T_48 rfl T_163 (by decide) (fc := Tryz.f130) (by kernel_rfl) (by kernel_rfl) (by kernel_rfl) (by kernel_rfl)⟩
theorem good_131 : FnGood Tryz.prog 131 fn131 := ⟨⟨Tryz.f131, by kernel_rfl, by kernel_rfl, by kernel_rfl, fun h => by cases h⟩, fun _ h => by cases h; exact clone_ok tok mixed_ T_49 rfl T_111 (by decide) (fc := Tryz.f131) (by kernel_rfl) (by kernel_rfl) (by kernel_rfl) (by kernel_rfl)⟩
theorem good_132 : FnGood Tryz.prog 132 fn132 := ⟨⟨Tryz.f132, by kernel_rfl, by kernel_rfl, by kernel_rfl, fun _ => ⟨by kernel_rfl, by kernel_rfl, by kernel_rfl, by kernel_rfl⟩⟩, fun _ h => by cases h⟩
theorem good_136 : FnGood Tryz.prog 136 fn136 := ⟨⟨Tryz.f136, by kernel_rfl, by kernel_rfl, by kernel_rfl, fun _ => ⟨by kernel_rfl, by kernel_rfl, by kernel_rfl, by kernel_rfl⟩⟩, fun _ h => by cases h⟩
theorem good_139 : FnGood Tryz.prog 139 fn139 := ⟨⟨Tryz.f139, by kernel_rfl, by kernel_rfl, by kernel_rfl, fun _ => ⟨by kernel_rfl, by kernel_rfl, by kernel_rfl, by kernel_rfl⟩⟩, fun _ h => by cases h⟩
theorem good_140 : FnGood Tryz.prog 140 fn140 := ⟨⟨Tryz.f140, by kernel_rfl, by kernel_rfl, by kernel_rfl, fun _ => ⟨by kernel_rfl, by kernel_rfl, by kernel_rfl, by kernel_rfl⟩⟩, fun _ h => by cases h⟩
theorem good_141 : FnGood Tryz.prog 141 fn141 := ⟨⟨Tryz.f141, by kernel_rfl, by kernel_rfl, by kernel_rfl, fun _ => ⟨by kernel_rfl, by kernel_rfl, by kernel_rfl, by kernel_rfl⟩⟩, fun _ h => by cases h⟩
theorem good_143 : FnGood Tryz.prog 143 fn143 := ⟨⟨Tryz.f143, by kernel_rfl, by kernel_rfl, by kernel_rfl, fun _ => ⟨by kernel_rfl, by kernel_rfl, by kernel_rfl, by kernel_rfl⟩⟩, fun _ h => by cases h⟩
theorem good_145 : FnGood Tryz.prog 145 fn145 := ⟨⟨Tryz.f145, by kernel_rfl, by kernel_rfl, by kernel_rfl, fun _ => ⟨by kernel_rfl, by kernel_rfl, by kernel_rfl, by kernel_rfl⟩⟩, fun _ h => by cases h⟩
theorem good_146 : FnGood Tryz.prog 146 fn146 := ⟨⟨Tryz.f146, by kernel_rfl, by kernel_rfl, by kernel_rfl, fun _ => ⟨by kernel_rfl, by kernel_rfl, by kernel_rfl, by kernel_rfl⟩⟩, fun _ h => by cases h⟩
theorem good_147 : FnGood Tryz.prog 147 fn147 := ⟨⟨Tryz.f147, by kernel_rfl, by kernel_rfl, by kernel_rfl, fun _ => ⟨by kernel_rfl, by kernel_rfl, by kernel_rfl, by kernel_rfl⟩⟩, fun _ h => by cases h⟩
theorem good_148 : FnGood Tryz.prog 148 fn148 := ⟨⟨Tryz.f148, by kernel_rfl, by kernel_rfl, by kernel_rfl, fun _ => ⟨by kernel_rfl, by kernel_rfl, by kernel_rfl, by kernel_rfl⟩⟩, fun _ h => by cases h⟩
theorem good_149 : FnGood Tryz.prog 149 fn149 := ⟨⟨Tryz.f149, by kernel_rfl, by kernel_rfl, by kernel_rfl, fun _ => ⟨by kernel_rfl, by kernel_rfl, by kernel_rfl, by kernel_rfl⟩⟩, fun _ h => by cases h⟩
theorem good_150 : FnGood Tryz.prog 150 fn150 := ⟨⟨Tryz.f150, by kernel_rfl, by kernel_rfl, by kernel_rfl, fun _ => ⟨by kernel_rfl, by kernel_rfl, by kernel_rfl, by kernel_rfl⟩⟩, fun _ h => by cases h⟩
theorem good_152 : FnGood Tryz.prog 152 fn152 := ⟨⟨Tryz.f152, by kernel_rfl, by kernel_rfl, by kernel_rfl, fun _ => ⟨by kernel_rfl, by kernel_rfl, by kernel_rfl, by kernel_rfl⟩⟩, fun _ h => by cases h⟩
theorem good_153 : FnGood Tryz.prog 153 fn153 := ⟨⟨Tryz.f153, by kernel_rfl, by kernel_rfl, by kernel_rfl, fun _ => ⟨by kernel_rfl, by kernel_rfl, by kernel_rfl, by kernel_rfl⟩⟩, fun _ h => by cases h⟩
theorem good_154 : FnGood Tryz.prog 154 fn154 := ⟨⟨Tryz.f154, by kernel_rfl, by kernel_rfl, by kernel_rfl, fun _ => ⟨by kernel_rfl, by kernel_rfl, by kernel_rfl, by kernel_rfl⟩⟩, fun _ h => by cases h⟩
theorem good_158 : FnGood Tryz.prog 158 fn158 := ⟨⟨Tryz.f158, by kernel_rfl, by kernel_rfl, by kernel_rfl, fun h => by cases h⟩, fun _ h => by cases h; exact clone_ok tok mixed_ T_26 rfl T_57 (by decide) (fc := Tryz.f158) (by kernel_rfl) (by kernel_rfl) (by kernel_rfl) (by kernel_rfl)⟩
theorem good_159 : FnGood Tryz.prog 159 fn159 := ⟨⟨Tryz.f159, by kernel_rfl, by kernel_rfl, by kernel_rfl, fun _ => ⟨by kernel_rfl, by kernel_rfl, by kernel_rfl, by kernel_rfl⟩⟩, fun _ h => by cases h⟩
theorem good_161 : FnGood Tryz.prog 161 fn161 := ⟨⟨Tryz.f161, by kernel_rfl, by kernel_rfl, by kernel_rfl, fun _ => ⟨by kernel_rfl, by kernel_rfl, by kernel_rfl, by kernel_rfl⟩⟩, fun _ h => by cases h⟩
theorem good_170 : FnGood Tryz.prog 170 fn170 := ⟨⟨Tryz.f170, by kernel_rfl, by kernel_rfl, by kernel_rfl, fun _ => ⟨by kernel_rfl, by kernel_rfl, by kernel_rfl, by kernel_rfl⟩⟩, fun _ h => by cases h⟩
theorem good_171 : FnGood Tryz.prog 171 fn171 := ⟨⟨Tryz.f171, by kernel_rfl, by kernel_rfl, by kernel_rfl, fun _ => ⟨by kernel_rfl, by kernel_rfl, by kernel_rfl, by kernel_rfl⟩⟩, fun _ h => by cases h⟩
theorem good_174 : FnGood Tryz.prog 174 fn174 := ⟨⟨Tryz.f174, by kernel_rfl, by kernel_rfl, by kernel_rfl, fun _ => ⟨by kernel_rfl, by kernel_rfl, by kernel_rfl, by kernel_rfl⟩⟩, fun _ h => by cases h⟩
theorem good_175 : FnGood Tryz.prog 175 fn175 := ⟨⟨Tryz.f175, by kernel_rfl, by kernel_rfl, by kernel_rfl, fun _ => ⟨by kernel_rfl, by kernel_rfl, by kernel_rfl, by kernel_rfl⟩⟩, fun _ h => by cases h⟩
theorem good_176 : FnGood Tryz.prog 176 fn176 := ⟨⟨Tryz.f176, by kernel_rfl, by kernel_rfl, by kernel_rfl, fun _ => ⟨by kernel_rfl, by kernel_rfl, by kernel_rfl, by kernel_rfl⟩⟩, fun _ h => by cases h⟩
theorem good_177 : FnGood Tryz.prog 177 fn177 := ⟨⟨Tryz.f177, by kernel_rfl, by kernel_rfl, by kernel_rfl, fun _ => ⟨by kernel_rfl, by kernel_rfl, by kernel_rfl, by kernel_rfl⟩⟩, fun _ h => by cases h⟩
theorem good_178 : FnGood Tryz.prog 178 fn178 := ⟨⟨Tryz.f178, by kernel_rfl, by kernel_rfl, by kernel_rfl, fun _ => ⟨by kernel_rfl, by kernel_rfl, by kernel_rfl, by kernel_rfl⟩⟩, fun _ h => by cases h⟩
theorem good_179 : FnGood Tryz.prog 179 fn179 := ⟨⟨Tryz.f179, by kernel_rfl, by kernel_rfl, by kernel_rfl, fun _ => ⟨by kernel_rfl, by kernel_rfl, by kernel_rfl, by kernel_rfl⟩⟩, fun _ h => by cases h⟩
theorem good_180 : FnGood Tryz.prog 180 fn180 := ⟨⟨Tryz.f180, by kernel_rfl, by kernel_rfl, by kernel_rfl, fun _ => ⟨by kernel_rfl, by kernel_rfl, by kernel_rfl, by kernel_rfl⟩⟩, fun _ h => by cases h⟩
theorem good_198 : FnGood Tryz.prog 198 fn198 := ⟨⟨Tryz.f198, by kernel_rfl, by kernel_rfl, by kernel_rfl, fun _ => ⟨by kernel_rfl, by kernel_rfl, by kernel_rfl, by kernel_rfl⟩⟩, fun _ h => by cases h⟩
theorem good_199 : FnGood Tryz.prog 199 fn199 := ⟨⟨Tryz.f199, by kernel_rfl, by kernel_rfl, by kernel_rfl, fun _ => ⟨by kernel_rfl, by kernel_rfl, by kernel_rfl, by kernel_rfl⟩⟩, fun _ h => by cases h⟩
theorem good_200 : FnGood Tryz.prog 200 fn200 := ⟨⟨Tryz.f200, by kernel_rfl, by kernel_rfl, by kernel_rfl, fun _ => ⟨by kernel_rfl, by kernel_rfl, by kernel_rfl, by kernel_rfl⟩⟩, fun _ h => by cases h⟩
theorem good_201 : FnGood Tryz.prog 201 fn201 := ⟨⟨Tryz.f201, by kernel_rfl, by kernel_rfl, by kernel_rfl, fun _ => ⟨by kernel_rfl, by kernel_rfl, by kernel_rfl, by kernel_rfl⟩⟩, fun _ h => by cases h⟩
theorem good_202 : FnGood Tryz.prog 202 fn202 := ⟨⟨Tryz.f202, by kernel_rfl, by kernel_rfl, by kernel_rfl, fun _ => ⟨by kernel_rfl, by kernel_rfl, by kernel_rfl, by kernel_rfl⟩⟩, fun _ h => by cases h⟩
theorem good_203 : FnGood Tryz.prog 203 fn203 := ⟨⟨Tryz.f203, by kernel_rfl, by kernel_rfl, by kernel_rfl, fun _ => ⟨by kernel_rfl, by kernel_rfl, by kernel_rfl, by kernel_rfl⟩⟩, fun _ h => by cases h⟩
theorem good_204 : FnGood Tryz.prog 204 fn204 := ⟨⟨Tryz.f204, by kernel_rfl, by kernel_rfl, by kernel_rfl, fun _ => ⟨by kernel_rfl, by kernel_rfl, by kernel_rfl, by kernel_rfl⟩⟩, fun _ h => by cases h⟩
theorem good_205 : FnGood Tryz.prog 205 fn205 := ⟨⟨Tryz.f205, by kernel_rfl, by kernel_rfl, by kernel_rfl, fun _ => ⟨by kernel_rfl, by kernel_rfl, by kernel_rfl, by kernel_rfl⟩⟩, fun _ h => by cases h⟩
theorem good_206 : FnGood Tryz.prog 206 fn206 := ⟨⟨Tryz.f206, by kernel_rfl, by kernel_rfl, by kernel_rfl, fun _ => ⟨by kernel_rfl, by kernel_rfl, by kernel_rfl, by kernel_rfl⟩⟩, fun _ h => by cases h⟩
theorem good_207 : FnGood Tryz.prog 207 fn207 := ⟨⟨Tryz.f207, by kernel_rfl, by kernel_rfl, by kernel_rfl, fun _ => ⟨by kernel_rfl, by kernel_rfl, by kernel_rfl, by kernel_rfl⟩⟩, fun _ h => by cases h⟩
theorem good_208 : FnGood Tryz.prog 208 fn208 := ⟨⟨Tryz.f208, by kernel_rfl, by kernel_rfl, by kernel_rfl, fun _ => ⟨by kernel_rfl, by kernel_rfl, by kernel_rfl, by kernel_rfl⟩⟩, fun _ h => by cases h⟩
theorem good_209 : FnGood Tryz.prog 209 fn209 := ⟨⟨Tryz.f209, by kernel_rfl, by kernel_rfl, by kernel_rfl, fun _ => ⟨by kernel_rfl, by kernel_rfl, by kernel_rfl, by kernel_rfl⟩⟩, fun _ h => by cases h⟩
theorem good_210 : FnGood Tryz.prog 210 fn210 := ⟨⟨Tryz.f210, by kernel_rfl, by kernel_rfl, by kernel_rfl, fun _ => ⟨by kernel_rfl, by kernel_rfl, by kernel_rfl, by kernel_rfl⟩⟩, fun _ h => by cases h⟩
theorem good_212 : FnGood Tryz.prog 212 fn212 := ⟨⟨Tryz.f212, by kernel_rfl, by kernel_rfl, by kernel_rfl, fun _ => ⟨by kernel_rfl, by kernel_rfl, by kernel_rfl, by kernel_rfl⟩⟩, fun _ h => by cases h⟩
theorem good_216 : FnGood Tryz.prog 216 fn216 := ⟨⟨Tryz.f216, by kernel_rfl, by kernel_rfl, by kernel_rfl, fun _ => ⟨by kernel_rfl, by kernel_rfl, by kernel_rfl, by kernel_rfl⟩⟩, fun _ h => by cases h⟩
theorem good_218 : FnGood Tryz.prog 218 fn218 := ⟨⟨Tryz.f218, by kernel_rfl, by kernel_rfl, by kernel_rfl, fun _ => ⟨by kernel_rfl, by kernel_rfl, by kernel_rfl, by kernel_rfl⟩⟩, fun _ h => by cases h⟩
theorem good_219 : FnGood Tryz.prog 219 fn219 := ⟨⟨Tryz.f219, by kernel_rfl, by kernel_rfl, by kernel_rfl, fun _ => ⟨by kernel_rfl, by kernel_rfl, by kernel_rfl, by kernel_rfl⟩⟩, fun _ h => by cases h⟩
theorem good_233 : FnGood Tryz.prog 233 fn233 := ⟨⟨Tryz.f233, by kernel_rfl, by kernel_rfl, by kernel_rfl, fun _ => ⟨by kernel_rfl, by kernel_rfl, by kernel_rfl, by kernel_rfl⟩⟩, fun _ h => by cases h⟩
theorem good_234 : FnGood Tryz.prog 234 fn234 := ⟨⟨Tryz.f234, by kernel_rfl, by kernel_rfl, by kernel_rfl, fun _ => ⟨by kernel_rfl, by kernel_rfl, by kernel_rfl, by kernel_rfl⟩⟩, fun _ h => by cases h⟩
theorem good_240 : FnGood Tryz.prog 240 fn240 := ⟨⟨Tryz.f240, by kernel_rfl, by kernel_rfl, by kernel_rfl, fun _ => ⟨by kernel_rfl, by kernel_rfl, by kernel_rfl, by kernel_rfl⟩⟩, fun _ h => by cases h⟩
theorem good_241 : FnGood Tryz.prog 241 fn241 := ⟨⟨Tryz.f241, by kernel_rfl, by kernel_rfl, by kernel_rfl, fun _ => ⟨by kernel_rfl, by kernel_rfl, by kernel_rfl, by kernel_rfl⟩⟩, fun _ h => by cases h⟩
theorem good_245 : FnGood Tryz.prog 245 fn245 := ⟨⟨Tryz.f245, by kernel_rfl, by kernel_rfl, by kernel_rfl, fun h => by cases h⟩, fun _ h => by cases h; exact clone_ok tok mixed_ T_210 rfl T_5 (by decide) (fc := Tryz.f245) (by kernel_rfl) (by kernel_rfl) (by kernel_rfl) (by kernel_rfl)⟩
theorem good_252 : FnGood Tryz.prog 252 fn252 := ⟨⟨Tryz.f252, by kernel_rfl, by kernel_rfl, by kernel_rfl, fun _ => ⟨by kernel_rfl, by kernel_rfl, by kernel_rfl, by kernel_rfl⟩⟩, fun _ h => by cases h⟩
theorem good_253 : FnGood Tryz.prog 253 fn253 := ⟨⟨Tryz.f253, by kernel_rfl, by kernel_rfl, by kernel_rfl, fun _ => ⟨by kernel_rfl, by kernel_rfl, by kernel_rfl, by kernel_rfl⟩⟩, fun _ h => by cases h⟩
theorem good_254 : FnGood Tryz.prog 254 fn254 := ⟨⟨Tryz.f254, by kernel_rfl, by kernel_rfl, by kernel_rfl, fun _ => ⟨by kernel_rfl, by kernel_rfl, by kernel_rfl, by kernel_rfl⟩⟩, fun _ h => by cases h⟩
theorem good_255 : FnGood Tryz.prog 255 fn255 := ⟨⟨Tryz.f255, by kernel_rfl, by kernel_rfl, by kernel_rfl, fun _ => ⟨by kernel_rfl, by kernel_rfl, by kernel_rfl, by kernel_rfl⟩⟩, fun _ h => by cases h⟩
theorem good_258 : FnGood Tryz.prog 258 fn258 := ⟨⟨Tryz.f258, by kernel_rfl, by kernel_rfl, by kernel_rfl, fun _ => ⟨by kernel_rfl, by kernel_rfl, by kernel_rfl, by kernel_rfl⟩⟩, fun _ h => by cases h⟩
theorem good_259 : FnGood Tryz.prog 259 fn259 := ⟨⟨Tryz.f259, by kernel_rfl, by kernel_rfl, by kernel_rfl, fun _ => ⟨by kernel_rfl, by kernel_rfl, by kernel_rfl, by kernel_rfl⟩⟩, fun _ h => by cases h⟩
theorem good_260 : FnGood Tryz.prog 260 fn260 := ⟨⟨Tryz.f260, by kernel_rfl, by kernel_rfl, by kernel_rfl, fun _ => ⟨by kernel_rfl, by kernel_rfl, by kernel_rfl, by kernel_rfl⟩⟩, fun _ h => by cases h⟩
theorem good_270 : FnGood Tryz.prog 270 fn270 := ⟨⟨Tryz.f270, by kernel_rfl, by kernel_rfl, by kernel_rfl, fun _ => ⟨by kernel_rfl, by kernel_rfl, by kernel_rfl, by kernel_rfl⟩⟩, fun _ h => by cases h⟩
theorem good_284 : FnGood Tryz.prog 284 fn284 := ⟨⟨Tryz.f284, by kernel_rfl, by kernel_rfl, by kernel_rfl, fun _ => ⟨by kernel_rfl, by kernel_rfl, by kernel_rfl, by kernel_rfl⟩⟩, fun _ h => by cases h⟩
theorem good_288 : FnGood Tryz.prog 288 fn288 := ⟨⟨Tryz.f288, by kernel_rfl, by kernel_rfl, by kernel_rfl, fun _ => ⟨by kernel_rfl, by kernel_rfl, by kernel_rfl, by kernel_rfl⟩⟩, fun _ h => by cases h⟩
theorem good_290 : FnGood Tryz.prog 290 fn290 := ⟨⟨Tryz.f290, by kernel_rfl, by kernel_rfl, by kernel_rfl, fun _ => ⟨by kernel_rfl, by kernel_rfl, by kernel_rfl, by kernel_rfl⟩⟩, fun _ h => by cases h⟩
theorem good_291 : FnGood Tryz.prog 291 fn291 := ⟨⟨Tryz.f291, by kernel_rfl, by kernel_rfl, by kernel_rfl, fun _ => ⟨by kernel_rfl, by kernel_rfl, by kernel_rfl, by kernel_rfl⟩⟩, fun _ h => by cases h⟩
theorem good_294 : FnGood Tryz.prog 294 fn294 := ⟨⟨Tryz.f294, by kernel_rfl, by kernel_rfl, by kernel_rfl, fun _ => ⟨by kernel_rfl, by kernel_rfl, by kernel_rfl, by kernel_rfl⟩⟩, fun _ h => by cases h⟩
theorem good_313 : FnGood Tryz.prog 313 fn313 := ⟨⟨Tryz.f313, by kernel_rfl, by kernel_rfl, by kernel_rfl, fun _ => ⟨by kernel_rfl, by kernel_rfl, by kernel_rfl, by kernel_rfl⟩⟩, fun _ h => by cases h⟩
set_option maxRecDepth 100000 in
theorem good : ∀ g fn, fns g = some fn → FnGood Tryz.prog g fn := by
  intro g fn h
  unfold fns at h
  split at h <;> first | (cases h; done) | (cases h; first | exact good_3 | exact good_4 | exact good_5 | exact good_6 | exact good_7 | exact good_8 | exact good_9 | exact good_10 | exact good_11 | exact good_12 | exact good_13 | exact good_14 | exact good_15 | exact good_16 | exact good_17 | exact good_18 | exact good_19 | exact good_20 | exact good_21 | exact good_22 | exact good_23 | exact good_24 | exact good_25 | exact good_26 | exact good_27 | exact good_28 | exact good_29 | exact good_30 | exact good_31 | exact good_32 | exact good_33 | exact good_34 | exact good_35 | exact good_36 | exact good_37 | exact good_38 | exact good_39 | exact good_40 | exact good_41 | exact good_42 | exact good_43 | exact good_45 | exact good_46 | exact good_47 | exact good_48 | exact good_54 | exact good_58 | exact good_59 | exact good_60 | exact good_61 | exact good_62 | exact good_63 | exact good_64 | exact good_65 | exact good_66 | exact good_67 | exact good_68 | exact good_69 | exact good_70 | exact good_71 | exact good_72 | exact good_73 | exact good_74 | exact good_75 | exact good_76 | exact good_78 | exact good_79 | exact good_80 | exact good_81 | exact good_82 | exact good_86 | exact good_87 | exact good_88 | exact good_89 | exact good_90 | exact good_91 | exact good_92 | exact good_93 | exact good_94 | exact good_95 | exact good_96 | exact good_98 | exact good_103 | exact good_104 | exact good_105 | exact good_106 | exact good_111 | exact good_112 | exact good_113 | exact good_114 | exact good_115 | exact good_116 | exact good_117 | exact good_118 | exact good_119 | exact good_120 | exact good_121 | exact good_122 | exact good_123 | exact good_124 | exact good_128 | exact good_129 | exact good_130 | exact good_131 | exact good_132 | exact good_136 | exact good_139 | exact good_140 | exact good_141 | exact good_143 | exact good_145 | exact good_146 | exact good_147 | exact good_148 | exact good_149 | exact good_150 | exact good_152 | exact good_153 | exact good_154 | exact good_158 | exact good_159 | exact good_161 | exact good_170 | exact good_171 | exact good_174 | exact good_175 | exact good_176 | exact good_177 | exact good_178 | exact good_179 | exact good_180 | exact good_198 | exact good_199 | exact good_200 | exact good_201 | exact good_202 | exact good_203 | exact good_204 | exact good_205 | exact good_206 | exact good_207 | exact good_208 | exact good_209 | exact good_210 | exact good_212 | exact good_216 | exact good_218 | exact good_219 | exact good_233 | exact good_234 | exact good_240 | exact good_241 | exact good_245 | exact good_252 | exact good_253 | exact good_254 | exact good_255 | exact good_258 | exact good_259 | exact good_260 | exact good_270 | exact good_284 | exact good_288 | exact good_290 | exact good_291 | exact good_294 | exact good_313)
theorem called (R d : Nat) (g : FuncId) : FunOK Tryz.prog g (acall T fns R d g) := acall_ok tok mixed_ good d g
end Go.Proofs.YtoggbcckkjfkhaaGreat.R
/- What a call's arguments read as, as the machine's values: whatever the row reads as data of a type is a Lean value, well formed, and no greater than the row's weights and bulk allow. -/
namespace Go.Proofs.YtoggbcckkjfkhaaGreat.R
set_option linter.unusedVariables false
set_option linter.unusedSimpArgs false
open Go Go.RowKit
open Go.Proofs.YtoggbcckkjfkhaaGreat.Rows (uptoBulk uptoBulkAll)

/-- A Lean value as cells of the machine. -/
structure Cd (α : Type) where
  sz : Nat
  enc : α → List V
  len : ∀ x, (enc x).length = sz
  cell : ∀ x, ∀ v ∈ enc x, v.isCell = true ∧ v.hasIds = false

def Cd.int (k : IntKind) : Cd Int := ⟨1, fun n => [.int k n], fun _ => rfl, fun _ v hv => by simp at hv; subst hv; exact ⟨rfl, rfl⟩⟩
def Cd.bool : Cd Bool := ⟨1, fun b => [.bool b], fun _ => rfl, fun _ v hv => by simp at hv; subst hv; exact ⟨rfl, rfl⟩⟩
def Cd.str : Cd ByteArray := ⟨1, fun s => [.str s], fun _ => rfl, fun _ v hv => by simp at hv; subst hv; exact ⟨rfl, rfl⟩⟩
def Cd.slice {α : Type} (d : Cd α) : Cd (List α) := ⟨1, fun xs => [.fz (xs.map d.enc)], fun _ => rfl, fun _ v hv => by simp at hv; subst hv; exact ⟨rfl, rfl⟩⟩
def Cd.pair {α β : Type} (d : Cd α) (d' : Cd β) : Cd (α × β) := ⟨d.sz + d'.sz, fun x => d.enc x.1 ++ d'.enc x.2, fun x => by simp [d.len, d'.len], fun x v hv => by
  rcases List.mem_append.1 hv with h | h
  · exact d.cell _ v h
  · exact d'.cell _ v h⟩
def Cd.iso {α β : Type} (d : Cd α) (f : β → α) : Cd β := ⟨d.sz, fun x => d.enc (f x), fun x => d.len _, fun x => d.cell _⟩

theorem all_enc {α : Type} (d : Cd α) (l : List α) : ((l.map d.enc).all fun r => r.length == d.sz) = true := by
  rw [List.all_eq_true]
  intro r hr
  obtain ⟨x, _, rfl⟩ := List.mem_map.1 hr
  simp [d.len]
theorem all_int (k : IntKind) (l : List Int) : ((l.map (Cd.int k).enc).all fun r => r.length == 1) = true := all_enc (Cd.int k) l
theorem all_str (l : List ByteArray) : ((l.map Cd.str.enc).all fun r => r.length == 1) = true := all_enc Cd.str l
theorem int_enc (k : IntKind) (n : Int) : (Cd.int k).enc n = [.int k n] := rfl
theorem str_enc (s : ByteArray) : Cd.str.enc s = [.str s] := rfl
theorem bool_enc (b : Bool) : Cd.bool.enc b = [.bool b] := rfl

/-- What is there. -/
def All (w : World) : Froz := fun b o => (cl w b o).isSome = true

/-- Cells of memory, and the machine's. -/
def KV (w : World) (row : List V) (cs : List Value) : Prop := cs.length = row.length ∧ ∀ (j : Nat) (v : V) (cv : Value), row[j]? = some v → cs[j]? = some cv → Rel (All w) (cl w) none0 v cv

/-- Read as data of the type t: of the kind d, good, and of no more bulk than the data. -/
def Opens {α : Type} (P : Program) (t : TypeId) (d : Cd α) (good : α → Prop) (mes : α → Nat) : Prop :=
  P.cellsOf t = d.sz ∧ ∀ (H : Type) (enc : TypeId × Value → H) (W : World) (fuel : Nat) (cs : List Value) (x : DataW H × List MemPlace),
    DataW.trod enc P W 0 (fun _ => true) true fuel t cs = some x → (∀ n ∈ x.1.weights P t, n ≤ reachBytes) → ∃ a, KV W (d.enc a) cs ∧ good a ∧ mes a ≤ uptoBulk x.1

theorem kv_one {w : World} {v : V} {cv : Value} (h : Rel (All w) (cl w) none0 v cv) : KV w [v] [cv] := ⟨rfl, fun j u cu h1 h2 => by
  cases j with
  | zero => simp at h1 h2; subst h1; subst h2; exact h
  | succ j => simp at h1⟩

theorem opens_int {P : Program} {t : TypeId} {k : IntKind} (hu : P.underlying t = some (.int k)) (hc : P.cellsOf t = 1) : Opens P t (Cd.int k) (fun n => (Lit.int k n).wf = true) (fun _ => 1) := by
  refine ⟨hc, fun H enc W fuel cs x h _ => ?_⟩
  obtain ⟨n, rfl, rfl, hw⟩ := DataW.trod_int hu h
  exact ⟨n, kv_one (.int _ _ _), hw, by simp [uptoBulk]⟩

theorem opens_bool {P : Program} {t : TypeId} (hu : P.underlying t = some .bool) (hc : P.cellsOf t = 1) : Opens P t Cd.bool (fun _ => True) (fun _ => 1) := by
  refine ⟨hc, fun H enc W fuel cs x h _ => ?_⟩
  obtain ⟨b, rfl, rfl⟩ := DataW.trod_bool hu h
  exact ⟨b, kv_one (.bool _ _), trivial, by simp [uptoBulk]⟩

theorem opens_string {P : Program} {t : TypeId} (hu : P.underlying t = some .string) (hc : P.cellsOf t = 1) : Opens P t Cd.str (fun s => s.size ≤ 140737488351232) (fun s => s.size + 1) := by
  refine ⟨hc, fun H enc W fuel cs x h hz => ?_⟩
  obtain ⟨s, rfl, rfl, hs⟩ := DataW.trod_string hu h
  have h1 := hz s.data.toList.length (by simp [DataW.weights])
  refine ⟨s, kv_one (.str _ _), ?_, ?_⟩
  · simpa [reachBytes] using h1
  · simp [uptoBulk]

theorem bulkAll_append {H : Type} : ∀ (a b : List (DataW H)), uptoBulkAll (a ++ b) = uptoBulkAll a + uptoBulkAll b
  | [], b => by simp [uptoBulkAll]
  | x :: a, b => by simp [uptoBulkAll, bulkAll_append a b]; omega

theorem weights_all {H : Type} {P : Program} {e : TypeId} : ∀ {l : List (DataW H)} {d : DataW H}, d ∈ l → ∀ n ∈ d.weights P e, n ∈ DataW.weightsAll P e l
  | x :: l, d, h, n, hn => by
    simp only [DataW.weightsAll, List.mem_append]
    rcases List.mem_cons.1 h with rfl | h
    · exact .inl hn
    · exact .inr (weights_all h n hn)

/-- Element by element. -/
theorem all_open {α : Type} {P : Program} {e : TypeId} {d : Cd α} {good : α → Prop} {mes : α → Nat} (h : Opens P e d good mes) {H : Type} {enc : TypeId × Value → H} {W : World} {n : Nat} :
    ∀ (elems : List (DataW H × List MemPlace)) (cells : Nat → List Value),
      (∀ i y, elems[i]? = some y → DataW.trod enc P W 0 (fun _ => true) true n e (cells i) = some y) →
      (∀ m ∈ DataW.weightsAll P e (elems.map (·.1)), m ≤ reachBytes) →
      ∃ xs : List α, xs.length = elems.length ∧ (∀ i a, xs[i]? = some a → KV W (d.enc a) (cells i)) ∧ (∀ a ∈ xs, good a) ∧ (xs.map mes).sum ≤ uptoBulkAll (elems.map (·.1))
  | [], _, _, _ => ⟨[], rfl, fun i a hi => by simp at hi, fun a ha => by simp at ha, by simp⟩
  | y :: elems, cells, ht, hw => by
    obtain ⟨a, hk, hg, hm⟩ := h.2 H enc W n (cells 0) y (ht 0 y rfl) (fun m hm => hw m (by simp only [List.map_cons, DataW.weightsAll, List.mem_append]; exact .inl hm))
    obtain ⟨xs, hl, hks, hgs, hms⟩ := all_open h elems (fun i => cells (i + 1)) (fun i z hz => ht (i + 1) z hz) (fun m hm => hw m (by simp only [List.map_cons, DataW.weightsAll, List.mem_append]; exact .inr hm))
    refine ⟨a :: xs, by simp [hl], ?_, ?_, ?_⟩
    · intro i b hb
      cases i with
      | zero =>
        have : a = b := by simpa using hb
        subst this
        exact hk
      | succ i => exact hks i b (by simpa using hb)
    · intro b hb
      rcases List.mem_cons.1 hb with rfl | hb
      · exact hg
      · exact hgs b hb
    · simp only [List.map_cons, List.sum_cons, uptoBulkAll]
      omega

theorem cells_at {w : World} {base : Nat} : ∀ {n : Nat} {a : Addr} {c : List Value}, w.cells? base a n = some c → c.length = n ∧ ∀ i u, c[i]? = some u → w.cell? (a.add i) = some u := by
  intro n a c h
  unfold World.cells? at h
  split at h
  · have hl := mapM_some_length h
    refine ⟨by simpa using hl, fun i u hu => ?_⟩
    have hi : i < n := by
      have := (List.getElem?_eq_some_iff.1 hu).1
      simp at hl
      omega
    have hg := mapM_some_get h i i (by simp [hi])
    rw [hu] at hg
    exact hg
  · cases h

theorem opens_slice {α : Type} {P : Program} {t e : TypeId} {d : Cd α} {good : α → Prop} {mes : α → Nat} (hu : P.underlying t = some (.slice e)) (hc : P.cellsOf t = 1) (hsz : d.sz ≠ 0) (h : Opens P e d good mes) :
    Opens P t (Cd.slice d) (fun xs => xs.length * P.bytesOf e ≤ 140737488351232 ∧ ∀ a ∈ xs, good a) (fun xs => (xs.map mes).sum + 1) := by
  refine ⟨hc, fun H enc W fuel cs x ht hz => ?_⟩
  rcases DataW.trod_slice hu ht with ⟨rfl, rfl⟩ | ⟨a, len, cap, elems, rest, n, rfl, rfl, rfl, _, hl, hcap, hlen, he, _, _⟩
  · exact ⟨[], kv_one (.fz0 _ _ _), ⟨by simp, by simp⟩, by simp [uptoBulk]⟩
  · simp only [DataW.weights, hu] at hz
    have hw0 := hz _ (List.mem_cons_self ..)
    have hw1 : ∀ m ∈ DataW.weightsAll P e (elems.map (·.1)), m ≤ reachBytes := fun m hm => hz m (List.mem_cons_of_mem _ (List.mem_append_left _ hm))
    have hex : ∀ i, i < len → ∃ c, W.cells? 0 (a.add (i * P.cellsOf e)) (P.cellsOf e) = some c := by
      intro i hi
      have := he i hi
      rw [List.getElem?_eq_getElem (by omega)] at this
      obtain ⟨c, hc, _⟩ := Option.bind_eq_some_iff.1 this
      exact ⟨c, hc⟩
    obtain ⟨xs, hxl, hxk, hxg, hxm⟩ := all_open h (enc := enc) (W := W) (n := n) elems (fun i => (W.cells? 0 (a.add (i * P.cellsOf e)) (P.cellsOf e)).getD []) (by
      intro i y hy
      have hi : i < len := by
        have := (List.getElem?_eq_some_iff.1 hy).1
        omega
      have hh := he i hi
      rw [hy] at hh
      obtain ⟨c, hc, hr⟩ := Option.bind_eq_some_iff.1 hh
      simp only [hc, Option.getD_some]
      exact hr) hw1
    have hxlen : xs.length = len := by omega
    refine ⟨xs, ?_, ⟨?_, hxg⟩, ?_⟩
    · refine kv_one ?_
      cases hx0 : xs with
      | nil =>
        rw [hx0] at hxlen
        simp only [List.length_nil] at hxlen
        subst hxlen
        exact .fz0 _ _ _
      | cons x0 xr =>
        rw [← hx0]
        have hrel : ∀ (r j : Nat) (row : List V) (v : V), (xs.map d.enc)[r]? = some row → row[j]? = some v → ∃ u, W.cell? (a.add (r * d.sz + j)) = some u ∧ Rel (All W) (cl W) none0 v u := by
          intro r j row v hrow hv
          rw [List.getElem?_map, Option.map_eq_some_iff] at hrow
          obtain ⟨p, hp, rfl⟩ := hrow
          have hj : r < len := by
            have := (List.getElem?_eq_some_iff.1 hp).1
            omega
          obtain ⟨c, hc⟩ := hex r hj
          have hk := hxk r p hp
          simp only [hc, Option.getD_some] at hk
          obtain ⟨hcl, hcc⟩ := cells_at hc
          have hjl : j < c.length := by
            have := (List.getElem?_eq_some_iff.1 hv).1
            rw [hk.1]
            omega
          refine ⟨c[j], ?_, hk.2 j v c[j] hv (by simp [hjl])⟩
          have := hcc j c[j] (by simp [hjl])
          rw [h.1] at this
          rw [← this, Addr.add_add]
        have hlenrow : ∀ row ∈ xs.map d.enc, row.length = d.sz := fun row hm => by
          obtain ⟨p, _, rfl⟩ := List.mem_map.1 hm
          exact d.len p
        · have hspot : a.spot = none := by
            have hlt : 0 < (d.enc x0).length := by rw [d.len]; omega
            obtain ⟨u, hu1, _⟩ := hrel 0 0 (d.enc x0) ((d.enc x0)[0]) (by rw [hx0]; rfl) (by simp [hlt])
            simp only [Nat.zero_mul, Nat.add_zero, Addr.add, if_true] at hu1
            unfold World.cell? at hu1
            split at hu1
            · split at hu1
              · cases hu1
              · rename_i hs
                cases h2 : a.spot with
                | none => rfl
                | some q => simp [h2] at hs
            · cases hu1
          obtain ⟨b, o, sp⟩ := a
          simp only at hspot
          subst hspot
          have hadd : ∀ n, (⟨b, o, none⟩ : Addr).add n = ⟨b, o + n, none⟩ := fun n => by
            unfold Addr.add
            split
            · rename_i e; subst e; rfl
            · rfl
          have hlen2 : len = (xs.map d.enc).length := by simp; omega
          rw [hlen2]
          refine .fz _ (xs.map d.enc) b o d.sz cap (fun r j => (cl W b (o + r * d.sz + j)).getD undef) (by simp; omega) hlenrow (fun row hm v hv => by
            obtain ⟨p, _, rfl⟩ := List.mem_map.1 hm
            exact d.cell p v hv) (fun r j hr hj => ?_) (fun r j row v hrow hv => ?_)
          · have hrow : (xs.map d.enc)[r]? = some ((xs.map d.enc)[r]) := List.getElem?_eq_getElem hr
            have hl2 := hlenrow _ (List.mem_of_getElem? hrow)
            obtain ⟨u, h1, _⟩ := hrel r j _ (((xs.map d.enc)[r])[j]'(by omega)) hrow (List.getElem?_eq_getElem (by omega))
            rw [hadd, ← Nat.add_assoc] at h1
            have h1' : cl W b (o + r * d.sz + j) = some u := h1
            exact ⟨by simp [All, h1'], by rw [h1']; rfl⟩
          · obtain ⟨u, h1, h2⟩ := hrel r j row v hrow hv
            rw [hadd, ← Nat.add_assoc] at h1
            have h1' : cl W b (o + r * d.sz + j) = some u := h1
            rw [h1']
            exact h2
    · rw [hxlen]
      exact Nat.le_trans (Nat.mul_le_mul_right _ (by simp; omega)) hw0
    · simp only [uptoBulk]
      omega

theorem kv_app {w : World} {r r' : List V} {cs : List Value} {n : Nat} (h : KV w r (cs.take n)) (h' : KV w r' (cs.drop n)) : KV w (r ++ r') cs := by
  have h1 := h.1
  have h2 := h'.1
  simp only [List.length_take, List.length_drop] at h1 h2
  refine ⟨by simp; omega, fun j v cv hv hc => ?_⟩
  by_cases hj : j < r.length
  · rw [List.getElem?_append_left hj] at hv
    exact h.2 j v cv hv (by rw [List.getElem?_take, if_pos (by omega)]; exact hc)
  · rw [List.getElem?_append_right (by omega)] at hv
    have hj2 := (List.getElem?_eq_some_iff.1 hv).1
    exact h'.2 (j - r.length) v cv hv (by rw [List.getElem?_drop, ← hc]; congr 1; omega)

/-- The types of fields one behind the other, each where the ones ahead of it end. -/
def offs (P : Program) : Nat → List Field → Bool
  | _, [] => true
  | o, f :: r => f.offset == o && offs P (o + P.cellsOf f.type) r
def cellsAll (P : Program) : List Field → Nat
  | [] => 0
  | f :: r => P.cellsOf f.type + cellsAll P r

/-- Fields in a row. -/
def OpensF {α : Type} (P : Program) (fs : List Field) (d : Cd α) (good : α → Prop) (mes : α → Nat) : Prop :=
  cellsAll P fs = d.sz ∧ ∀ (H : Type) (enc : TypeId × Value → H) (W : World) (fuel : Nat) (cs : List Value) (xs : List (DataW H × List MemPlace)) (o : Nat),
    offs P o fs = true → cs.length = cellsAll P fs → xs.length = fs.length →
    (∀ (i : Nat) (f : Field), fs[i]? = some f → DataW.trod enc P W 0 (fun _ => true) true fuel f.type ((cs.drop (f.offset - o)).take (P.cellsOf f.type)) = xs[i]?) →
    (∀ n ∈ DataW.weightsEach P (fs.map (·.type)) (xs.map (·.1)), n ≤ reachBytes) → ∃ a, KV W (d.enc a) cs ∧ good a ∧ mes a ≤ uptoBulkAll (xs.map (·.1))

theorem offs_le {P : Program} : ∀ {fs : List Field} {o : Nat}, offs P o fs = true → ∀ (i : Nat) (f : Field), fs[i]? = some f → o ≤ f.offset
  | [], _, _, i, f, hf => by simp at hf
  | g :: r, o, h, i, f, hf => by
    simp only [offs, Bool.and_eq_true, beq_iff_eq] at h
    cases i with
    | zero =>
      have : g = f := by simpa using hf
      subst this
      omega
    | succ i =>
      have := offs_le h.2 i f (by simpa using hf)
      omega

theorem opensF_one {α : Type} {P : Program} {f : Field} {d : Cd α} {good : α → Prop} {mes : α → Nat} (h : Opens P f.type d good mes) : OpensF P [f] d good mes := by
  refine ⟨by simp [cellsAll, h.1], fun H enc W fuel cs xs o ho hl hx ht hw => ?_⟩
  obtain ⟨y, rfl⟩ : ∃ y, xs = [y] := by
    match xs, hx with
    | [y], _ => exact ⟨y, rfl⟩
  have h0 := ht 0 f rfl
  simp only [offs, Bool.and_eq_true, beq_iff_eq] at ho
  rw [ho.1, Nat.sub_self, List.drop_zero, List.take_of_length_le (by simp [cellsAll] at hl; omega)] at h0
  obtain ⟨a, hk, hg, hm⟩ := h.2 H enc W fuel cs y h0 (fun n hn => hw n (by simp [DataW.weightsEach]; exact hn))
  exact ⟨a, hk, hg, by simp [uptoBulkAll]; exact hm⟩

theorem opensF_cons {α β : Type} {P : Program} {f : Field} {fs : List Field} {d : Cd α} {d' : Cd β} {good : α → Prop} {good' : β → Prop} {mes : α → Nat} {mes' : β → Nat} (h : Opens P f.type d good mes) (h' : OpensF P fs d' good' mes') :
    OpensF P (f :: fs) (Cd.pair d d') (fun x => good x.1 ∧ good' x.2) (fun x => mes x.1 + mes' x.2) := by
  refine ⟨by simp only [cellsAll, h.1, h'.1]; rfl, fun H enc W fuel cs xs o ho hl hx ht hw => ?_⟩
  obtain ⟨y, ys, rfl⟩ : ∃ y ys, xs = y :: ys := by
    match xs, hx with
    | y :: ys, _ => exact ⟨y, ys, rfl⟩
  simp only [offs, Bool.and_eq_true, beq_iff_eq] at ho
  simp only [cellsAll] at hl
  have h0 := ht 0 f rfl
  rw [ho.1, Nat.sub_self, List.drop_zero] at h0
  obtain ⟨a, hk, hg, hm⟩ := h.2 H enc W fuel _ y h0 (fun n hn => hw n (by simp only [List.map_cons, DataW.weightsEach, List.mem_append]; exact .inl hn))
  obtain ⟨b, hk', hg', hm'⟩ := h'.2 H enc W fuel (cs.drop (P.cellsOf f.type)) ys (o + P.cellsOf f.type) ho.2 (by simp; omega) (by simpa using hx)
    (fun i g hgi => by
      have hle := offs_le ho.2 i g hgi
      have := ht (i + 1) g (by simpa using hgi)
      rw [show g.offset - o = P.cellsOf f.type + (g.offset - (o + P.cellsOf f.type)) by omega, ← List.drop_drop] at this
      simpa using this)
    (fun n hn => hw n (by simp only [List.map_cons, DataW.weightsEach, List.mem_append]; exact .inr hn))
  refine ⟨(a, b), kv_app hk hk', ⟨hg, hg'⟩, ?_⟩
  simp only [List.map_cons, uptoBulkAll]
  omega

theorem opens_struct {α β : Type} {P : Program} {t : TypeId} {fs : Array Field} {d : Cd α} {good : α → Prop} {mes : α → Nat} (f : β → α) (g : α → β) (hfg : ∀ a, f (g a) = a) (hu : P.underlying t = some (.struct fs)) (hc : P.cellsOf t = d.sz) (ho : offs P 0 fs.toList = true)
    (h : OpensF P fs.toList d good mes) : Opens P t (Cd.iso d f) (fun b => good (f b)) (fun b => mes (f b)) := by
  refine ⟨hc, fun H enc W fuel cs x ht hz => ?_⟩
  obtain ⟨xs, n, rfl, rfl, hl, hx, hi⟩ := DataW.trod_struct hu ht
  simp only [DataW.weights, hu] at hz
  obtain ⟨a, hk, hg, hm⟩ := h.2 H enc W n cs xs 0 ho (by rw [hl, hc, h.1]) (by simpa using hx) (fun i fd hfd => by
    have := hi i fd (by simpa using hfd)
    simpa using this) hz
  refine ⟨g a, ?_, ?_, ?_⟩
  · show KV W (d.enc (f (g a))) cs
    rw [hfg]
    exact hk
  · show good (f (g a))
    rw [hfg]
    exact hg
  · show mes (f (g a)) ≤ _
    rw [hfg]
    simp only [uptoBulk]
    omega

/-- What is told of a type by another number of it. -/
theorem opens_imp {α : Type} {P : Program} {t : TypeId} {d : Cd α} {good good' : α → Prop} {mes mes' : α → Nat} (h : Opens P t d good mes) (hg : ∀ a, good a → good' a) (hm : ∀ a, mes' a ≤ mes a) : Opens P t d good' mes' :=
  ⟨h.1, fun H enc W fuel cs x ht hz => by
    obtain ⟨a, hk, hga, hma⟩ := h.2 H enc W fuel cs x ht hz
    exact ⟨a, hk, hg a hga, Nat.le_trans (hm a) hma⟩⟩

/-- One argument of a row. -/
theorem arg_opens {α : Type} {P : Program} {t : TypeId} {d : Cd α} {good : α → Prop} {mes : α → Nat} (h : Opens P t d good mes) {H : Type} {enc : TypeId × Value → H} {W : World} {v : Value} {dat : DataW H} {ps : List MemPlace} (ht : DataW.Trod enc P W 0 (fun _ => true) true t v dat ps)
    {ts : List TypeId} {ds : List (DataW H)} (hsz : (DataW.weightsEach P ts ds).all (· ≤ reachBytes) = true) {j : Nat} (hj : ts[j]? = some t) (hd : ds[j]? = some dat) : ∃ a, KV W (d.enc a) v.cells.toList ∧ good a ∧ mes a ≤ uptoBulk dat := by
  obtain ⟨fuel, hf⟩ := ht
  exact h.2 H enc W fuel _ (dat, ps) hf (fun n hn => by
    have := List.all_eq_true.1 hsz n (DataW.weights_mem_each hj hd n hn)
    simpa using this)

theorem agg_of_struct {P : Program} {t : TypeId} {fs : Array Field} {W : World} {base : Nat} {v : Value} (hu : P.underlying t = some (.struct fs)) (h : Value.okWide P W .any base t v) : ∃ cs, v = .agg cs := by
  unfold Value.okWide at h
  rw [hu] at h
  obtain ⟨cs, rfl, _⟩ := h
  exact ⟨cs, rfl⟩
open Go.ChangeShapes Go.WideShapes in
theorem int_of {P : Program} {H : Type} {enc : TypeId × Value → H} {W : World} {base : Nat} {t : TypeId} {k : IntKind} {v : Value} {d : DataW H} {p : List MemPlace} (hu : P.underlying t = some (.int k)) (hv : Value.okWide P W .any base t v) (h : DataW.Trod enc P W 0 (fun _ => true) true t v d p) : ∃ x, v = .int k x := by
  obtain ⟨x, rfl, _⟩ := open_int hu hv h
  exact ⟨x, rfl⟩
open Go.ChangeShapes Go.WideShapes in
theorem bool_of {P : Program} {H : Type} {enc : TypeId × Value → H} {W : World} {base : Nat} {t : TypeId} {v : Value} {d : DataW H} {p : List MemPlace} (hu : P.underlying t = some .bool) (hv : Value.okWide P W .any base t v) (h : DataW.Trod enc P W 0 (fun _ => true) true t v d p) : ∃ x, v = .bool x := by
  obtain ⟨x, rfl, _⟩ := open_bool hu hv h
  exact ⟨x, rfl⟩
open Go.ChangeShapes Go.WideShapes Go.ChangeMaps in
theorem string_of {P : Program} {H : Type} {enc : TypeId × Value → H} {W : World} {base : Nat} {t : TypeId} {v : Value} {d : DataW H} {p : List MemPlace} (hu : P.underlying t = some .string) (hv : Value.okWide P W .any base t v) (h : DataW.Trod enc P W 0 (fun _ => true) true t v d p) : ∃ x, v = .string x := by
  obtain ⟨x, rfl, _⟩ := open_string hu hv h
  exact ⟨x, rfl⟩
theorem kv_rel {w : World} {v : V} {cv : Value} (h : KV w [v] [cv]) : Rel (All w) (cl w) none0 v cv := h.2 0 v cv rfl rfl
theorem kv_agg {w : World} {row : List V} {cs : Array Value} (h : KV w row cs.toList) : Rel (All w) (cl w) none0 (.agg row) (.agg cs) :=
  .agg _ _ _ (by simpa using h.1) fun j v hv => by
    have hlt := (List.getElem?_eq_some_iff.1 hv).1
    have hs : cs.size = row.length := by simpa using h.1
    rw [Array.getD_eq_getD_getElem?, Array.getElem?_eq_getElem (by omega)]
    exact h.2 j v _ hv (by simp [Array.getElem?_eq_getElem, hs, hlt])

theorem relAll0 {F : Froz} {c : Nat → Nat → Option Value} {β : Place} : RelAll F c β [] #[] := ⟨rfl, by simp⟩
theorem relAll_cons {F : Froz} {c : Nat → Nat → Option Value} {β : Place} {v : V} {cv : Value} {vs : List V} {cvs : List Value} (h : Rel F c β v cv) (hs : RelAll F c β vs cvs.toArray) : RelAll F c β (v :: vs) (cv :: cvs).toArray :=
  ⟨by simpa using hs.size, fun j u hu => by
    cases j with
    | zero => simp at hu; subst hu; simpa [Array.getD] using h
    | succ j =>
      have := hs.at_ j u (by simpa using hu)
      rw [Array.getD_eq_getD_getElem?] at this ⊢
      simpa using this⟩

theorem inv0 (W : World) : Inv ⟨W, KOf none0 W, All W⟩ none0 (All W) [] W := by
  refine { os := rfl, tape := rfl, output := rfl, size := Nat.le_refl _, keep := fun _ _ => rfl, kin := fun _ h => h.1, inj := ?_, fresh := ?_, obs := ?_, froz := ?_, prot := ?_ }
  · intro i j oi oj l l' b h; simp [Heap.at?] at h
  · intro i l b h; simp [none0] at h
  · intro i o h; simp [Heap.at?] at h
  rotate_left
  · intro i b st C st' rows frz pure h; simp [none0] at h
  intro b o h
  refine ⟨?_, fun _ => h⟩
  unfold All cl World.cell? at h
  cases hb : W.heap[b]? with
  | none => simp [hb] at h
  | some x => exact (Array.getElem?_eq_some_iff.1 hb).1

/-- What the machine answers is what the call comes to; nothing that was there has turned. -/
theorem law_ok {P : Program} {g : FuncId} {fn : Fun} (hf : FunOK P g fn) {args : List V} {cargs : Array Value} {W : World} {b : Bool} {h : Heap} (heq : fn args [] = some (.bool b, h)) (hargs : RelAll (All W) (cl W) none0 args cargs) :
    Calls P g cargs W fun e W' => e = .returned (.bool b) ∧ Below W.heap.size W W' := by
  refine (hf args [] _ _ heq none0 (All W) W cargs (inv0 W) (fun _ _ => rfl) hargs).mono ?_
  rintro e w' ⟨cv, β', F', rfl, hp⟩
  have hr := hp.rel
  cases hr
  exact ⟨rfl, hp.inv.os, hp.inv.tape, hp.inv.output, hp.inv.size, fun k hk => hp.inv.keep k ⟨hk, fun i l h => by simp [none0] at h⟩⟩
end Go.Proofs.YtoggbcckkjfkhaaGreat.R
/- The kinds of the laws' arguments: what they read as, as Lean values and as the machine's. -/
namespace Go.Proofs.YtoggbcckkjfkhaaGreat.R
open Go Go.RowKit Go.Proofs
def g3 (x : Int) : Prop := (Lit.int .i64 x).wf = true
def m3 (_ : Int) : Nat := 1
theorem o3 : Opens Tryz.prog 3 (Cd.int .i64) g3 m3 := opens_int Tryz.underlying3 (by kernel_rfl)
structure S23 where
  f0 : Int
  f1 : Int
  f2 : Int
  f3 : Int
  f4 : Int
  f5 : Int
  f6 : Int
deriving DecidableEq
def k23 : Cd S23 := Cd.iso (Cd.pair (Cd.int .i64) (Cd.pair (Cd.int .i64) (Cd.pair (Cd.int .i64) (Cd.pair (Cd.int .i64) (Cd.pair (Cd.int .i64) (Cd.pair (Cd.int .i64) (Cd.int .i64))))))) (fun x : S23 => (x.f0, x.f1, x.f2, x.f3, x.f4, x.f5, x.f6))
theorem k23_enc (x : S23) : k23.enc x = [.int .i64 x.f0, .int .i64 x.f1, .int .i64 x.f2, .int .i64 x.f3, .int .i64 x.f4, .int .i64 x.f5, .int .i64 x.f6] := rfl
theorem all23 (l : List S23) : ((l.map k23.enc).all fun r => r.length == 7) = true := all_enc k23 l
def g23 (x : S23) : Prop := g3 x.f0 ∧ g3 x.f1 ∧ g3 x.f2 ∧ g3 x.f3 ∧ g3 x.f4 ∧ g3 x.f5 ∧ g3 x.f6
def m23 (x : S23) : Nat := m3 x.f0 + m3 x.f1 + m3 x.f2 + m3 x.f3 + m3 x.f4 + m3 x.f5 + m3 x.f6
theorem o23 : Opens Tryz.prog 23 k23 g23 m23 :=
  opens_imp (opens_struct (fun x : S23 => (x.f0, x.f1, x.f2, x.f3, x.f4, x.f5, x.f6)) (fun x => ⟨x.1, x.2.1, x.2.2.1, x.2.2.2.1, x.2.2.2.2.1, x.2.2.2.2.2.1, x.2.2.2.2.2.2⟩) (fun _ => rfl) Tryz.underlying23 (by kernel_rfl) (by kernel_rfl) (opensF_cons o3 (opensF_cons o3 (opensF_cons o3 (opensF_cons o3 (opensF_cons o3 (opensF_cons o3 (opensF_one o3)))))))) (fun _ h => h) (fun x => by simp only [m23]; omega)
def g54 (x : Int) : Prop := (Lit.int .u32 x).wf = true
def m54 (_ : Int) : Nat := 1
theorem o54 : Opens Tryz.prog 54 (Cd.int .u32) g54 m54 := opens_int Tryz.underlying54 (by kernel_rfl)
def g24 (xs : List Int) : Prop := xs.length * 4 ≤ 140737488351232 ∧ ∀ a ∈ xs, g54 a
def m24 (xs : List Int) : Nat := (xs.map m54).sum + 1
theorem b24 : Tryz.prog.bytesOf 54 = 4 := by kernel_rfl
theorem o24 : Opens Tryz.prog 24 (Cd.slice (Cd.int .u32)) g24 m24 := by
  refine opens_imp (opens_slice Tryz.underlying24 (by kernel_rfl) (by decide) o54) (fun a h => ?_) (fun a => Nat.le_refl _)
  rw [b24] at h
  exact h
structure S96 where
  f0 : Int
  f1 : Int
deriving DecidableEq
def k96 : Cd S96 := Cd.iso (Cd.pair (Cd.int .u32) (Cd.int .u32)) (fun x : S96 => (x.f0, x.f1))
theorem k96_enc (x : S96) : k96.enc x = [.int .u32 x.f0, .int .u32 x.f1] := rfl
theorem all96 (l : List S96) : ((l.map k96.enc).all fun r => r.length == 2) = true := all_enc k96 l
def g96 (x : S96) : Prop := g54 x.f0 ∧ g54 x.f1
def m96 (x : S96) : Nat := m54 x.f0 + m54 x.f1
theorem o96 : Opens Tryz.prog 96 k96 g96 m96 :=
  opens_imp (opens_struct (fun x : S96 => (x.f0, x.f1)) (fun x => ⟨x.1, x.2⟩) (fun _ => rfl) Tryz.underlying96 (by kernel_rfl) (by kernel_rfl) (opensF_cons o54 (opensF_one o54))) (fun _ h => h) (fun x => by simp only [m96]; omega)
def g25 (xs : List S96) : Prop := xs.length * 8 ≤ 140737488351232 ∧ ∀ a ∈ xs, g96 a
def m25 (xs : List S96) : Nat := (xs.map m96).sum + 1
theorem b25 : Tryz.prog.bytesOf 96 = 8 := by kernel_rfl
theorem o25 : Opens Tryz.prog 25 (Cd.slice k96) g25 m25 := by
  refine opens_imp (opens_slice Tryz.underlying25 (by kernel_rfl) (by decide) o96) (fun a h => ?_) (fun a => Nat.le_refl _)
  rw [b25] at h
  exact h
def g9 (s : ByteArray) : Prop := s.size ≤ 140737488351232
def m9 (s : ByteArray) : Nat := s.size + 1
theorem o9 : Opens Tryz.prog 9 Cd.str g9 m9 := opens_string Tryz.underlying9 (by kernel_rfl)
def g55 (x : Int) : Prop := (Lit.int .u16 x).wf = true
def m55 (_ : Int) : Nat := 1
theorem o55 : Opens Tryz.prog 55 (Cd.int .u16) g55 m55 := opens_int Tryz.underlying55 (by kernel_rfl)
structure S57 where
  f0 : ByteArray
  f1 : Int
  f2 : Int
deriving DecidableEq
def k57 : Cd S57 := Cd.iso (Cd.pair Cd.str (Cd.pair (Cd.int .u32) (Cd.int .u16))) (fun x : S57 => (x.f0, x.f1, x.f2))
theorem k57_enc (x : S57) : k57.enc x = [.str x.f0, .int .u32 x.f1, .int .u16 x.f2] := rfl
theorem all57 (l : List S57) : ((l.map k57.enc).all fun r => r.length == 3) = true := all_enc k57 l
def g57 (x : S57) : Prop := g9 x.f0 ∧ g54 x.f1 ∧ g55 x.f2
def m57 (x : S57) : Nat := m9 x.f0 + m54 x.f1 + m55 x.f2
theorem o57 : Opens Tryz.prog 57 k57 g57 m57 :=
  opens_imp (opens_struct (fun x : S57 => (x.f0, x.f1, x.f2)) (fun x => ⟨x.1, x.2.1, x.2.2⟩) (fun _ => rfl) Tryz.underlying57 (by kernel_rfl) (by kernel_rfl) (opensF_cons o9 (opensF_cons o54 (opensF_one o55)))) (fun _ h => h) (fun x => by simp only [m57]; omega)
def g26 (xs : List S57) : Prop := xs.length * 24 ≤ 140737488351232 ∧ ∀ a ∈ xs, g57 a
def m26 (xs : List S57) : Nat := (xs.map m57).sum + 1
theorem b26 : Tryz.prog.bytesOf 57 = 24 := by kernel_rfl
theorem o26 : Opens Tryz.prog 26 (Cd.slice k57) g26 m26 := by
  refine opens_imp (opens_slice Tryz.underlying26 (by kernel_rfl) (by decide) o57) (fun a h => ?_) (fun a => Nat.le_refl _)
  rw [b26] at h
  exact h
structure S28 where
  f0 : (List Int)
  f1 : (List S96)
  f2 : (List S57)
deriving DecidableEq
def k28 : Cd S28 := Cd.iso (Cd.pair (Cd.slice (Cd.int .u32)) (Cd.pair (Cd.slice k96) (Cd.slice k57))) (fun x : S28 => (x.f0, x.f1, x.f2))
theorem k28_enc (x : S28) : k28.enc x = [.fz (x.f0.map (Cd.int .u32).enc), .fz (x.f1.map k96.enc), .fz (x.f2.map k57.enc)] := rfl
theorem all28 (l : List S28) : ((l.map k28.enc).all fun r => r.length == 3) = true := all_enc k28 l
def g28 (x : S28) : Prop := g24 x.f0 ∧ g25 x.f1 ∧ g26 x.f2
def m28 (x : S28) : Nat := m24 x.f0 + m25 x.f1 + m26 x.f2
theorem o28 : Opens Tryz.prog 28 k28 g28 m28 :=
  opens_imp (opens_struct (fun x : S28 => (x.f0, x.f1, x.f2)) (fun x => ⟨x.1, x.2.1, x.2.2⟩) (fun _ => rfl) Tryz.underlying28 (by kernel_rfl) (by kernel_rfl) (opensF_cons o24 (opensF_cons o25 (opensF_one o26)))) (fun _ h => h) (fun x => by simp only [m28]; omega)
def g5 (x : Int) : Prop := (Lit.int .u8 x).wf = true
def m5 (_ : Int) : Nat := 1
theorem o5 : Opens Tryz.prog 5 (Cd.int .u8) g5 m5 := opens_int Tryz.underlying5 (by kernel_rfl)
structure S30 where
  f0 : Int
  f1 : ByteArray
  f2 : ByteArray
  f3 : ByteArray
  f4 : ByteArray
  f5 : ByteArray
deriving DecidableEq
def k30 : Cd S30 := Cd.iso (Cd.pair (Cd.int .u8) (Cd.pair Cd.str (Cd.pair Cd.str (Cd.pair Cd.str (Cd.pair Cd.str Cd.str))))) (fun x : S30 => (x.f0, x.f1, x.f2, x.f3, x.f4, x.f5))
theorem k30_enc (x : S30) : k30.enc x = [.int .u8 x.f0, .str x.f1, .str x.f2, .str x.f3, .str x.f4, .str x.f5] := rfl
theorem all30 (l : List S30) : ((l.map k30.enc).all fun r => r.length == 6) = true := all_enc k30 l
def g30 (x : S30) : Prop := g5 x.f0 ∧ g9 x.f1 ∧ g9 x.f2 ∧ g9 x.f3 ∧ g9 x.f4 ∧ g9 x.f5
def m30 (x : S30) : Nat := m5 x.f0 + m9 x.f1 + m9 x.f2 + m9 x.f3 + m9 x.f4 + m9 x.f5
theorem o30 : Opens Tryz.prog 30 k30 g30 m30 :=
  opens_imp (opens_struct (fun x : S30 => (x.f0, x.f1, x.f2, x.f3, x.f4, x.f5)) (fun x => ⟨x.1, x.2.1, x.2.2.1, x.2.2.2.1, x.2.2.2.2.1, x.2.2.2.2.2⟩) (fun _ => rfl) Tryz.underlying30 (by kernel_rfl) (by kernel_rfl) (opensF_cons o5 (opensF_cons o9 (opensF_cons o9 (opensF_cons o9 (opensF_cons o9 (opensF_one o9))))))) (fun _ h => h) (fun x => by simp only [m30]; omega)
end Go.Proofs.YtoggbcckkjfkhaaGreat.R
/- No bounds any more: what a function answers once the bounds on rounds and depth are great enough. -/
namespace Go.Proofs.YtoggbcckkjfkhaaGreat.R
set_option linter.unusedVariables false
set_option linter.unusedSimpArgs false
open Go

section
variable {α : Type}

/-- What becomes of a slice hangs on nothing that comes behind it. -/
def MsLeaf (H : Heap) (ms : Nat → Nat → Nat → Nat → (V → Upd → Rd α) → Rd α) : Prop := ∀ (i st o n : Nat) (l : List Nat), (∀ k : V → Upd → Rd α, (ms i st o n k).run H l = none) ∨ ∃ x' u l1, ∀ k : V → Upd → Rd α, (ms i st o n k).run H l = (k x' u).run H l1
mutual
theorem frzG_leaf (H : Heap) {ms : Nat → Nat → Nat → Nat → (V → Upd → Rd α) → Rd α} (hms : MsLeaf H ms) : ∀ (x : V) (l : List Nat), (∀ k : V → Upd → Rd α, (frzG ms x k).run H l = none) ∨ ∃ x' u l1, ∀ k : V → Upd → Rd α, (frzG ms x k).run H l = (k x' u).run H l1
  | .ms i st o n c, l => by
    simp only [frzG]
    exact hms i st o n l
  | .nils, l => .inr ⟨_, _, _, fun k => by simp only [frzG]; rfl⟩
  | .agg cs, l => by
    rcases frzGAll_leaf H hms cs l with h | ⟨x', u, l1, h⟩
    · exact .inl fun k => by simp only [frzG]; exact h _
    · exact .inr ⟨.agg x', u, l1, fun k => by simp only [frzG]; exact h _⟩
  | .tup cs, l => by
    rcases frzGAll_leaf H hms cs l with h | ⟨x', u, l1, h⟩
    · exact .inl fun k => by simp only [frzG]; exact h _
    · exact .inr ⟨.tup x', u, l1, fun k => by simp only [frzG]; exact h _⟩
  | .undef, l | .bool _, l | .int _ _, l | .str _, l | .fz _, l | .nilp, l | .ptr _ _ _, l | .el _ _, l | .nilm, l | .map _, l | .nilf, l | .clo _ _, l | .nili, l | .ifc _ _, l => .inr ⟨_, _, _, fun k => by simp only [frzG]; rfl⟩
theorem frzGAll_leaf (H : Heap) {ms : Nat → Nat → Nat → Nat → (V → Upd → Rd α) → Rd α} (hms : MsLeaf H ms) : ∀ (xs : List V) (l : List Nat), (∀ k : List V → Upd → Rd α, (frzGAll ms xs k).run H l = none) ∨ ∃ x' u l1, ∀ k : List V → Upd → Rd α, (frzGAll ms xs k).run H l = (k x' u).run H l1
  | [], l => .inr ⟨_, _, _, fun k => by simp only [frzGAll]; rfl⟩
  | x :: r, l => by
    rcases frzG_leaf H hms x l with h | ⟨x', u, l1, h⟩
    · exact .inl fun k => by simp only [frzGAll]; exact h _
    · rcases frzGAll_leaf H hms r l1 with h2 | ⟨r', u', l2, h2⟩
      · exact .inl fun k => by simp only [frzGAll]; rw [h]; exact h2 _
      · exact .inr ⟨x' :: r', u ++ u', l2, fun k => by simp only [frzGAll]; rw [h]; exact h2 _⟩
end
theorem frzGRows_leaf (H : Heap) {ms : Nat → Nat → Nat → Nat → (V → Upd → Rd α) → Rd α} (hms : MsLeaf H ms) : ∀ (xs : List (List V)) (l : List Nat), (∀ k : List (List V) → Upd → Rd α, (frzGRows ms xs k).run H l = none) ∨ ∃ x' u l1, ∀ k : List (List V) → Upd → Rd α, (frzGRows ms xs k).run H l = (k x' u).run H l1
  | [], l => .inr ⟨_, _, _, fun k => by simp only [frzGRows]; rfl⟩
  | x :: r, l => by
    rcases frzGAll_leaf H hms x l with h | ⟨x', u, l1, h⟩
    · exact .inl fun k => by simp only [frzGRows]; exact h _
    · rcases frzGRows_leaf H hms r l1 with h2 | ⟨r', u', l2, h2⟩
      · exact .inl fun k => by simp only [frzGRows]; rw [h]; exact h2 _
      · exact .inr ⟨x' :: r', u ++ u', l2, fun k => by simp only [frzGRows]; rw [h]; exact h2 _⟩
theorem msUp_leaf (H : Heap) {ms : Nat → Nat → Nat → Nat → (V → Upd → Rd α) → Rd α} (hms : MsLeaf H ms) : MsLeaf H (msUp ms) := fun i st o n l => by
  cases h : H.at? i with
  | none => exact .inl fun k => by simp [msUp, Rd.run, h]
  | some ob =>
    cases ob with
    | mp es p => exact .inl fun k => by simp [msUp, Rd.run, h]
    | buf st' rows f p =>
      cases p with
      | false =>
        by_cases hc : st' = st ∧ o + n ≤ rows.length
        · rcases frzGRows_leaf H hms rows (i :: l) with h2 | ⟨rows', u, l1, h2⟩
          · exact .inl fun k => by simp only [msUp, Rd.run, h, if_pos hc]; exact h2 _
          · by_cases ha : (rows'.all fun r => r.all fun v => v.isCell && !v.hasIds) = true
            · exact .inr ⟨_, _, _, fun k => by simp only [msUp, Rd.run, h, if_pos hc]; rw [h2, if_pos ha]⟩
            · exact .inl fun k => by simp only [msUp, Rd.run, h, if_pos hc]; rw [h2, if_neg ha]; rfl
        · exact .inl fun k => by simp [msUp, Rd.run, h, if_neg hc]
      | true =>
        by_cases hc : st' = st ∧ o + n ≤ rows.length
        · exact .inr ⟨_, _, _, fun k => by simp only [msUp, Rd.run, h, if_pos hc]; rfl⟩
        · exact .inl fun k => by simp [msUp, Rd.run, h, if_neg hc]
theorem ms2_leaf (H : Heap) : MsLeaf (α := α) H ms2 := msUp_leaf H (msUp_leaf H (msUp_leaf H fun _ _ _ _ _ => .inl fun _ => rfl))
theorem frz_leaf (H : Heap) (x : V) (l : List Nat) : (∀ k : V → Upd → Rd α, (frz x k).run H l = none) ∨ ∃ x' u l1, ∀ k : V → Upd → Rd α, (frz x k).run H l = (k x' u).run H l1 := frzG_leaf H (ms2_leaf H) x l

theorem frzArgs_leaf (H : Heap) : ∀ (xs : List V) (m : List Bool) (l : List Nat), (∀ k : List V → Upd → Rd α, (frzArgs xs m k).run H l = none) ∨ ∃ x' u l1, ∀ k : List V → Upd → Rd α, (frzArgs xs m k).run H l = (k x' u).run H l1
  | [], m, l => .inr ⟨_, _, _, fun k => by simp only [frzArgs]; rfl⟩
  | x :: r, m, l => by
    have keep : ∀ m', (∀ k : List V → Upd → Rd α, (frzArgs (x :: r) m k) = frzArgs r m' fun r u' => k (x :: r) u') → (∀ k : List V → Upd → Rd α, (frzArgs (x :: r) m k).run H l = none) ∨ ∃ x' u l1, ∀ k : List V → Upd → Rd α, (frzArgs (x :: r) m k).run H l = (k x' u).run H l1 := by
      intro m' hm
      rcases frzArgs_leaf H r m' l with h2 | ⟨r', u', l2, h2⟩
      · exact .inl fun k => by rw [hm]; exact h2 _
      · exact .inr ⟨x :: r', u', l2, fun k => by rw [hm]; exact h2 _⟩
    cases m with
    | nil => exact keep (List.tail []) fun k => by simp only [frzArgs]
    | cons b m =>
      cases b with
      | false => exact keep (List.tail (false :: m)) fun k => by simp only [frzArgs]
      | true =>
        rcases frz_leaf H x l with h | ⟨x', u, l1, h⟩
        · exact .inl fun k => by simp only [frzArgs]; exact h _
        · rcases frzArgs_leaf H r m l1 with h2 | ⟨r', u', l2, h2⟩
          · exact .inl fun k => by simp only [frzArgs]; rw [h]; exact h2 _
          · exact .inr ⟨x' :: r', u ++ u', l2, fun k => by simp only [frzArgs]; rw [h]; exact h2 _⟩

theorem collect_leaf (H : Heap) : ∀ (n : Nat) (todo : List Nat) (acc : List (Nat × Ob)) (l : List Nat), (∀ k : List (Nat × Ob) → Rd α, (collect n todo acc k).run H l = none) ∨ ∃ obs l1, ∀ k : List (Nat × Ob) → Rd α, (collect n todo acc k).run H l = (k obs).run H l1
  | 0, todo, acc, l => .inl fun k => by simp [collect, Rd.run]
  | n + 1, [], acc, l => .inr ⟨acc, l, fun k => by simp only [collect]⟩
  | n + 1, i :: todo, acc, l => by
    by_cases hc : (acc.map (·.1)).contains i = true
    · rcases collect_leaf H n todo acc l with h | ⟨obs, l1, h⟩
      · exact .inl fun k => by simp only [collect, if_pos hc]; exact h _
      · exact .inr ⟨obs, l1, fun k => by simp only [collect, if_pos hc]; exact h _⟩
    · cases ho : H.at? i with
      | none => exact .inl fun k => by simp [collect, if_neg hc, Rd.run, ho]
      | some o =>
        rcases collect_leaf H n (o.ids ++ todo) (acc ++ [(i, o)]) (i :: l) with h | ⟨obs, l1, h⟩
        · exact .inl fun k => by simp only [collect, if_neg hc, Rd.run, ho]; exact h _
        · exact .inr ⟨obs, l1, fun k => by simp only [collect, if_neg hc, Rd.run, ho]; exact h _⟩
end

/-- A call's answer hangs on what the function answers at one place. -/
theorem with_leaf (H : Heap) (n : Nat) (args : List V) (u : Upd) (obs : List (Nat × Ob)) (l : List Nat) : (∀ fn : Fun, (withR fn n args u obs).run H l = none) ∨ ∃ a hs, ∃ K : V × Heap → Option ((V × Upd) × List Nat), ∀ fn : Fun, (withR fn n args u obs).run H l = (fn a hs).bind K := by
  unfold withR
  simp only
  split
  · split
    · rename_i a hs _ _
      refine .inr ⟨a, hs, fun r => (if (obs.map (·.1)).length ≤ r.2.length then afterR n (obs.map (·.1)) u r.1 r.2 else .fail).run H l, fun fn => ?_⟩
      cases fn a hs with
      | none => rfl
      | some r => rfl
    · exact .inl fun _ => rfl
  · exact .inl fun _ => rfl

theorem callR_leaf (H : Heap) (pfz : List Bool) (n : Nat) (args : List V) (l : List Nat) : (∀ fn : Fun, (callR fn pfz n args).run H l = none) ∨ ∃ a hs, ∃ K : V × Heap → Option ((V × Upd) × List Nat), ∀ fn : Fun, (callR fn pfz n args).run H l = (fn a hs).bind K := by
  unfold callR
  rcases frzArgs_leaf (α := V × Upd) H args pfz l with h | ⟨a1, u, l1, h⟩
  · exact .inl fun fn => h _
  · rcases collect_leaf (α := V × Upd) H 4096 (V.allIds a1) [] l1 with h2 | ⟨obs, l2, h2⟩
    · exact .inl fun fn => by rw [h]; exact h2 _
    · rcases with_leaf H n a1 u obs l2 with h3 | ⟨a, hs, K, h3⟩
      · exact .inl fun fn => by rw [h, h2]; exact h3 fn
      · exact .inr ⟨a, hs, K, fun fn => by rw [h, h2]; exact h3 fn⟩

section
variable (T : TT) (fns : FuncId → Option AFn)

theorem aop_leaf (H : Heap) (n : Nat) (e : Env) (o : Oper) (l : List Nat) : (∃ r, ∀ call, (aop { T, fns, call } n e o).run H l = r) ∨ ∃ g a hs, ∃ K : V × Heap → Option ((V × Upd) × List Nat), ∀ call : FuncId → Fun, (aop { T, fns, call } n e o).run H l = (call g a hs).bind K := by
  have one : ∀ {x : Option ((V × Upd) × List Nat)}, (∀ call, (aop { T, fns, call } n e o).run H l = x) → (∃ r, ∀ call, (aop { T, fns, call } n e o).run H l = r) ∨ ∃ g a hs, ∃ K : V × Heap → Option ((V × Upd) × List Nat), ∀ call : FuncId → Fun, (aop { T, fns, call } n e o).run H l = (call g a hs).bind K := fun h => .inl ⟨_, h⟩
  let w : Option ((V × Upd) × List Nat) := (aop { T, fns, call := fun _ _ _ => none } n e o).run H l
  obtain ⟨dst, op, ty, pos, after, guard⟩ := o
  cases op with
  | call c =>
    obtain ⟨callee, ars, ats⟩ := c
    cases callee with
    | builtin b => exact one (x := w) fun call => rfl
    | value f =>
      show (∃ r, ∀ call, (callV { T, fns, call } n (ev e f) (evs e ars.toList)).run H l = r) ∨ ∃ g a hs, ∃ K : V × Heap → Option ((V × Upd) × List Nat), ∀ call : FuncId → Fun, (callV { T, fns, call } n (ev e f) (evs e ars.toList)).run H l = (call g a hs).bind K
      unfold callV
      cases ev e f with
      | clo g caps =>
        simp only
        cases fns g with
        | none => exact .inl ⟨none, fun call => rfl⟩
        | some fn =>
          simp only
          rcases callR_leaf H fn.pfz n (evs e ars.toList ++ caps) l with h | ⟨a, hs, K, h⟩
          · exact .inl ⟨none, fun call => h _⟩
          · exact .inr ⟨g, a, hs, K, fun call => h _⟩
      | _ => exact .inl ⟨none, fun call => rfl⟩
    | invoke _ _ => exact one (x := w) fun call => rfl
  | makeFunc f first caps => cases f <;> exact one (x := w) fun call => rfl
  | makeMap t x => cases x <;> exact one (x := w) fun call => rfl
  | _ => exact one (x := w) fun call => rfl

/-- Bounds great enough. -/
def Evt (g : FuncId) (a : List V) (h : List Ob) (r : V × Heap) : Prop := ∃ i, ∀ R d, i ≤ R → i ≤ d → acall T fns R d g a h = some r

open Classical in
/-- What a function answers, whatever the bounds, once they are great enough. -/
noncomputable def lim : FuncId → Fun := fun g a h => if hx : ∃ r, Evt T fns g a h r then some hx.choose else none

theorem lim_evt {g : FuncId} {a : List V} {h : List Ob} {r : V × Heap} (hl : lim T fns g a h = some r) : Evt T fns g a h r := by
  unfold lim at hl
  split at hl
  · rename_i hx
    cases hl
    exact hx.choose_spec
  · cases hl

theorem lim_of {g : FuncId} {a : List V} {h : List Ob} {r : V × Heap} (he : Evt T fns g a h r) : lim T fns g a h = some r := by
  unfold lim
  have hx : ∃ r, Evt T fns g a h r := ⟨r, he⟩
  rw [dif_pos hx]
  obtain ⟨i, hi⟩ := he
  obtain ⟨j, hj⟩ := hx.choose_spec
  have h1 := hi (max i j) (max i j) (by omega) (by omega)
  have h2 := hj (max i j) (max i j) (by omega) (by omega)
  rw [h1] at h2
  exact h2.symm

/-- The machine without bounds on depth. -/
noncomputable abbrev LX : Cx := { T, fns, call := lim T fns }
abbrev AX (R d : Nat) : Cx := { T, fns, call := acall T fns R d }

theorem aop_lim {H : Heap} {n : Nat} {e : Env} {o : Oper} {l : List Nat} {r : (V × Upd) × List Nat} (h : (aop (LX T fns) n e o).run H l = some r) : ∃ i, ∀ R d, i ≤ R → i ≤ d → (aop (AX T fns R d) n e o).run H l = some r := by
  rcases aop_leaf T fns H n e o l with ⟨x, hx⟩ | ⟨g, a, hs, K, hx⟩
  · exact ⟨0, fun R d _ _ => by rw [hx] at h ⊢; exact h⟩
  · rw [hx, Option.bind_eq_some_iff] at h
    obtain ⟨p, h1, h2⟩ := h
    obtain ⟨i, hi⟩ := lim_evt T fns h1
    exact ⟨i, fun R d hR hd => by rw [hx]; simp only [hi R d hR hd]; exact h2⟩

theorem ops_lim {ntmps : Nat} {ops : Array Oper} : ∀ {rest : List Oper} {s s' : St}, runOps (LX T fns) ntmps ops rest s = some s' → ∃ i, ∀ R d, i ≤ R → i ≤ d → runOps (AX T fns R d) ntmps ops rest s = some s'
  | [], s, s', h => ⟨0, fun R d _ _ => h⟩
  | o :: r, s, s', h => by
    simp only [runOps] at h ⊢
    split at h
    · cases h
    · simp only [Option.bind_eq_some_iff] at h ⊢
      obtain ⟨e, h1, h2⟩ := h
      obtain ⟨i, hi⟩ := ops_lim h2
      exact ⟨i, fun R d hR hd => ⟨e, h1, hi R d hR hd⟩⟩
    · split at h
      · cases h
      · rename_i v u l hrun
        simp only [Option.bind_eq_some_iff] at h
        obtain ⟨e, h1, h2⟩ := h
        obtain ⟨i, hi⟩ := aop_lim T fns hrun
        obtain ⟨j, hj⟩ := ops_lim h2
        exact ⟨max i j, fun R d hR hd => by
          rw [hi R d (by omega) (by omega)]
          simp only [Option.bind_eq_some_iff]
          exact ⟨e, h1, hj R d (by omega) (by omega)⟩⟩

theorem draw_lim {ntmps : Nat} {ops : Array Oper} {bef : Array Nat} : ∀ {rest : List Oper} {j : Nat} {s s' : St} {done : List Did}, runDraw (LX T fns) ntmps ops bef rest j s done = some s' → ∃ i, ∀ R d, i ≤ R → i ≤ d → runDraw (AX T fns R d) ntmps ops bef rest j s done = some s'
  | [], j, s, s', done, h => ⟨0, fun R d _ _ => h⟩
  | o :: r, j, s, s', done, h => by
    simp only [runDraw] at h ⊢
    split at h
    · cases h
    · simp only [Option.bind_eq_some_iff] at h ⊢
      obtain ⟨e, h1, h2⟩ := h
      obtain ⟨i, hi⟩ := draw_lim h2
      exact ⟨i, fun R d hR hd => ⟨e, h1, hi R d hR hd⟩⟩
    · split at h
      · cases h
      · rename_i v u l hrun
        split at h
        · rename_i hap
          simp only [Option.bind_eq_some_iff] at h
          obtain ⟨e, h1, h2⟩ := h
          obtain ⟨i, hi⟩ := aop_lim T fns hrun
          obtain ⟨k, hk⟩ := draw_lim h2
          exact ⟨max i k, fun R d hR hd => by
            rw [hi R d (by omega) (by omega)]
            simp only [if_pos hap, Option.bind_eq_some_iff]
            exact ⟨e, h1, hk R d (by omega) (by omega)⟩⟩
        · cases h

theorem iops_lim {cb : CB} {cbs : Nat → Nat → CB} (hcb : ∀ args h x, cb args h = some x → ∃ i, ∀ R d, i ≤ R → i ≤ d → cbs R d args h = some x) {nt : Nat} {ops : Array Oper} : ∀ {rest : List Oper} {s s' : ISt}, iOps (LX T fns) nt cb ops rest s = some s' → ∃ i, ∀ R d, i ≤ R → i ≤ d → iOps (AX T fns R d) nt (cbs R d) ops rest s = some s'
  | [], s, s', h => ⟨0, fun R d _ _ => h⟩
  | o :: r, s, s', h => by
    simp only [iOps] at h ⊢
    cases hw : wants ops s.env o with
    | none => simp [hw] at h
    | some b =>
      cases b with
      | false =>
        simp only [hw, Option.bind_eq_some_iff] at h ⊢
        obtain ⟨e, h1, h2⟩ := h
        obtain ⟨i, hi⟩ := iops_lim hcb h2
        exact ⟨i, fun R d hR hd => ⟨e, h1, hi R d hR hd⟩⟩
      | true =>
        simp only [hw] at h ⊢
        cases hy : yArgs o s.y with
        | some ars =>
          simp only [hy] at h ⊢
          cases hst : s.stop with
          | some x => simp [hst] at h
          | none =>
            simp only [hst] at h ⊢
            cases hcbr : cb (evs s.env ars) s.heap with
            | none => simp [hcbr] at h
            | some x =>
              obtain ⟨st, h'⟩ := x
              simp only [hcbr, Option.bind_eq_some_iff] at h
              obtain ⟨e, h1, h2⟩ := h
              obtain ⟨i, hi⟩ := hcb _ _ _ hcbr
              obtain ⟨j, hj⟩ := iops_lim hcb h2
              refine ⟨max i j, fun R d hR hd => ?_⟩
              simp only [hi R d (by omega) (by omega), Option.bind_eq_some_iff]
              exact ⟨e, h1, hj R d (by omega) (by omega)⟩
        | none =>
          simp only [hy] at h ⊢
          cases hrun : (aop (LX T fns) s.heap.length s.env o).run s.heap [] with
          | none => simp [hrun] at h
          | some x =>
            obtain ⟨⟨v, u⟩, l⟩ := x
            simp only [hrun, Option.bind_eq_some_iff] at h
            obtain ⟨e, h1, h2⟩ := h
            obtain ⟨i, hi⟩ := aop_lim T fns hrun
            obtain ⟨j, hj⟩ := iops_lim hcb h2
            refine ⟨max i j, fun R d hR hd => ?_⟩
            simp only [hi R d (by omega) (by omega), Option.bind_eq_some_iff]
            exact ⟨e, h1, hj R d (by omega) (by omega)⟩

theorem icode_lim {cb : CB} {cbs : Nat → Nat → CB} (hcb : ∀ args h x, cb args h = some x → ∃ i, ∀ R d, i ≤ R → i ≤ d → cbs R d args h = some x) {ntmps keep : Nat} {gcs : List AGc} {R0 : Nat} : ∀ {c : Code} {id : Option Nat} {s : ISt} {r : Ex × ISt}, icode (LX T fns) ntmps keep R0 gcs cb c id s = some r → ∃ i, ∀ R d, i ≤ R → i ≤ d → icode (AX T fns R d) ntmps keep R gcs (cbs R d) c id s = some r
  | .skip, id, s, r, h => ⟨0, fun R d _ _ => h⟩
  | .region rid ops draw, id, s, r, h => by
    simp only [icode] at h ⊢
    cases draw with
    | false =>
      simp only [Bool.false_eq_true, if_false, Option.map_eq_some_iff] at h ⊢
      obtain ⟨s1, h1, h2⟩ := h
      obtain ⟨i, hi⟩ := iops_lim T fns hcb h1
      exact ⟨i, fun R d hR hd => ⟨s1, hi R d hR hd, h2⟩⟩
    | true =>
      simp only [if_true] at h ⊢
      split at h
      · rename_i hall
        simp only [if_pos hall]
        simp only [Option.map_eq_some_iff] at h ⊢
        obtain ⟨s1, h1, h2⟩ := h
        obtain ⟨i, hi⟩ := draw_lim T fns h1
        exact ⟨i, fun R d hR hd => ⟨s1, hi R d hR hd, h2⟩⟩
      · cases h
  | .seq x y, id, s, r, h => by
    simp only [icode, Option.bind_eq_some_iff] at h ⊢
    obtain ⟨⟨ex, s1⟩, h1, h2⟩ := h
    obtain ⟨i, hi⟩ := icode_lim hcb h1
    cases ex with
    | normal =>
      obtain ⟨j, hj⟩ := icode_lim hcb h2
      exact ⟨max i j, fun R d hR hd => ⟨_, hi R d (by omega) (by omega), hj R d (by omega) (by omega)⟩⟩
    | exit k => exact ⟨i, fun R d hR hd => ⟨_, hi R d hR hd, h2⟩⟩
    | ret => exact ⟨i, fun R d hR hd => ⟨_, hi R d hR hd, h2⟩⟩
  | .cond c x y, id, s, r, h => by
    simp only [icode] at h ⊢
    split at h
    · exact icode_lim hcb h
    · exact icode_lim hcb h
    · cases h
  | .block b c, id, s, r, h => by
    simp only [icode, Option.map_eq_some_iff] at h ⊢
    obtain ⟨r1, h1, h2⟩ := h
    obtain ⟨i, hi⟩ := icode_lim hcb h1
    exact ⟨i, fun R d hR hd => ⟨r1, hi R d hR hd, h2⟩⟩
  | .loop c, id, s, r, h => by
    simp only [icode] at h ⊢
    have key : ∀ (n : Nat) (s : ISt), iRounds (fun s => (head keep (gcOf gcs id) { env := s.env, heap := s.heap }).bind fun t => icode (LX T fns) ntmps keep R0 gcs cb c none { env := t.env, heap := t.heap, y := yHead (gcOf gcs id) s.y, stop := s.stop }) n s = some r →
        ∃ i, ∀ R d m, i ≤ R → i ≤ d → n ≤ m → iRounds (fun s => (head keep (gcOf gcs id) { env := s.env, heap := s.heap }).bind fun t => icode (AX T fns R d) ntmps keep R gcs (cbs R d) c none { env := t.env, heap := t.heap, y := yHead (gcOf gcs id) s.y, stop := s.stop }) m s = some r := by
      intro n
      induction n with
      | zero => intro s h; simp [iRounds] at h
      | succ n ih =>
        intro s h
        unfold iRounds at h
        cases hb : (head keep (gcOf gcs id) { env := s.env, heap := s.heap }).bind fun t => icode (LX T fns) ntmps keep R0 gcs cb c none { env := t.env, heap := t.heap, y := yHead (gcOf gcs id) s.y, stop := s.stop } with
        | none => simp [hb] at h
        | some r1 =>
          simp only [hb] at h
          rw [Option.bind_eq_some_iff] at hb
          obtain ⟨s0, h1, h2⟩ := hb
          obtain ⟨i, hi⟩ := icode_lim hcb h2
          have hb2 : ∀ R d, i ≤ R → i ≤ d → ((head keep (gcOf gcs id) { env := s.env, heap := s.heap }).bind fun t => icode (AX T fns R d) ntmps keep R gcs (cbs R d) c none { env := t.env, heap := t.heap, y := yHead (gcOf gcs id) s.y, stop := s.stop }) = some r1 := fun R d hR hd => by
            rw [Option.bind_eq_some_iff]
            exact ⟨s0, h1, hi R d hR hd⟩
          obtain ⟨ex, s1⟩ := r1
          cases ex with
          | normal =>
            obtain ⟨j, hj⟩ := ih s1 h
            refine ⟨max i j, fun R d m hR hd hm => ?_⟩
            obtain ⟨m, rfl⟩ : ∃ m', m = m' + 1 := ⟨m - 1, by omega⟩
            unfold iRounds
            simp only [hb2 R d (by omega) (by omega)]
            exact hj R d m (by omega) (by omega) (by omega)
          | exit k =>
            refine ⟨i, fun R d m hR hd hm => ?_⟩
            obtain ⟨m, rfl⟩ : ∃ m', m = m' + 1 := ⟨m - 1, by omega⟩
            unfold iRounds
            simp only [hb2 R d (by omega) (by omega)]
            exact h
          | ret =>
            refine ⟨i, fun R d m hR hd hm => ?_⟩
            obtain ⟨m, rfl⟩ : ∃ m', m = m' + 1 := ⟨m - 1, by omega⟩
            unfold iRounds
            simp only [hb2 R d (by omega) (by omega)]
            exact h
    obtain ⟨i, hi⟩ := key R0 s h
    exact ⟨max i R0, fun R d hR hd => hi R d R (by omega) (by omega) (by omega)⟩
  | .exit i, id, s, r, h => ⟨0, fun R d _ _ => h⟩
  | .ret, id, s, r, h => ⟨0, fun R d _ _ => h⟩
  | .rangeFunc .., id, s, r, h | .scope .., id, s, r, h | .label .., id, s, r, h | .goto .., id, s, r, h | .refuse .., id, s, r, h => by simp [icode] at h

theorem code_lim {ntmps : Nat} {gcs : List AGc} {R0 : Nat} : ∀ {c : Code} {keep : Nat} {id : Option Nat} {s : St} {r : Ex × St}, acode (LX T fns) ntmps keep R0 gcs c id s = some r → ∃ i, ∀ R d, i ≤ R → i ≤ d → acode (AX T fns R d) ntmps keep R gcs c id s = some r
  | .skip, keep, id, s, r, h => ⟨0, fun R d _ _ => h⟩
  | .region rid ops draw, keep, id, s, r, h => by
    simp only [acode, aregion, Option.map_eq_some_iff] at h ⊢
    obtain ⟨s1, h1, h2⟩ := h
    cases draw with
    | false =>
      simp only [Bool.false_eq_true, if_false] at h1 ⊢
      obtain ⟨i, hi⟩ := ops_lim T fns h1
      exact ⟨i, fun R d hR hd => ⟨s1, hi R d hR hd, h2⟩⟩
    | true =>
      simp only [if_true] at h1 ⊢
      obtain ⟨i, hi⟩ := draw_lim T fns h1
      exact ⟨i, fun R d hR hd => ⟨s1, hi R d hR hd, h2⟩⟩
  | .seq x y, keep, id, s, r, h => by
    simp only [acode, Option.bind_eq_some_iff] at h ⊢
    obtain ⟨⟨ex, s1⟩, h1, h2⟩ := h
    obtain ⟨i, hi⟩ := code_lim h1
    cases ex with
    | normal =>
      obtain ⟨j, hj⟩ := code_lim h2
      exact ⟨max i j, fun R d hR hd => ⟨_, hi R d (by omega) (by omega), hj R d (by omega) (by omega)⟩⟩
    | exit k => exact ⟨i, fun R d hR hd => ⟨_, hi R d hR hd, h2⟩⟩
    | ret => exact ⟨i, fun R d hR hd => ⟨_, hi R d hR hd, h2⟩⟩
  | .cond c x y, keep, id, s, r, h => by
    simp only [acode] at h ⊢
    split at h
    · exact code_lim h
    · exact code_lim h
    · cases h
  | .block b c, keep, id, s, r, h => by
    simp only [acode, Option.map_eq_some_iff] at h ⊢
    obtain ⟨r1, h1, h2⟩ := h
    obtain ⟨i, hi⟩ := code_lim h1
    exact ⟨i, fun R d hR hd => ⟨r1, hi R d hR hd, h2⟩⟩
  | .loop c, keep, id, s, r, h => by
    simp only [acode] at h ⊢
    have key : ∀ (n : Nat) (s : St), rounds (fun s => (head keep (gcOf gcs id) s).bind fun s => acode (LX T fns) ntmps keep R0 gcs c none s) n s = some r →
        ∃ i, ∀ R d m, i ≤ R → i ≤ d → n ≤ m → rounds (fun s => (head keep (gcOf gcs id) s).bind fun s => acode (AX T fns R d) ntmps keep R gcs c none s) m s = some r := by
      intro n
      induction n with
      | zero => intro s h; simp [rounds] at h
      | succ n ih =>
        intro s h
        unfold rounds at h
        cases hb : (head keep (gcOf gcs id) s).bind fun s => acode (LX T fns) ntmps keep R0 gcs c none s with
        | none => simp [hb] at h
        | some r1 =>
          simp only [hb] at h
          rw [Option.bind_eq_some_iff] at hb
          obtain ⟨s0, h1, h2⟩ := hb
          obtain ⟨i, hi⟩ := code_lim h2
          have hb2 : ∀ R d, i ≤ R → i ≤ d → ((head keep (gcOf gcs id) s).bind fun s => acode (AX T fns R d) ntmps keep R gcs c none s) = some r1 := fun R d hR hd => by
            rw [Option.bind_eq_some_iff]
            exact ⟨s0, h1, hi R d hR hd⟩
          obtain ⟨ex, s1⟩ := r1
          cases ex with
          | normal =>
            obtain ⟨j, hj⟩ := ih s1 h
            refine ⟨max i j, fun R d m hR hd hm => ?_⟩
            obtain ⟨m, rfl⟩ : ∃ m', m = m' + 1 := ⟨m - 1, by omega⟩
            unfold rounds
            simp only [hb2 R d (by omega) (by omega)]
            exact hj R d m (by omega) (by omega) (by omega)
          | exit k =>
            refine ⟨i, fun R d m hR hd hm => ?_⟩
            obtain ⟨m, rfl⟩ : ∃ m', m = m' + 1 := ⟨m - 1, by omega⟩
            unfold rounds
            simp only [hb2 R d (by omega) (by omega)]
            exact h
          | ret =>
            refine ⟨i, fun R d m hR hd hm => ?_⟩
            obtain ⟨m, rfl⟩ : ∃ m', m = m' + 1 := ⟨m - 1, by omega⟩
            unfold rounds
            simp only [hb2 R d (by omega) (by omega)]
            exact h
    obtain ⟨i, hi⟩ := key R0 s h
    exact ⟨max i R0, fun R d hR hd => hi R d R (by omega) (by omega) (by omega)⟩
  | .exit i, keep, id, s, r, h => ⟨0, fun R d _ _ => h⟩
  | .ret, keep, id, s, r, h => ⟨0, fun R d _ _ => h⟩
  | .rangeFunc g ps assign body, keep, id, s, r, h => by
    simp only [acode] at h ⊢
    cases hev : ev s.env g with
    | clo gf caps =>
      simp only [hev] at h ⊢
      cases hf : fns gf with
      | none => simp [hf] at h
      | some fn =>
        simp only [hf] at h ⊢
        split at h
        · cases h
        · rename_i hno
          simp only [if_neg hno]
          rw [Option.bind_eq_some_iff] at h
          obtain ⟨x, h1, h2⟩ := h
          obtain ⟨i, hi⟩ := icode_lim T fns (cbs := fun R d => roundOf ntmps ps.toList s.env (fun k s1 => acode (AX T fns R d) ntmps k R gcs assign none s1) (fun k s1 => acode (AX T fns R d) ntmps k R gcs body none s1)) (fun args h0 y hy => by
            unfold roundOf at hy ⊢
            split at hy
            · rename_i hl
              simp only [if_pos hl]
              cases ha : acode (LX T fns) ntmps h0.length R0 gcs assign none { env := bindPs ps.toList args s.env, heap := h0 } with
              | none => simp [ha] at hy
              | some z =>
                obtain ⟨ex, s1⟩ := z
                obtain ⟨i, hi⟩ := code_lim ha
                cases ex with
                | normal =>
                  simp only [ha, Option.map_eq_some_iff] at hy
                  obtain ⟨z, hz1, hz2⟩ := hy
                  obtain ⟨j, hj⟩ := code_lim hz1
                  refine ⟨max i j, fun R d hR hd => ?_⟩
                  simp only [hi R d (by omega) (by omega), Option.map_eq_some_iff]
                  exact ⟨z, hj R d (by omega) (by omega), hz2⟩
                | exit k => simp [ha] at hy
                | ret => simp [ha] at hy
            · cases hy) h1
          exact ⟨i, fun R d hR hd => by
            rw [Option.bind_eq_some_iff]
            exact ⟨x, hi R d hR hd, h2⟩⟩
    | _ => simp [hev] at h
  | .scope .., keep, id, s, r, h | .label .., keep, id, s, r, h | .goto .., keep, id, s, r, h | .refuse .., keep, id, s, r, h => by simp [acode] at h

/-- A function's answer out of its body's run. -/
theorem lim_run {g : FuncId} {fn : AFn} (hfn : fns g = some fn) (hi : fn.intr = none) {R0 : Nat} {args : List V} {hs : List Ob} {r : V × Heap} (h : runFn (LX T fns) fn R0 args hs = some r) : lim T fns g args hs = some r := by
  refine lim_of T fns ?_
  unfold runFn at h
  split at h
  · cases h
  · rename_i hl
    rw [Option.bind_eq_some_iff] at h
    obtain ⟨x, h1, h2⟩ := h
    obtain ⟨i, hi'⟩ := code_lim T fns h1
    refine ⟨i + 1, fun R d hR hd => ?_⟩
    obtain ⟨d, rfl⟩ : ∃ d', d = d' + 1 := ⟨d - 1, by omega⟩
    simp only [acall, hfn, hi]
    unfold runFn
    rw [if_neg hl, Option.bind_eq_some_iff]
    exact ⟨x, hi' R d (by omega) (by omega), h2⟩

theorem lim_clone {g : FuncId} {fn : AFn} (hfn : fns g = some fn) {st bytes : Nat} (hi : fn.intr = some (cloneFn st bytes)) {args : List V} {hs : List Ob} {r : V × Heap} (h : cloneFn st bytes args hs = some r) : lim T fns g args hs = some r := by
  refine lim_of T fns ⟨1, fun R d hR hd => ?_⟩
  obtain ⟨d, rfl⟩ : ∃ d', d = d' + 1 := ⟨d - 1, by omega⟩
  simp only [acall, hfn, hi]
  exact h

/-- A function that is not gone through. -/
theorem lim_intr {g : FuncId} {fn : AFn} (hfn : fns g = some fn) {G : Fun} (hi : fn.intr = some G) {args : List V} {hs : List Ob} {r : V × Heap} (h : G args hs = some r) : lim T fns g args hs = some r := by
  refine lim_of T fns ⟨1, fun R d hR hd => ?_⟩
  obtain ⟨d, rfl⟩ : ∃ d', d = d' + 1 := ⟨d - 1, by omega⟩
  simp only [acall, hfn, hi]
  exact h

theorem lim_ok {P : Program} (h : ∀ R d g, FunOK P g (acall T fns R d g)) (g : FuncId) : FunOK P g (lim T fns g) := fun args hs r hp heq => by
  obtain ⟨i, hi⟩ := lim_evt T fns heq
  exact h i i g args hs r hp (hi i i (Nat.le_refl _) (Nat.le_refl _))
end

end Go.Proofs.YtoggbcckkjfkhaaGreat.R
/- More calls answered, more rounds: nothing that was answered is answered otherwise. -/
namespace Go.Proofs.YtoggbcckkjfkhaaGreat.R
set_option linter.unusedVariables false
set_option linter.unusedSimpArgs false
open Go

theorem rounds_mono {b b' : St → Option (Ex × St)} (hb : ∀ s r, b s = some r → b' s = some r) : ∀ {n m : Nat} {s : St} {r : Ex × St}, n ≤ m → rounds b n s = some r → rounds b' m s = some r
  | 0, m, s, r, _, h => by simp [rounds] at h
  | n + 1, m, s, r, hm, h => by
    obtain ⟨m, rfl⟩ : ∃ m', m = m' + 1 := ⟨m - 1, by omega⟩
    unfold rounds at h ⊢
    cases h1 : b s with
    | none => simp [h1] at h
    | some x =>
      simp only [h1] at h
      simp only [hb s x h1]
      obtain ⟨ex, s1⟩ := x
      cases ex with
      | normal => exact rounds_mono hb (by omega) h
      | exit i => exact h
      | ret => exact h

theorem iRounds_mono {b b' : ISt → Option (Ex × ISt)} (hb : ∀ s r, b s = some r → b' s = some r) : ∀ {n m : Nat} {s : ISt} {r : Ex × ISt}, n ≤ m → iRounds b n s = some r → iRounds b' m s = some r
  | 0, m, s, r, _, h => by simp [iRounds] at h
  | n + 1, m, s, r, hm, h => by
    obtain ⟨m, rfl⟩ : ∃ m', m = m' + 1 := ⟨m - 1, by omega⟩
    unfold iRounds at h ⊢
    cases h1 : b s with
    | none => simp [h1] at h
    | some x =>
      simp only [h1] at h
      simp only [hb s x h1]
      obtain ⟨ex, s1⟩ := x
      cases ex with
      | normal => exact iRounds_mono hb (by omega) h
      | exit i => exact h
      | ret => exact h

section
variable (T : TT) (fns : FuncId → Option AFn) {c c' : FuncId → Fun} (hc : ∀ g a h r, c g a h = some r → c' g a h = some r)
include hc

theorem aop_imp {H : Heap} {n : Nat} {e : Env} {o : Oper} {l : List Nat} {r : (V × Upd) × List Nat} (h : (aop { T, fns, call := c } n e o).run H l = some r) : (aop { T, fns, call := c' } n e o).run H l = some r := by
  rcases aop_leaf T fns H n e o l with ⟨x, hx⟩ | ⟨g, a, hs, K, hx⟩
  · rw [hx] at h ⊢
    exact h
  · rw [hx, Option.bind_eq_some_iff] at h
    obtain ⟨p, h1, h2⟩ := h
    rw [hx, hc _ _ _ _ h1]
    exact h2

theorem ops_imp {ntmps : Nat} {ops : Array Oper} : ∀ {rest : List Oper} {s s' : St}, runOps { T, fns, call := c } ntmps ops rest s = some s' → runOps { T, fns, call := c' } ntmps ops rest s = some s'
  | [], s, s', h => h
  | o :: r, s, s', h => by
    simp only [runOps] at h ⊢
    split at h
    · cases h
    · simp only [Option.bind_eq_some_iff] at h ⊢
      obtain ⟨e, h1, h2⟩ := h
      exact ⟨e, h1, ops_imp h2⟩
    · split at h
      · cases h
      · rename_i v u l hrun
        simp only [Option.bind_eq_some_iff] at h
        obtain ⟨e, h1, h2⟩ := h
        rw [aop_imp T fns hc hrun]
        simp only [Option.bind_eq_some_iff]
        exact ⟨e, h1, ops_imp h2⟩

theorem draw_imp {ntmps : Nat} {ops : Array Oper} {bef : Array Nat} : ∀ {rest : List Oper} {j : Nat} {s s' : St} {done : List Did}, runDraw { T, fns, call := c } ntmps ops bef rest j s done = some s' → runDraw { T, fns, call := c' } ntmps ops bef rest j s done = some s'
  | [], j, s, s', done, h => h
  | o :: r, j, s, s', done, h => by
    simp only [runDraw] at h ⊢
    split at h
    · cases h
    · simp only [Option.bind_eq_some_iff] at h ⊢
      obtain ⟨e, h1, h2⟩ := h
      exact ⟨e, h1, draw_imp h2⟩
    · split at h
      · cases h
      · rename_i v u l hrun
        split at h
        · rename_i hap
          simp only [Option.bind_eq_some_iff] at h
          obtain ⟨e, h1, h2⟩ := h
          rw [aop_imp T fns hc hrun]
          simp only [if_pos hap, Option.bind_eq_some_iff]
          exact ⟨e, h1, draw_imp h2⟩
        · cases h

theorem iops_le {cb cb' : CB} (hcb : ∀ args h x, cb args h = some x → cb' args h = some x) {nt : Nat} {ops : Array Oper} : ∀ {rest : List Oper} {s s' : ISt}, iOps { T, fns, call := c } nt cb ops rest s = some s' → iOps { T, fns, call := c' } nt cb' ops rest s = some s'
  | [], s, s', h => h
  | o :: r, s, s', h => by
    simp only [iOps] at h ⊢
    cases hw : wants ops s.env o with
    | none => simp [hw] at h
    | some b =>
      cases b with
      | false =>
        simp only [hw, Option.bind_eq_some_iff] at h ⊢
        obtain ⟨e, h1, h2⟩ := h
        exact ⟨e, h1, iops_le hcb h2⟩
      | true =>
        simp only [hw] at h ⊢
        cases hy : yArgs o s.y with
        | some ars =>
          simp only [hy] at h ⊢
          cases hst : s.stop with
          | some x => simp [hst] at h
          | none =>
            simp only [hst] at h ⊢
            cases hcbr : cb (evs s.env ars) s.heap with
            | none => simp [hcbr] at h
            | some x =>
              obtain ⟨st, h'⟩ := x
              simp only [hcbr, hcb _ _ _ hcbr, Option.bind_eq_some_iff] at h ⊢
              obtain ⟨e, h1, h2⟩ := h
              exact ⟨e, h1, iops_le hcb h2⟩
        | none =>
          simp only [hy] at h ⊢
          cases hrun : (aop { T, fns, call := c } s.heap.length s.env o).run s.heap [] with
          | none => simp [hrun] at h
          | some x =>
            obtain ⟨⟨v, u⟩, l⟩ := x
            simp only [hrun, aop_imp T fns hc hrun, Option.bind_eq_some_iff] at h ⊢
            obtain ⟨e, h1, h2⟩ := h
            exact ⟨e, h1, iops_le hcb h2⟩

theorem icode_le {cb cb' : CB} (hcb : ∀ args h x, cb args h = some x → cb' args h = some x) {nt keep : Nat} {gcs : List AGc} {R R' : Nat} (hR : R ≤ R') : ∀ {k : Code} {id : Option Nat} {s : ISt} {r : Ex × ISt}, icode { T, fns, call := c } nt keep R gcs cb k id s = some r → icode { T, fns, call := c' } nt keep R' gcs cb' k id s = some r
  | .skip, id, s, r, h => h
  | .region rid ops draw, id, s, r, h => by
    simp only [icode] at h ⊢
    cases draw with
    | false =>
      simp only [Bool.false_eq_true, if_false, Option.map_eq_some_iff] at h ⊢
      obtain ⟨s1, h1, h2⟩ := h
      exact ⟨s1, iops_le T fns hc hcb h1, h2⟩
    | true =>
      simp only [if_true] at h ⊢
      split at h
      · rename_i hall
        rw [if_pos hall]
        simp only [Option.map_eq_some_iff] at h ⊢
        obtain ⟨s1, h1, h2⟩ := h
        exact ⟨s1, draw_imp T fns hc h1, h2⟩
      · cases h
  | .seq x y, id, s, r, h => by
    simp only [icode, Option.bind_eq_some_iff] at h ⊢
    obtain ⟨⟨ex, s1⟩, h1, h2⟩ := h
    cases ex with
    | normal => exact ⟨_, icode_le hcb hR h1, icode_le hcb hR h2⟩
    | exit k => exact ⟨_, icode_le hcb hR h1, h2⟩
    | ret => exact ⟨_, icode_le hcb hR h1, h2⟩
  | .cond x a b, id, s, r, h => by
    simp only [icode] at h ⊢
    split at h
    · exact icode_le hcb hR h
    · exact icode_le hcb hR h
    · cases h
  | .block b x, id, s, r, h => by
    simp only [icode, Option.map_eq_some_iff] at h ⊢
    obtain ⟨r1, h1, h2⟩ := h
    exact ⟨r1, icode_le hcb hR h1, h2⟩
  | .loop x, id, s, r, h => by
    simp only [icode] at h ⊢
    refine iRounds_mono (fun s r hb => ?_) hR h
    rw [Option.bind_eq_some_iff] at hb ⊢
    obtain ⟨s0, h1, h2⟩ := hb
    exact ⟨s0, h1, icode_le hcb hR h2⟩
  | .exit i, id, s, r, h => h
  | .ret, id, s, r, h => h
  | .rangeFunc .., id, s, r, h | .scope .., id, s, r, h | .label .., id, s, r, h | .goto .., id, s, r, h | .refuse .., id, s, r, h => by simp [icode] at h

theorem acode_le {nt : Nat} {gcs : List AGc} {R R' : Nat} (hR : R ≤ R') : ∀ {k : Code} {keep : Nat} {id : Option Nat} {s : St} {r : Ex × St}, acode { T, fns, call := c } nt keep R gcs k id s = some r → acode { T, fns, call := c' } nt keep R' gcs k id s = some r
  | .skip, keep, id, s, r, h => h
  | .region rid ops draw, keep, id, s, r, h => by
    simp only [acode, aregion, Option.map_eq_some_iff] at h ⊢
    obtain ⟨s1, h1, h2⟩ := h
    cases draw with
    | false =>
      simp only [Bool.false_eq_true, if_false] at h1 ⊢
      exact ⟨s1, ops_imp T fns hc h1, h2⟩
    | true =>
      simp only [if_true] at h1 ⊢
      exact ⟨s1, draw_imp T fns hc h1, h2⟩
  | .seq x y, keep, id, s, r, h => by
    simp only [acode, Option.bind_eq_some_iff] at h ⊢
    obtain ⟨⟨ex, s1⟩, h1, h2⟩ := h
    cases ex with
    | normal => exact ⟨_, acode_le hR h1, acode_le hR h2⟩
    | exit k => exact ⟨_, acode_le hR h1, h2⟩
    | ret => exact ⟨_, acode_le hR h1, h2⟩
  | .cond x a b, keep, id, s, r, h => by
    simp only [acode] at h ⊢
    split at h
    · exact acode_le hR h
    · exact acode_le hR h
    · cases h
  | .block b x, keep, id, s, r, h => by
    simp only [acode, Option.map_eq_some_iff] at h ⊢
    obtain ⟨r1, h1, h2⟩ := h
    exact ⟨r1, acode_le hR h1, h2⟩
  | .loop x, keep, id, s, r, h => by
    simp only [acode] at h ⊢
    refine rounds_mono (fun s r hb => ?_) hR h
    rw [Option.bind_eq_some_iff] at hb ⊢
    obtain ⟨s0, h1, h2⟩ := hb
    exact ⟨s0, h1, acode_le hR h2⟩
  | .exit i, keep, id, s, r, h => h
  | .ret, keep, id, s, r, h => h
  | .rangeFunc g ps assign body, keep, id, s, r, h => by
    simp only [acode] at h ⊢
    cases hev : ev s.env g with
    | clo gf caps =>
      simp only [hev] at h ⊢
      cases hf : fns gf with
      | none => simp [hf] at h
      | some fn =>
        simp only [hf] at h ⊢
        split at h
        · cases h
        · rename_i hno
          rw [if_neg hno]
          rw [Option.bind_eq_some_iff] at h ⊢
          obtain ⟨x, h1, h2⟩ := h
          refine ⟨x, icode_le T fns hc (fun args h0 y hy => ?_) hR h1, h2⟩
          unfold roundOf at hy ⊢
          split at hy
          · rename_i hl
            rw [if_pos hl]
            cases ha : acode { T, fns, call := c } nt h0.length R gcs assign none { env := bindPs ps.toList args s.env, heap := h0 } with
            | none => simp [ha] at hy
            | some z =>
              obtain ⟨ex, s1⟩ := z
              simp only [ha, acode_le hR ha] at hy ⊢
              cases ex with
              | normal =>
                simp only [Option.map_eq_some_iff] at hy ⊢
                obtain ⟨z, hz1, hz2⟩ := hy
                exact ⟨z, acode_le hR hz1, hz2⟩
              | exit k => cases hy
              | ret => cases hy
          · cases hy
    | _ => simp [hev] at h
  | .scope .., keep, id, s, r, h | .label .., keep, id, s, r, h | .goto .., keep, id, s, r, h | .refuse .., keep, id, s, r, h => by simp [acode] at h
end

theorem acode_mono {cx : Cx} {nt keep R R' : Nat} {gcs : List AGc} (hR : R ≤ R') {c : Code} {id : Option Nat} {s : St} {r : Ex × St} (h : acode cx nt keep R gcs c id s = some r) : acode cx nt keep R' gcs c id s = some r :=
  acode_le cx.T cx.fns (c := cx.call) (fun _ _ _ _ h => h) hR h
end Go.Proofs.YtoggbcckkjfkhaaGreat.R
/- Stepping: what is to be shown of a run, from its beginning to its end. -/
namespace Go.Proofs.YtoggbcckkjfkhaaGreat.R
set_option linter.unusedVariables false
set_option linter.unusedSimpArgs false
open Go

/-- How a function is run: slots, objects that came in, what stays at loops' heads. -/
structure Fr where
  nt : Nat
  keep : Nat
  gcs : List AGc

abbrev Aft := Ex → St → Prop

/-- Code, run from 's' on, ends as 'Q' says. -/
def W (cx : Cx) (fr : Fr) (c : Code) (id : Option Nat) (s : St) (Q : Aft) : Prop := ∃ R ex s', acode cx fr.nt fr.keep R fr.gcs c id s = some (ex, s') ∧ Q ex s'
/-- And then other code. -/
def SQ (cx : Cx) (fr : Fr) (b : Code) (Q : Aft) : Aft := fun ex s => match ex with
  | .normal => W cx fr b none s Q
  | ex => Q ex s
/-- Out of a block. -/
def BQ (i : Nat) (Q : Aft) : Aft := fun ex s => match ex with
  | .exit j => if j = i then Q .normal s else Q (.exit j) s
  | ex => Q ex s
def WC (cx : Cx) (fr : Fr) (v : V) (a b : Code) (s : St) (Q : Aft) : Prop := match v with
  | .bool x => if x = true then W cx fr a none s Q else W cx fr b none s Q
  | _ => False
/-- Operations, in the text's order. -/
def WO (cx : Cx) (nt : Nat) (ops : Array Oper) (rest : List Oper) (s : St) (Q : Aft) : Prop := ∃ s', runOps cx nt ops rest s = some s' ∧ Q .normal s'
/-- One operation's answer. -/
def WA (cx : Cx) (nt : Nat) (ops : Array Oper) (x : Option ((V × Upd) × List Nat)) (d : Option Tmp) (rest : List Oper) (e : Env) (h : Heap) (Q : Aft) : Prop := match x with
  | none => False
  | some ((v, u), _) => match d with
    | none => WO cx nt ops rest ⟨e, h.puts u⟩ Q
    | some d => d < nt ∧ WO cx nt ops rest ⟨(d, v) :: e, h.puts u⟩ Q
def WG (cx : Cx) (nt : Nat) (ops : Array Oper) (w : Option Bool) (o : Oper) (rest : List Oper) (s : St) (Q : Aft) : Prop := match w with
  | none => False
  | some true => WA cx nt ops ((aop cx s.heap.length s.env o).run s.heap []) o.dst rest s.env s.heap Q
  | some false => match o.dst with
    | none => WO cx nt ops rest s Q
    | some d => d < nt ∧ WO cx nt ops rest ⟨(d, .tup []) :: s.env, s.heap⟩ Q
/-- Operations in an order that is drawn. -/
def WD (cx : Cx) (nt : Nat) (ops : Array Oper) (bef : Array Nat) (rest : List Oper) (j : Nat) (s : St) (done : List Did) (Q : Aft) : Prop := ∃ s', runDraw cx nt ops bef rest j s done = some s' ∧ Q .normal s'

section
variable {cx : Cx} {fr : Fr} {nt : Nat} {ops : Array Oper} {a b c : Code} {id : Option Nat} {s : St} {Q : Aft}

theorem W_skip : W cx fr .skip id s Q ↔ Q .normal s := ⟨fun ⟨R, ex, s', h, q⟩ => by cases h; exact q, fun q => ⟨0, _, _, rfl, q⟩⟩
theorem W_exit {i : Nat} : W cx fr (.exit i) id s Q ↔ Q (.exit i) s := ⟨fun ⟨R, ex, s', h, q⟩ => by cases h; exact q, fun q => ⟨0, _, _, rfl, q⟩⟩
theorem W_ret : W cx fr .ret id s Q ↔ Q .ret s := ⟨fun ⟨R, ex, s', h, q⟩ => by cases h; exact q, fun q => ⟨0, _, _, rfl, q⟩⟩

theorem W_seq : W cx fr (.seq a b) id s Q ↔ W cx fr a none s (SQ cx fr b Q) := by
  constructor
  · rintro ⟨R, ex, s', h, q⟩
    simp only [acode, Option.bind_eq_some_iff] at h
    obtain ⟨⟨ex1, s1⟩, h1, h2⟩ := h
    refine ⟨R, ex1, s1, h1, ?_⟩
    cases ex1 with
    | normal => exact ⟨R, ex, s', h2, q⟩
    | exit k => cases h2; exact q
    | ret => cases h2; exact q
  · rintro ⟨R, ex, s', h, q⟩
    cases ex with
    | normal =>
      obtain ⟨R2, ex2, s2, h2, q2⟩ := q
      refine ⟨max R R2, ex2, s2, ?_, q2⟩
      simp only [acode, Option.bind_eq_some_iff]
      exact ⟨_, acode_mono (Nat.le_max_left _ _) h, acode_mono (Nat.le_max_right _ _) h2⟩
    | exit k => exact ⟨R, _, _, by simp only [acode, h]; rfl, q⟩
    | ret => exact ⟨R, _, _, by simp only [acode, h]; rfl, q⟩
theorem SQ_normal : SQ cx fr b Q .normal s ↔ W cx fr b none s Q := Iff.rfl
theorem SQ_exit {i : Nat} : SQ cx fr b Q (.exit i) s ↔ Q (.exit i) s := Iff.rfl
theorem SQ_ret : SQ cx fr b Q .ret s ↔ Q .ret s := Iff.rfl

theorem W_block {i : Nat} : W cx fr (.block i c) id s Q ↔ W cx fr c (some i) s (BQ i Q) := by
  constructor
  · rintro ⟨R, ex, s', h, q⟩
    simp only [acode, Option.map_eq_some_iff] at h
    obtain ⟨⟨ex1, s1⟩, h1, h2⟩ := h
    refine ⟨R, ex1, s1, h1, ?_⟩
    cases ex1 with
    | normal => cases h2; exact q
    | exit k =>
      simp only at h2
      show if k = i then _ else _
      split
      · rename_i e; rw [if_pos e] at h2; cases h2; exact q
      · rename_i e; rw [if_neg e] at h2; cases h2; exact q
    | ret => cases h2; exact q
  · rintro ⟨R, ex, s', h, q⟩
    cases ex with
    | normal => exact ⟨R, _, _, by simp only [acode, h]; rfl, q⟩
    | exit k =>
      by_cases e : k = i
      · have q' : Q .normal s' := by
          have : (if k = i then Q .normal s' else Q (.exit k) s') := q
          rwa [if_pos e] at this
        exact ⟨R, .normal, s', by simp only [acode, h, Option.map_some, if_pos e], q'⟩
      · have q' : Q (.exit k) s' := by
          have : (if k = i then Q .normal s' else Q (.exit k) s') := q
          rwa [if_neg e] at this
        exact ⟨R, .exit k, s', by simp only [acode, h, Option.map_some, if_neg e], q'⟩
    | ret => exact ⟨R, _, _, by simp only [acode, h]; rfl, q⟩
theorem BQ_normal {i : Nat} : BQ i Q .normal s ↔ Q .normal s := Iff.rfl
theorem BQ_exit {i j : Nat} : BQ i Q (.exit j) s ↔ if j = i then Q .normal s else Q (.exit j) s := Iff.rfl
theorem BQ_ret {i : Nat} : BQ i Q .ret s ↔ Q .ret s := Iff.rfl

theorem W_cond {x : Operand} : W cx fr (.cond x a b) id s Q ↔ WC cx fr (ev s.env x) a b s Q := by
  unfold W WC
  simp only [acode]
  generalize ev s.env x = v
  cases v with
  | bool y =>
    cases y with
    | true => rfl
    | false => simp [W]
  | _ => simp
theorem WC_bool {x : Bool} : WC cx fr (.bool x) a b s Q ↔ if x = true then W cx fr a none s Q else W cx fr b none s Q := Iff.rfl

theorem W_region {i : Nat} : W cx fr (.region i ops false) id s Q ↔ WO cx fr.nt ops ops.toList s Q := by
  constructor
  · rintro ⟨R, ex, s', h, q⟩
    simp only [acode, aregion, Bool.false_eq_true, if_false, Option.map_eq_some_iff, Prod.mk.injEq] at h
    obtain ⟨s1, h1, rfl, rfl⟩ := h
    exact ⟨s1, h1, q⟩
  · rintro ⟨s', h, q⟩
    exact ⟨0, _, _, by simp only [acode, aregion, Bool.false_eq_true, if_false, h]; rfl, q⟩
theorem W_draw {i : Nat} : W cx fr (.region i ops true) id s Q ↔ WD cx fr.nt ops (Region.before ops) ops.toList 0 s [] Q := by
  constructor
  · rintro ⟨R, ex, s', h, q⟩
    simp only [acode, aregion, if_true, Option.map_eq_some_iff, Prod.mk.injEq] at h
    obtain ⟨s1, h1, rfl, rfl⟩ := h
    exact ⟨s1, h1, q⟩
  · rintro ⟨s', h, q⟩
    exact ⟨0, _, _, by simp only [acode, aregion, if_true, h]; rfl, q⟩

theorem WO_nil : WO cx nt ops [] s Q ↔ Q .normal s := ⟨fun ⟨s', h, q⟩ => by cases h; exact q, fun q => ⟨s, rfl, q⟩⟩
theorem WO_any {o : Oper} {r : List Oper} : WO cx nt ops (o :: r) s Q ↔ WG cx nt ops (wants ops s.env o) o r s Q := by
  unfold WO WG
  simp only [runOps]
  cases hw : wants ops s.env o with
  | none => simp
  | some w =>
    cases w with
    | false =>
      simp only [putDst]
      cases o.dst with
      | none => rfl
      | some d =>
        simp only
        by_cases hd : d < nt
        · simp [hd, WO]
        · simp [hd]
    | true =>
      simp only [WA]
      cases (aop cx s.heap.length s.env o).run s.heap [] with
      | none => simp
      | some x =>
        obtain ⟨⟨v, u⟩, l⟩ := x
        simp only [putDst]
        cases o.dst with
        | none => rfl
        | some d =>
          simp only
          by_cases hd : d < nt
          · simp [hd, WO]
          · simp [hd]

/-- No guard. -/
theorem WO_cons {d : Option Tmp} {op : Op} {t : TypeId} {p : String} {af : Array Edge} {r : List Oper} {e : Env} {h : Heap} : WO cx nt ops ({ dst := d, op, type := t, pos := p, after := af, guard := none } :: r) ⟨e, h⟩ Q ↔
    WA cx nt ops ((aop cx h.length e { dst := d, op, type := t, pos := p, after := af, guard := none }).run h []) d r e h Q := WO_any
theorem WO_guard {d : Option Tmp} {op : Op} {t : TypeId} {p : String} {af : Array Edge} {j : Nat} {b : Bool} {r : List Oper} {e : Env} {h : Heap} : WO cx nt ops ({ dst := d, op, type := t, pos := p, after := af, guard := some (j, b) } :: r) ⟨e, h⟩ Q ↔
    WG cx nt ops (if skipped ops e j then some false else (yields ops e j).map (· == b)) { dst := d, op, type := t, pos := p, after := af, guard := some (j, b) } r ⟨e, h⟩ Q := WO_any
theorem WG_true {o : Oper} {r : List Oper} {e : Env} {h : Heap} : WG cx nt ops (some true) o r ⟨e, h⟩ Q ↔ WA cx nt ops ((aop cx h.length e o).run h []) o.dst r e h Q := Iff.rfl
theorem WG_false {op : Op} {d t : Nat} {p : String} {af : Array Edge} {g : Option (Nat × Bool)} {r : List Oper} {e : Env} {h : Heap} : WG cx nt ops (some false) { dst := some d, op, type := t, pos := p, after := af, guard := g } r ⟨e, h⟩ Q ↔ d < nt ∧ WO cx nt ops r ⟨(d, .tup []) :: e, h⟩ Q := Iff.rfl
theorem WG_ite {o : Oper} {r : List Oper} {p : Prop} [Decidable p] {x : Bool} : WG cx nt ops (some (decide p == x)) o r s Q ↔ if (decide p == x) = true then WG cx nt ops (some true) o r s Q else WG cx nt ops (some false) o r s Q := by
  cases h : (decide p == x) <;> simp
theorem WA_some {v : V} {u : Upd} {l : List Nat} {d : Nat} {r : List Oper} {e : Env} {h : Heap} : WA cx nt ops (some ((v, u), l)) (some d) r e h Q ↔ d < nt ∧ WO cx nt ops r ⟨(d, v) :: e, h.puts u⟩ Q := Iff.rfl
theorem WA_none {v : V} {u : Upd} {l : List Nat} {r : List Oper} {e : Env} {h : Heap} : WA cx nt ops (some ((v, u), l)) none r e h Q ↔ WO cx nt ops r ⟨e, h.puts u⟩ Q := Iff.rfl
theorem WO_move {d : Nat} {x : Operand} {t : TypeId} {p : String} {af : Array Edge} {r : List Oper} {e : Env} {h : Heap} : WO cx nt ops ({ dst := some d, op := .move x, type := t, pos := p, after := af, guard := none } :: r) ⟨e, h⟩ Q ↔ d < nt ∧ WO cx nt ops r ⟨(d, ev e x) :: e, h⟩ Q := WO_any
theorem WO_assign {d : Nat} {x : Operand} {t : TypeId} {p : String} {af : Array Edge} {r : List Oper} {e : Env} {h : Heap} : WO cx nt ops ({ dst := some d, op := .assign x, type := t, pos := p, after := af, guard := none } :: r) ⟨e, h⟩ Q ↔ d < nt ∧ WO cx nt ops r ⟨(d, ev e x) :: e, h⟩ Q := WO_any

/-- What was done so far, none of which turned an object. -/
structure QD where
  l : List Did
  q : ∀ c ∈ l, c.upd = []
def QD.nil : QD := ⟨[], by simp⟩
def QD.snoc (d : QD) (w : Bool) (v : V) (r : List Nat) : QD := ⟨d.l ++ [⟨w, v, [], r⟩], fun c hc => by
  rcases List.mem_append.1 hc with h | h
  · exact d.q c h
  · simp at h; subst h; rfl⟩
def WQ (cx : Cx) (nt : Nat) (ops : Array Oper) (bef : Array Nat) (rest : List Oper) (j : Nat) (s : St) (q : QD) (Q : Aft) : Prop := WD cx nt ops bef rest j s q.l Q
/-- One operation's answer, in an order that is drawn. -/
def QA (cx : Cx) (nt : Nat) (ops : Array Oper) (bef : Array Nat) (x : Option ((V × Upd) × List Nat)) (d : Option Tmp) (rest : List Oper) (j : Nat) (e : Env) (h : Heap) (q : QD) (Q : Aft) : Prop := match x with
  | none => False
  | some ((v, []), l) => (match d with
    | none => WQ cx nt ops bef rest (j + 1) ⟨e, Heap.pad (h.length + 1) h⟩ (q.snoc true v l) Q
    | some d => d < nt ∧ WQ cx nt ops bef rest (j + 1) ⟨(d, v) :: e, Heap.pad (h.length + 1) h⟩ (q.snoc true v l) Q)
  | some ((v, u), l) => apart bef q.l j ⟨true, v, u, l⟩ = true ∧ (match d with
    | none => WD cx nt ops bef rest (j + 1) ⟨e, Heap.pad (h.length + 1) (h.puts u)⟩ (q.l ++ [⟨true, v, u, l⟩]) Q
    | some d => d < nt ∧ WD cx nt ops bef rest (j + 1) ⟨(d, v) :: e, Heap.pad (h.length + 1) (h.puts u)⟩ (q.l ++ [⟨true, v, u, l⟩]) Q)
def QG (cx : Cx) (nt : Nat) (ops : Array Oper) (bef : Array Nat) (w : Option Bool) (o : Oper) (rest : List Oper) (j : Nat) (s : St) (q : QD) (Q : Aft) : Prop := match w with
  | none => False
  | some true => QA cx nt ops bef ((aop cx s.heap.length s.env o).run s.heap []) o.dst rest j s.env s.heap q Q
  | some false => match o.dst with
    | none => WQ cx nt ops bef rest (j + 1) s (q.snoc false (.tup []) []) Q
    | some d => d < nt ∧ WQ cx nt ops bef rest (j + 1) ⟨(d, .tup []) :: s.env, s.heap⟩ (q.snoc false (.tup []) []) Q

theorem W_draw_q {i : Nat} : W cx fr (.region i ops true) id s Q ↔ WQ cx fr.nt ops (Region.before ops) ops.toList 0 s QD.nil Q := W_draw
theorem WQ_nil {bef : Array Nat} {j : Nat} {q : QD} : WQ cx nt ops bef [] j s q Q ↔ Q .normal s := ⟨fun ⟨s', h, q⟩ => by cases h; exact q, fun q => ⟨s, rfl, q⟩⟩
theorem apart_quiet (bef : Array Nat) (q : QD) (j : Nat) (v : V) (l : List Nat) : apart bef q.l j ⟨true, v, [], l⟩ = true := by
  unfold apart
  rw [List.all_eq_true]
  rintro ⟨c, i⟩ hm
  have hc : c ∈ q.l := by
    obtain ⟨k, hk⟩ := List.mem_iff_getElem?.1 hm
    rw [List.getElem?_zipIdx, Option.map_eq_some_iff] at hk
    obtain ⟨c', h1, h2⟩ := hk
    cases h2
    exact List.mem_of_getElem? h1
  simp [clash, Did.touches, q.q c hc]
theorem WQ_any {bef : Array Nat} {o : Oper} {r : List Oper} {j : Nat} {q : QD} : WQ cx nt ops bef (o :: r) j s q Q ↔ QG cx nt ops bef (wants ops s.env o) o r j s q Q := by
  unfold WQ WD QG
  simp only [runDraw]
  cases hw : wants ops s.env o with
  | none => simp
  | some w =>
    cases w with
    | false =>
      simp only [putDst]
      cases o.dst with
      | none => rfl
      | some d =>
        simp only
        by_cases hd : d < nt
        · simp [hd, WQ, WD, QD.snoc]
        · simp [hd]
    | true =>
      simp only [QA]
      cases (aop cx s.heap.length s.env o).run s.heap [] with
      | none => simp
      | some x =>
        obtain ⟨⟨v, u⟩, l⟩ := x
        cases u with
        | nil =>
          simp only [apart_quiet, if_true, putDst, Heap.puts]
          cases o.dst with
          | none => rfl
          | some d =>
            simp only
            by_cases hd : d < nt
            · simp [hd, WQ, WD, QD.snoc]
            · simp [hd]
        | cons p u =>
          simp only
          by_cases ha : apart bef q.l j ⟨true, v, p :: u, l⟩ = true
          · rw [if_pos ha]
            simp only [ha, true_and, putDst]
            cases o.dst with
            | none => rfl
            | some d =>
              simp only
              by_cases hd : d < nt
              · simp [hd, WD]
              · simp [hd]
          · rw [if_neg ha]
            simp [ha]
theorem WQ_cons {bef : Array Nat} {d : Option Tmp} {op : Op} {t : TypeId} {p : String} {af : Array Edge} {r : List Oper} {j : Nat} {e : Env} {h : Heap} {q : QD} : WQ cx nt ops bef ({ dst := d, op, type := t, pos := p, after := af, guard := none } :: r) j ⟨e, h⟩ q Q ↔
    QA cx nt ops bef ((aop cx h.length e { dst := d, op, type := t, pos := p, after := af, guard := none }).run h []) d r j e h q Q := WQ_any
theorem WQ_guard {bef : Array Nat} {d : Option Tmp} {op : Op} {t : TypeId} {p : String} {af : Array Edge} {i : Nat} {b : Bool} {r : List Oper} {j : Nat} {e : Env} {h : Heap} {q : QD} : WQ cx nt ops bef ({ dst := d, op, type := t, pos := p, after := af, guard := some (i, b) } :: r) j ⟨e, h⟩ q Q ↔
    QG cx nt ops bef (if skipped ops e i then some false else (yields ops e i).map (· == b)) { dst := d, op, type := t, pos := p, after := af, guard := some (i, b) } r j ⟨e, h⟩ q Q := WQ_any
theorem QG_true {bef : Array Nat} {o : Oper} {r : List Oper} {j : Nat} {e : Env} {h : Heap} {q : QD} : QG cx nt ops bef (some true) o r j ⟨e, h⟩ q Q ↔ QA cx nt ops bef ((aop cx h.length e o).run h []) o.dst r j e h q Q := Iff.rfl
theorem QG_false {bef : Array Nat} {op : Op} {d t : Nat} {p : String} {af : Array Edge} {g : Option (Nat × Bool)} {r : List Oper} {j : Nat} {e : Env} {h : Heap} {q : QD} : QG cx nt ops bef (some false) { dst := some d, op, type := t, pos := p, after := af, guard := g } r j ⟨e, h⟩ q Q ↔
    d < nt ∧ WQ cx nt ops bef r (j + 1) ⟨(d, .tup []) :: e, h⟩ (q.snoc false (.tup []) []) Q := Iff.rfl
theorem QA_quiet {bef : Array Nat} {v : V} {l : List Nat} {d : Nat} {r : List Oper} {j : Nat} {e : Env} {h : Heap} {q : QD} : QA cx nt ops bef (some ((v, []), l)) (some d) r j e h q Q ↔ d < nt ∧ WQ cx nt ops bef r (j + 1) ⟨(d, v) :: e, Heap.pad (h.length + 1) h⟩ (q.snoc true v l) Q := Iff.rfl

/-- A loop: what stands at its head, and that each round leads on or out. -/
def LP (fr : Fr) (id : Option Nat) {ι : Type} (S : ι → St) (m : ι → Nat) (I : ι → Prop) (Q : Aft) (n : Nat) : Aft := fun ex s => match ex with
  | .normal => ∃ y, I y ∧ m y < n ∧ head fr.keep (gcOf fr.gcs id) s = some (S y)
  | ex => Q ex s
theorem LP_exit {ι : Type} {S : ι → St} {m : ι → Nat} {I : ι → Prop} {n i : Nat} : LP fr id S m I Q n (.exit i) s ↔ Q (.exit i) s := Iff.rfl
theorem LP_ret {ι : Type} {S : ι → St} {m : ι → Nat} {I : ι → Prop} {n : Nat} : LP fr id S m I Q n .ret s ↔ Q .ret s := Iff.rfl

theorem loop_rule {ι : Type} (S : ι → St) (m : ι → Nat) (I : ι → Prop) (step : ∀ x, I x → W cx fr c none (S x) (LP fr id S m I Q (m x))) : ∀ (x : ι) (s : St), I x → head fr.keep (gcOf fr.gcs id) s = some (S x) → W cx fr (.loop c) id s Q := by
  have key : ∀ (n : Nat) (x : ι) (s : St), m x < n → I x → head fr.keep (gcOf fr.gcs id) s = some (S x) → W cx fr (.loop c) id s Q := by
    intro n
    induction n with
    | zero => intro x s h; omega
    | succ n ih =>
      intro x s hm hI hs
      obtain ⟨R, ex, s', h, q⟩ := step x hI
      cases ex with
      | normal =>
        obtain ⟨y, hy, hlt, hh⟩ := q
        obtain ⟨R2, ex2, s2, h2, q2⟩ := ih y s' (by omega) hy hh
        refine ⟨max R R2 + 1, ex2, s2, ?_, q2⟩
        simp only [acode] at h2 ⊢
        unfold rounds
        rw [hs]
        simp only [Option.bind_some, acode_mono (show R ≤ max R R2 + 1 by omega) h]
        refine rounds_mono (fun s r hb => ?_) (show R2 ≤ max R R2 by omega) h2
        rw [Option.bind_eq_some_iff] at hb ⊢
        obtain ⟨s0, h3, h4⟩ := hb
        exact ⟨s0, h3, acode_mono (by omega) h4⟩
      | exit i =>
        refine ⟨R + 1, _, _, ?_, q⟩
        simp only [acode]
        unfold rounds
        rw [hs]
        simp only [Option.bind_some, acode_mono (show R ≤ R + 1 by omega) h]
      | ret =>
        refine ⟨R + 1, _, _, ?_, q⟩
        simp only [acode]
        unfold rounds
        rw [hs]
        simp only [Option.bind_some, acode_mono (show R ≤ R + 1 by omega) h]
  exact fun x s hI hs => key _ x s (Nat.lt_succ_self _) hI hs

theorem W_mono {Q' : Aft} (h : ∀ ex s, Q ex s → Q' ex s) : W cx fr c id s Q → W cx fr c id s Q' := fun ⟨R, ex, s', h1, q⟩ => ⟨R, ex, s', h1, h _ _ q⟩
end

/-- A function's end. -/
def FQ (T : TT) (res : List ResultVar) (rfz : Bool) (keep : Nat) (r : V × Heap) : Aft := fun ex s => match ex with
  | .normal | .ret => ((resAll T s res).bind fun vs => finish keep rfz (oneOf vs) s.heap) = some r
  | _ => False

theorem fn_rule {T : TT} {fns : FuncId → Option AFn} {g : FuncId} {fn : AFn} (hfn : fns g = some fn) (hi : fn.intr = none) {args : List V} {hs : List Ob} {r : V × Heap} (hl : args.length ≤ fn.ntmps)
    (h : W (LX T fns) ⟨fn.ntmps, hs.length, fn.gcs⟩ fn.body none ⟨argEnv 0 args, hs.map some⟩ (FQ T fn.res fn.rfz hs.length r)) : lim T fns g args hs = some r := by
  obtain ⟨R, ex, s', h1, q⟩ := h
  refine lim_run T fns hfn hi (R0 := R) ?_
  unfold runFn
  rw [if_neg (by omega), Option.bind_eq_some_iff]
  refine ⟨_, h1, ?_⟩
  cases ex with
  | normal => exact q
  | ret => exact q
  | exit i => exact q.elim

mutual
/-- A value that leads to no object, and isn't frozen into another one. -/
def V.plain : V → Bool
  | .undef | .bool _ | .int .. | .str _ | .fz _ | .nilp | .el .. | .nilm | .nilf | .nili => true
  | .clo _ cs => V.allPlain cs
  | .agg cs => V.allPlain cs
  | .tup vs => V.allPlain vs
  | .ifc _ v => V.plain v
  | _ => false
def V.allPlain : List V → Bool
  | [] => true
  | v :: r => V.plain v && V.allPlain r
end

mutual
theorem plain_re (f : Nat → Option Nat) : ∀ v : V, v.plain = true → V.re f v = some v
  | .clo g cs, h => by simp only [V.plain] at h; simp [V.re, plainAll_re f cs h]
  | .agg cs, h => by simp only [V.plain] at h; simp [V.re, plainAll_re f cs h]
  | .tup cs, h => by simp only [V.plain] at h; simp [V.re, plainAll_re f cs h]
  | .ifc t v, h => by simp only [V.plain] at h; simp [V.re, plain_re f v h]
  | .undef, _ | .bool _, _ | .int _ _, _ | .str _, _ | .fz _, _ | .nilp, _ | .el _ _, _ | .nilm, _ | .nilf, _ | .nili, _ => rfl
theorem plainAll_re (f : Nat → Option Nat) : ∀ l : List V, V.allPlain l = true → V.reAll f l = some l
  | [], _ => rfl
  | v :: r, h => by
    simp only [V.allPlain, Bool.and_eq_true] at h
    simp [V.reAll, plain_re f v h.1, plainAll_re f r h.2]
end

mutual
theorem plain_ids : ∀ v : V, v.plain = true → V.ids v = []
  | .clo g cs, h => by simp only [V.plain] at h; simp [V.ids, plainAll_ids cs h]
  | .agg cs, h => by simp only [V.plain] at h; simp [V.ids, plainAll_ids cs h]
  | .tup cs, h => by simp only [V.plain] at h; simp [V.ids, plainAll_ids cs h]
  | .ifc t v, h => by simp only [V.plain] at h; simp [V.ids, plain_ids v h]
  | .undef, _ | .bool _, _ | .int _ _, _ | .str _, _ | .fz _, _ | .nilp, _ | .el _ _, _ | .nilm, _ | .nilf, _ | .nili, _ => rfl
theorem plainAll_ids : ∀ l : List V, V.allPlain l = true → V.allIds l = []
  | [], _ => rfl
  | v :: r, h => by
    simp only [V.allPlain, Bool.and_eq_true] at h
    simp [V.allIds, plain_ids v h.1, plainAll_ids r h.2]
end

section
variable {α : Type} {ms : Nat → Nat → Nat → Nat → (V → Upd → Rd α) → Rd α}
mutual
theorem plain_frzG (k : V → Upd → Rd α) : ∀ v : V, v.plain = true → frzG ms v k = k v []
  | .agg cs, h => by simp only [V.plain] at h; simp only [frzG]; rw [plainAll_frzG (fun cs u => k (.agg cs) u) cs h]
  | .tup cs, h => by simp only [V.plain] at h; simp only [frzG]; rw [plainAll_frzG (fun cs u => k (.tup cs) u) cs h]
  | .clo g cs, h => by simp only [frzG]
  | .ifc t v, h => by simp only [frzG]
  | .undef, _ | .bool _, _ | .int _ _, _ | .str _, _ | .fz _, _ | .nilp, _ | .el _ _, _ | .nilm, _ | .nilf, _ | .nili, _ => by simp only [frzG]
theorem plainAll_frzG (k : List V → Upd → Rd α) : ∀ l : List V, V.allPlain l = true → frzGAll ms l k = k l []
  | [], _ => by simp only [frzGAll]
  | v :: r, h => by
    simp only [V.allPlain, Bool.and_eq_true] at h
    simp only [frzGAll]
    rw [plain_frzG _ v h.1, plainAll_frzG _ r h.2]
    rfl
end
end
theorem plain_frz {α : Type} (k : V → Upd → Rd α) (v : V) (h : v.plain = true) : frz v k = k v [] := plain_frzG k v h
theorem plainAll_frz {α : Type} (k : List V → Upd → Rd α) (l : List V) (h : V.allPlain l = true) : frzAll l k = k l [] := plainAll_frzG k l h
theorem plainArgs_frz {α : Type} : ∀ (l : List V) (m : List Bool) (k : List V → Upd → Rd α), V.allPlain l = true → frzArgs l m k = k l []
  | [], m, k, _ => by simp only [frzArgs]
  | v :: r, m, k, h => by
    simp only [V.allPlain, Bool.and_eq_true] at h
    cases m with
    | nil => simp only [frzArgs]; exact plainArgs_frz r _ _ h.2
    | cons b m =>
      cases b with
      | false => simp only [frzArgs]; exact plainArgs_frz r _ _ h.2
      | true =>
        simp only [frzArgs]
        rw [plain_frz _ v h.1, plainArgs_frz r _ _ h.2]
        rfl

theorem allPlain_append : ∀ (a b : List V), V.allPlain (a ++ b) = (V.allPlain a && V.allPlain b)
  | [], b => rfl
  | v :: r, b => by simp [V.allPlain, allPlain_append r b, Bool.and_assoc]

/-- A call with arguments that lead to no object, and such an answer. -/
theorem callV_plain {T : TT} {fns : FuncId → Option AFn} {g : FuncId} {fn : AFn} (hfn : fns g = some fn) {args caps : List V} {r : V} (ha : V.allPlain (args ++ caps) = true) (hr : r.plain = true) (h : lim T fns g (args ++ caps) [] = some (r, [])) (n : Nat) :
    callV (LX T fns) n (.clo g caps) args = .pure (r, []) := by
  unfold callV
  simp only [hfn]
  unfold callR
  rw [plainArgs_frz _ _ _ ha, plainAll_ids _ ha]
  show withR (lim T fns g) n (args ++ caps) [] [] = _
  unfold withR
  simp only [List.map_nil, upd1, List.all_nil, Bool.and_self, if_true, plainAll_re _ _ ha, pullObs, h, List.length_nil, Nat.le_refl]
  unfold afterR
  simp [plain_re _ _ hr, pushObs]

/-! A function's end, where its answer leads to no object. -/
theorem FQ_ret {T : TT} {res : List ResultVar} {rfz : Bool} {keep : Nat} {r : V × Heap} {s : St} : FQ T res rfz keep r .ret s ↔ ((resAll T s res).bind fun vs => finish keep rfz (oneOf vs) s.heap) = some r := Iff.rfl
theorem FQ_normal {T : TT} {res : List ResultVar} {rfz : Bool} {keep : Nat} {r : V × Heap} {s : St} : FQ T res rfz keep r .normal s ↔ ((resAll T s res).bind fun vs => finish keep rfz (oneOf vs) s.heap) = some r := Iff.rfl

/-- What is left of an answer that is frozen. -/
def FZ (x : Option ((V × Upd) × List Nat)) : Option (V × Heap) := match x with
  | some ((v, _), _) => if v.plain = true then some (v, []) else none
  | none => none
theorem finish_plain {v : V} {h : Heap} {rfz : Bool} (hp : v.plain = true) : finish 0 rfz v h = some (v, []) := by
  have key : ∀ h : Heap, (let l := reach 0 h 4096 (upto 0 (V.ids v)) []
      if begins 0 0 l then (V.re (idx l) v).bind fun v => (pull h (idx l) l).map fun h => (v, h) else none) = some (v, []) := by
    intro h
    rw [plain_ids v hp]
    show (V.re (idx []) v).bind (fun v => (pull h (idx []) []).map fun h => (v, h)) = _
    rw [plain_re _ v hp]
    rfl
  unfold finish
  cases rfz with
  | false => exact key h
  | true =>
    simp only [if_true]
    rw [plain_frz _ v hp]
    exact key _
theorem finish_true {v : V} {h : Heap} {v' : V} {u : Upd} {l : List Nat} (hf : (frz v fun v u => Rd.pure (v, u)).run h [] = some ((v', u), l)) (hp : v'.plain = true) : finish 0 true v h = some (v', []) := by
  have := finish_plain (h := h.puts u) (rfz := false) hp
  unfold finish at this ⊢
  simp only [if_true, hf, Option.map_some, Option.bind_some]
  simpa using this
theorem finish_fz {v : V} {h : Heap} {r : V × Heap} (hf : FZ ((frz v fun v u => Rd.pure (v, u)).run h []) = some r) : finish 0 true v h = some r := by
  unfold FZ at hf
  split at hf
  · rename_i v' u l hx
    split at hf
    · rename_i hp
      rw [finish_true hx hp]
      exact hf
    · cases hf
  · cases hf

theorem natOf_cast (k : IntKind) (n : Nat) : natOf (.int k (n : Int)) = some n := by simp [natOf]
theorem wrap_i64 {n : Int} (h0 : -9223372036854775808 ≤ n) (h1 : n < 9223372036854775808) : IntKind.i64.wrap n = n := by
  simp [IntKind.wrap, IntKind.signed, IntKind.bits]
  omega
theorem wrap_i64s {n : Nat} (h : n < 1000000000000000000) : IntKind.i64.wrap ((n : Int) + 1) = ((n + 1 : Nat) : Int) := by
  rw [wrap_i64 (by omega) (by omega)]
  omega
theorem pl_int (k : IntKind) (n : Int) : V.plain (.int k n) = true := id rfl
theorem pl_bool (b : Bool) : V.plain (.bool b) = true := id rfl
theorem pl_str (s : ByteArray) : V.plain (.str s) = true := id rfl
theorem pl_fz (rows : List (List V)) : V.plain (.fz rows) = true := id rfl
theorem pl_agg (cs : List V) : V.plain (.agg cs) = V.allPlain cs := id rfl
theorem pl_tup (cs : List V) : V.plain (.tup cs) = V.allPlain cs := id rfl
theorem pl_clo (g : FuncId) (cs : List V) : V.plain (.clo g cs) = V.allPlain cs := id rfl
theorem pl_undef : V.plain .undef = true := id rfl
theorem pl_nil : V.allPlain [] = true := id rfl
theorem pl_cons (v : V) (r : List V) : V.allPlain (v :: r) = (V.plain v && V.allPlain r) := id rfl

theorem ba_beq (a b : ByteArray) : (a == b) = decide (a = b) := by
  obtain ⟨a⟩ := a
  obtain ⟨b⟩ := b
  show (a == b) = _
  by_cases h : a = b
  · subst h; simp
  · have : (a == b) = false := by simpa using h
    rw [this]
    simp [h]
theorem ba_toList (a b : ByteArray) : (a.toList == b.toList) = decide (a = b) := by
  rw [ByteArray.toList_eq, ByteArray.toList_eq]
  obtain ⟨a⟩ := a
  obtain ⟨b⟩ := b
  by_cases h : a = b
  · subst h; simp
  · have : ¬ a.toList = b.toList := fun e => h (Array.toList_inj.1 e)
    simp [h, this]

/-- Lists that are as long, and the same so far. -/
theorem take_eq_len {α : Type} {a b : List α} (hl : a.length = b.length) {i : Nat} (h : a.take i = b.take i) (hi : a.length ≤ i) : a = b := by
  rwa [List.take_of_length_le hi, List.take_of_length_le (by omega)] at h
theorem take_eq_step {α : Type} {a b : List α} {i : Nat} (h : a.take i = b.take i) (ha : i < a.length) (hb : i < b.length) (he : a[i] = b[i]) : a.take (i + 1) = b.take (i + 1) := by
  rw [List.take_succ_eq_append_getElem ha, List.take_succ_eq_append_getElem hb, h, he]
end Go.Proofs.YtoggbcckkjfkhaaGreat.R
/- Stepping through an order that is drawn, where objects are turned: what was done so far is kept as the objects that were turned, and looked at. -/
namespace Go.Proofs.YtoggbcckkjfkhaaGreat.R
set_option linter.unusedVariables false
set_option linter.unusedSimpArgs false
open Go

def hasN (x : Nat) : List Nat → Bool
  | [] => false
  | y :: r => Nat.beq x y || hasN x r
def hits : List Nat → List Nat → Bool
  | [], _ => false
  | x :: r, b => hasN x b || hits r b
def bitN (bef : Array Nat) (j i : Nat) : Bool := (bef.getD j 0).testBit i
abbrev Book := List (List Nat × List Nat)
/-- Operation j, which turns and looks at so much, clashes with those alone that are told to be ahead of it. -/
def apB (bef : Array Nat) (j : Nat) (ids rds : List Nat) : Nat → Book → Bool
  | _, [] => true
  | i, (a, b) :: r => (!(hits a rds || hits a ids || hits ids b) || bitN bef j i) && apB bef j ids rds (i + 1) r

def ids1 : Upd → List Nat
  | [] => []
  | p :: u => p.1 :: ids1 u
def sigD (d : Did) : List Nat × List Nat := (ids1 d.upd, d.reads)
def ofB (p : List Nat × List Nat) : Did := ⟨true, .undef, p.1.map fun i => (i, none), p.2⟩

theorem nbeq (x y : Nat) : Nat.beq x y = decide (x = y) := by
  rw [Bool.eq_iff_iff, decide_eq_true_eq, Nat.beq_eq]
theorem hasN_iff {x : Nat} : ∀ {l : List Nat}, hasN x l = l.contains x
  | [] => rfl
  | y :: r => by
    simp only [hasN, List.contains_cons, hasN_iff, nbeq]
    rfl
theorem hits_any {b : List Nat} : ∀ {u : Upd}, hits (ids1 u) b = u.any fun p => b.contains p.1
  | [] => rfl
  | p :: u => by simp only [ids1, hits, List.any_cons, hasN_iff, hits_any]
theorem ids_has {x : Nat} : ∀ {u : Upd}, hasN x (ids1 u) = u.any fun q => q.1 == x
  | [] => rfl
  | p :: u => by
    have h : Nat.beq x p.1 = (p.1 == x) := by
      rw [nbeq, Bool.eq_iff_iff, decide_eq_true_eq, beq_iff_eq]
      exact ⟨fun h => h.symm, fun h => h.symm⟩
    simp only [ids1, hasN, List.any_cons, ids_has, h]
theorem hits_upd {v : Upd} : ∀ {u : Upd}, hits (ids1 u) (ids1 v) = u.any fun p => v.any fun q => q.1 == p.1
  | [] => rfl
  | p :: u => by simp only [ids1, hits, List.any_cons, ids_has, hits_upd]
theorem any_or {α : Type} {f g : α → Bool} : ∀ {l : List α}, (l.any fun x => f x || g x) = (l.any f || l.any g)
  | [] => rfl
  | x :: l => by
    have ih := any_or (f := f) (g := g) (l := l)
    simp only [List.any_cons, ih]
    cases f x <;> cases g x <;> cases l.any f <;> cases l.any g <;> rfl
theorem touches_hits (a b : Did) : a.touches b = (hits (ids1 a.upd) b.reads || hits (ids1 a.upd) (ids1 b.upd)) := by
  unfold Did.touches
  rw [any_or, hits_any, hits_upd]
theorem hits_comm {u v : Upd} : hits (ids1 u) (ids1 v) = hits (ids1 v) (ids1 u) := by
  rw [hits_upd, hits_upd, Bool.eq_iff_iff]
  simp only [List.any_eq_true, beq_iff_eq]
  constructor
  · rintro ⟨p, hp, q, hq, e⟩
    exact ⟨q, hq, p, hp, e.symm⟩
  · rintro ⟨p, hp, q, hq, e⟩
    exact ⟨q, hq, p, hp, e.symm⟩
theorem clash_sig (a b : Did) : clash a b = (hits (sigD a).1 (sigD b).2 || hits (sigD a).1 (sigD b).1 || hits (sigD b).1 (sigD a).2) := by
  unfold clash sigD
  rw [touches_hits, touches_hits]
  rw [hits_comm (u := b.upd) (v := a.upd)]
  cases hits (ids1 a.upd) b.reads <;> cases hits (ids1 a.upd) (ids1 b.upd) <;> cases hits (ids1 b.upd) a.reads <;> rfl
theorem apart_sig (bef : Array Nat) (j : Nat) (d : Did) : ∀ (done : List Did) (i : Nat), ((done.zipIdx i).all fun (c, i) => !clash c d || (bef.getD j 0).testBit i) = apB bef j (sigD d).1 (sigD d).2 i (done.map sigD)
  | [], i => rfl
  | c :: r, i => by
    simp only [List.zipIdx_cons, List.all_cons, List.map_cons, apB, ← apart_sig bef j d r (i + 1), clash_sig]
    rfl
theorem apart_eq (bef : Array Nat) (done : List Did) (j : Nat) (d : Did) : apart bef done j d = apB bef j (sigD d).1 (sigD d).2 0 (done.map sigD) := apart_sig bef j d done 0
theorem sig_of (p : List Nat × List Nat) : sigD (ofB p) = p := by
  obtain ⟨a, b⟩ := p
  unfold sigD ofB
  have : ∀ a : List Nat, ids1 (a.map fun i => (i, (none : Option Ob))) = a := by
    intro a
    induction a with
    | nil => rfl
    | cons x r ih => simp only [List.map_cons, ids1, ih]
  simp only [this]

variable {cx : Cx} {nt : Nat} {ops : Array Oper} {bef : Array Nat} {Q : Aft}
theorem draw_sig : ∀ {rest : List Oper} {j : Nat} {s : St} {done done' : List Did}, done.map sigD = done'.map sigD → runDraw cx nt ops bef rest j s done = runDraw cx nt ops bef rest j s done'
  | [], j, s, done, done', h => rfl
  | o :: r, j, s, done, done', h => by
    simp only [runDraw]
    cases wants ops s.env o with
    | none => rfl
    | some w =>
      cases w with
      | false =>
        simp only
        cases putDst nt s.env o.dst (.tup []) with
        | none => rfl
        | some e => exact draw_sig (by simp [h])
      | true =>
        simp only
        cases (aop cx s.heap.length s.env o).run s.heap [] with
        | none => rfl
        | some x =>
          obtain ⟨⟨v, u⟩, l⟩ := x
          simp only [apart_eq, h]
          split
          · cases putDst nt s.env o.dst v with
            | none => rfl
            | some e => exact draw_sig (by simp [h])
          · rfl

/-- With what was done so far as a book. -/
def WB (cx : Cx) (nt : Nat) (ops : Array Oper) (bef : Array Nat) (rest : List Oper) (j : Nat) (s : St) (b : Book) (Q : Aft) : Prop := WD cx nt ops bef rest j s (b.map ofB) Q
theorem WD_book {rest : List Oper} {j : Nat} {s : St} {done : List Did} {b : Book} (h : done.map sigD = b) : WD cx nt ops bef rest j s done Q ↔ WB cx nt ops bef rest j s b Q := by
  unfold WB WD
  rw [draw_sig (done' := b.map ofB)]
  subst h
  rw [List.map_map, List.map_map]
  exact List.map_congr_left fun d _ => (sig_of _).symm
/-- One operation's answer. -/
def BA (cx : Cx) (nt : Nat) (ops : Array Oper) (bef : Array Nat) (x : Option ((V × Upd) × List Nat)) (d : Option Tmp) (rest : List Oper) (j : Nat) (e : Env) (h : Heap) (b : Book) (Q : Aft) : Prop := match x with
  | none => False
  | some ((v, u), l) => apB bef j (ids1 u) l 0 b = true ∧ (match d with
    | none => WB cx nt ops bef rest (j + 1) ⟨e, Heap.pad (h.length + 1) (h.puts u)⟩ (b ++ [(ids1 u, l)]) Q
    | some d => d < nt ∧ WB cx nt ops bef rest (j + 1) ⟨(d, v) :: e, Heap.pad (h.length + 1) (h.puts u)⟩ (b ++ [(ids1 u, l)]) Q)
def BG (cx : Cx) (nt : Nat) (ops : Array Oper) (bef : Array Nat) (w : Option Bool) (o : Oper) (rest : List Oper) (j : Nat) (s : St) (b : Book) (Q : Aft) : Prop := match w with
  | none => False
  | some true => BA cx nt ops bef ((aop cx s.heap.length s.env o).run s.heap []) o.dst rest j s.env s.heap b Q
  | some false => match o.dst with
    | none => WB cx nt ops bef rest (j + 1) s (b ++ [([], [])]) Q
    | some d => d < nt ∧ WB cx nt ops bef rest (j + 1) ⟨(d, .tup []) :: s.env, s.heap⟩ (b ++ [([], [])]) Q
theorem book_map (b : Book) : (b.map ofB).map sigD = b := by
  rw [List.map_map]
  exact (List.map_congr_left fun p _ => sig_of p).trans (List.map_id b)
theorem WB_any {o : Oper} {r : List Oper} {j : Nat} {s : St} {b : Book} : WB cx nt ops bef (o :: r) j s b Q ↔ BG cx nt ops bef (wants ops s.env o) o r j s b Q := by
  unfold WB WD BG
  simp only [runDraw]
  cases hw : wants ops s.env o with
  | none => simp
  | some w =>
    cases w with
    | false =>
      simp only [putDst]
      cases o.dst with
      | none =>
        simp only [Option.bind_some]
        exact WD_book (by simp only [List.map_append, book_map]; rfl)
      | some d =>
        simp only
        by_cases hd : d < nt
        · simp only [hd, if_true, Option.bind_some, true_and]
          exact WD_book (by simp only [List.map_append, book_map]; rfl)
        · simp [hd]
    | true =>
      simp only [BA]
      cases (aop cx s.heap.length s.env o).run s.heap [] with
      | none => simp
      | some x =>
        obtain ⟨⟨v, u⟩, l⟩ := x
        simp only [apart_eq, book_map]
        have hs : sigD (⟨true, v, u, l⟩ : Did) = (ids1 u, l) := rfl
        simp only [hs]
        by_cases ha : apB bef j (ids1 u) l 0 b = true
        · rw [if_pos ha]
          simp only [ha, true_and, putDst]
          cases o.dst with
          | none =>
            simp only [Option.bind_some]
            exact WD_book (by simp only [List.map_append, book_map]; rfl)
          | some d =>
            simp only
            by_cases hd : d < nt
            · simp only [hd, if_true, Option.bind_some, true_and]
              exact WD_book (by simp only [List.map_append, book_map]; rfl)
            · simp [hd]
        · rw [if_neg ha]
          simp [ha]
theorem WB_cons {d : Option Tmp} {op : Op} {t : TypeId} {p : String} {af : Array Edge} {r : List Oper} {j : Nat} {e : Env} {h : Heap} {b : Book} : WB cx nt ops bef ({ dst := d, op, type := t, pos := p, after := af, guard := none } :: r) j ⟨e, h⟩ b Q ↔
    BA cx nt ops bef ((aop cx h.length e { dst := d, op, type := t, pos := p, after := af, guard := none }).run h []) d r j e h b Q := WB_any
theorem WB_guard {d : Option Tmp} {op : Op} {t : TypeId} {p : String} {af : Array Edge} {i : Nat} {w : Bool} {r : List Oper} {j : Nat} {e : Env} {h : Heap} {b : Book} : WB cx nt ops bef ({ dst := d, op, type := t, pos := p, after := af, guard := some (i, w) } :: r) j ⟨e, h⟩ b Q ↔
    BG cx nt ops bef (if skipped ops e i then some false else (yields ops e i).map (· == w)) { dst := d, op, type := t, pos := p, after := af, guard := some (i, w) } r j ⟨e, h⟩ b Q := WB_any
theorem WB_nil {j : Nat} {s : St} {b : Book} : WB cx nt ops bef [] j s b Q ↔ Q .normal s := ⟨fun ⟨s', h, q⟩ => by cases h; exact q, fun q => ⟨s, rfl, q⟩⟩
theorem BG_true {o : Oper} {r : List Oper} {j : Nat} {e : Env} {h : Heap} {b : Book} : BG cx nt ops bef (some true) o r j ⟨e, h⟩ b Q ↔ BA cx nt ops bef ((aop cx h.length e o).run h []) o.dst r j e h b Q := Iff.rfl
theorem BG_false {op : Op} {d t : Nat} {p : String} {af : Array Edge} {g : Option (Nat × Bool)} {r : List Oper} {j : Nat} {e : Env} {h : Heap} {b : Book} : BG cx nt ops bef (some false) { dst := some d, op, type := t, pos := p, after := af, guard := g } r j ⟨e, h⟩ b Q ↔
    d < nt ∧ WB cx nt ops bef r (j + 1) ⟨(d, .tup []) :: e, h⟩ (b ++ [([], [])]) Q := Iff.rfl
theorem BG_false_none {op : Op} {t : Nat} {p : String} {af : Array Edge} {g : Option (Nat × Bool)} {r : List Oper} {j : Nat} {e : Env} {h : Heap} {b : Book} : BG cx nt ops bef (some false) { dst := none, op, type := t, pos := p, after := af, guard := g } r j ⟨e, h⟩ b Q ↔
    WB cx nt ops bef r (j + 1) ⟨e, h⟩ (b ++ [([], [])]) Q := Iff.rfl
theorem BA_some {v : V} {u : Upd} {l : List Nat} {d : Nat} {r : List Oper} {j : Nat} {e : Env} {h : Heap} {b : Book} : BA cx nt ops bef (some ((v, u), l)) (some d) r j e h b Q ↔ apB bef j (ids1 u) l 0 b = true ∧ d < nt ∧ WB cx nt ops bef r (j + 1) ⟨(d, v) :: e, Heap.pad (h.length + 1) (h.puts u)⟩ (b ++ [(ids1 u, l)]) Q := Iff.rfl
theorem BA_none {v : V} {u : Upd} {l : List Nat} {r : List Oper} {j : Nat} {e : Env} {h : Heap} {b : Book} : BA cx nt ops bef (some ((v, u), l)) none r j e h b Q ↔ apB bef j (ids1 u) l 0 b = true ∧ WB cx nt ops bef r (j + 1) ⟨e, Heap.pad (h.length + 1) (h.puts u)⟩ (b ++ [(ids1 u, l)]) Q := Iff.rfl

/-! Out of what was quiet so far. -/
def sigQ (q : QD) : Book := q.l.map sigD
theorem sigQ_nil : sigQ QD.nil = [] := rfl
theorem sigQ_snoc {q : QD} {w : Bool} {v : V} {l : List Nat} : sigQ (q.snoc w v l) = sigQ q ++ [([], l)] := by
  unfold sigQ QD.snoc
  simp only [List.map_append]
  rfl
theorem QA_noise {p : Nat × Option Ob} {v : V} {u : Upd} {l : List Nat} {d : Nat} {r : List Oper} {j : Nat} {e : Env} {h : Heap} {q : QD} : QA cx nt ops bef (some ((v, p :: u), l)) (some d) r j e h q Q ↔
    apB bef j (ids1 (p :: u)) l 0 (sigQ q) = true ∧ d < nt ∧ WB cx nt ops bef r (j + 1) ⟨(d, v) :: e, Heap.pad (h.length + 1) (h.puts (p :: u))⟩ (sigQ q ++ [(ids1 (p :: u), l)]) Q := by
  unfold QA
  simp only [apart_eq]
  refine and_congr Iff.rfl (and_congr Iff.rfl ?_)
  exact WD_book (by simp only [List.map_append]; rfl)
theorem QA_noise_none {p : Nat × Option Ob} {v : V} {u : Upd} {l : List Nat} {r : List Oper} {j : Nat} {e : Env} {h : Heap} {q : QD} : QA cx nt ops bef (some ((v, p :: u), l)) none r j e h q Q ↔
    apB bef j (ids1 (p :: u)) l 0 (sigQ q) = true ∧ WB cx nt ops bef r (j + 1) ⟨e, Heap.pad (h.length + 1) (h.puts (p :: u))⟩ (sigQ q ++ [(ids1 (p :: u), l)]) Q := by
  unfold QA
  simp only [apart_eq]
  refine and_congr Iff.rfl ?_
  exact WD_book (by simp only [List.map_append]; rfl)

/-! A call's answer that is a new object. -/
theorem callV_clone {T : TT} {fns : FuncId → Option AFn} {g : FuncId} {fn : AFn} (hfn : fns g = some fn) {st bytes : Nat} (hi : fn.intr = some (cloneFn st bytes)) (hst : st ≠ 0) {rows : List (List V)} (hr : rows.all (fun r => r.length == st) = true) (hb : rows.length * bytes ≤ 140737488355328) (n : Nat) :
    callV (LX T fns) n (.clo g []) [.fz rows] = .pure (.ms n st 0 rows.length none, [(n, some (.buf st rows false true))]) := by
  have h : lim T fns g [.fz rows] [] = some (.ms 0 st 0 rows.length none, [some (.buf st rows false true)]) := lim_of T fns ⟨1, fun R d hR hd => by
    obtain ⟨d, rfl⟩ : ∃ d', d = d' + 1 := ⟨d - 1, by omega⟩
    simp only [acall, hfn, hi, cloneFn]
    rw [if_pos ⟨hst, hr, hb⟩]⟩
  unfold callV
  simp only [hfn]
  unfold callR
  rw [plainArgs_frz _ _ _ (by rfl), plainAll_ids _ (by rfl)]
  show withR (lim T fns g) n [.fz rows] [] [] = _
  unfold withR
  simp only [List.map_nil, upd1, List.all_nil, Bool.and_self, if_true, plainAll_re _ [.fz rows] (by rfl), pullObs, h, List.length_nil, Nat.zero_le]
  unfold afterR
  simp only [List.length_cons, List.length_nil, Nat.zero_add, V.re, back, nth, Nat.lt_one_iff, if_true, Option.map_some, pushObs, Ob.re, Option.bind_some, List.isEmpty_cons, Bool.and_false, Bool.false_and, Bool.false_eq_true, if_false, Nat.sub_self, Nat.add_zero, List.append_nil]
end Go.Proofs.YtoggbcckkjfkhaaGreat.R
/- What a run within bounds answers is answered without bounds. -/
namespace Go.Proofs.YtoggbcckkjfkhaaGreat.R
set_option linter.unusedVariables false
set_option linter.unusedSimpArgs false
open Go

section
variable (T : TT) (fns : FuncId → Option AFn) {c c' : FuncId → Fun} (hc : ∀ g a h r, c g a h = some r → c' g a h = some r)
include hc

theorem code_imp {ntmps keep : Nat} {gcs : List AGc} {R : Nat} {k : Code} {id : Option Nat} {s : St} {r : Ex × St} (h : acode { T, fns, call := c } ntmps keep R gcs k id s = some r) : acode { T, fns, call := c' } ntmps keep R gcs k id s = some r :=
  acode_le T fns hc (Nat.le_refl _) h

theorem runFn_imp {fn : AFn} {R : Nat} {args : List V} {hs : List Ob} {r : V × Heap} (h : runFn { T, fns, call := c } fn R args hs = some r) : runFn { T, fns, call := c' } fn R args hs = some r := by
  unfold runFn at h ⊢
  split at h
  · cases h
  · rename_i hl
    rw [if_neg hl]
    rw [Option.bind_eq_some_iff] at h ⊢
    obtain ⟨x, h1, h2⟩ := h
    exact ⟨x, code_imp T fns hc h1, h2⟩
end

theorem acall_lim {T : TT} {fns : FuncId → Option AFn} {R : Nat} : ∀ {d : Nat} {g : FuncId} {a : List V} {h : List Ob} {r : V × Heap}, acall T fns R d g a h = some r → lim T fns g a h = some r
  | 0, g, a, h, r, hx => by simp [acall] at hx
  | d + 1, g, a, h, r, hx => by
    unfold acall at hx
    cases hf : fns g with
    | none => simp [hf] at hx
    | some fn =>
      simp only [hf] at hx
      cases hi : fn.intr with
      | some p =>
        simp only [hi] at hx
        refine lim_of T fns ⟨1, fun R' d' _ hd => ?_⟩
        obtain ⟨d', rfl⟩ : ∃ d'', d' = d'' + 1 := ⟨d' - 1, by omega⟩
        simp only [acall, hf, hi]
        exact hx
      | none =>
        simp only [hi] at hx
        exact lim_run T fns hf hi (runFn_imp T fns (fun g a h r hx => acall_lim hx) hx)
/-- An answer without bounds is one within some. -/
theorem lim_acall {T : TT} {fns : FuncId → Option AFn} {g : FuncId} {a : List V} {h : List Ob} {r : V × Heap} (hx : lim T fns g a h = some r) : ∃ R d, acall T fns R d g a h = some r := by
  obtain ⟨i, hi⟩ := lim_evt T fns hx
  exact ⟨i, i, hi i i (Nat.le_refl _) (Nat.le_refl _)⟩

/-! An answer that is told of, not named. -/
def PF (P : V × Heap → Prop) (x : Option (V × Heap)) : Prop := ∃ r, x = some r ∧ P r
def EQ (T : TT) (res : List ResultVar) (rfz : Bool) (keep : Nat) (P : V × Heap → Prop) : Aft := fun ex s => match ex with
  | .normal | .ret => PF P ((resAll T s res).bind fun vs => finish keep rfz (oneOf vs) s.heap)
  | _ => False
theorem EQ_ret {T : TT} {res : List ResultVar} {rfz : Bool} {keep : Nat} {P : V × Heap → Prop} {s : St} : EQ T res rfz keep P .ret s ↔ PF P ((resAll T s res).bind fun vs => finish keep rfz (oneOf vs) s.heap) := Iff.rfl
theorem EQ_normal {T : TT} {res : List ResultVar} {rfz : Bool} {keep : Nat} {P : V × Heap → Prop} {s : St} : EQ T res rfz keep P .normal s ↔ PF P ((resAll T s res).bind fun vs => finish keep rfz (oneOf vs) s.heap) := Iff.rfl
theorem fn_rule_ex {T : TT} {fns : FuncId → Option AFn} {g : FuncId} {fn : AFn} (hfn : fns g = some fn) (hi : fn.intr = none) {args : List V} {hs : List Ob} {P : V × Heap → Prop} (hl : args.length ≤ fn.ntmps)
    (h : W (LX T fns) ⟨fn.ntmps, hs.length, fn.gcs⟩ fn.body none ⟨argEnv 0 args, hs.map some⟩ (EQ T fn.res fn.rfz hs.length P)) : ∃ r, lim T fns g args hs = some r ∧ P r := by
  obtain ⟨R, ex, s', h1, q⟩ := h
  have key : ∀ r, ((resAll T s' fn.res).bind fun vs => finish hs.length fn.rfz (oneOf vs) s'.heap) = some r → (ex = .normal ∨ ex = .ret) → lim T fns g args hs = some r := by
    intro r hr he
    refine lim_run T fns hfn hi (R0 := R) ?_
    unfold runFn
    rw [if_neg (by omega), Option.bind_eq_some_iff]
    refine ⟨_, h1, ?_⟩
    rcases he with rfl | rfl <;> exact hr
  cases ex with
  | normal =>
    obtain ⟨r, hr, hP⟩ := q
    exact ⟨r, key r hr (.inl rfl), hP⟩
  | ret =>
    obtain ⟨r, hr, hP⟩ := q
    exact ⟨r, key r hr (.inr rfl), hP⟩
  | exit i => exact q.elim
end Go.Proofs.YtoggbcckkjfkhaaGreat.R
/- Stepping: lists that grow. -/
namespace Go.Proofs.YtoggbcckkjfkhaaGreat.R
set_option linter.unusedVariables false
set_option linter.unusedSimpArgs false
open Go

theorem append_one {ti : TI} {n i st l : Nat} {row : List V} {np : Bool} {h : Heap} {tr : List Nat} {st' : Nat} {rows : List (List V)} {frz pure : Bool} (hat : h.at? i = some (.buf st' rows frz pure))
    (h1 : st = ti.size) (h2 : st' = ti.size) (h3 : l = rows.length) (h4 : (l + 1) * ti.bytes ≤ 140737488355328) (h5 : l + 1 ≤ 140737488355328) :
    (appendR ti n (.ms i st 0 l none) [row] np).run h tr = some ((.ms n st 0 (l + 1) none, [(i, none), (n, some (.buf st (rows ++ [row]) frz (pure && np)))]), i :: tr) := by
  subst h1
  subst h2
  subst h3
  unfold appendR
  simp only [List.length_cons, List.length_nil, Nat.zero_add, Nat.add_one_ne_zero, if_false, if_true, Rd.run, hat]
  rw [if_pos ⟨trivial, Nat.le_refl _, h4, h5⟩]
  unfold appendM
  simp only [List.length_cons, List.length_nil, Nat.zero_add]
  rw [if_neg (by omega), if_pos (by simp)]
  simp [Rd.run]

/-- As simp sees it: the object first, then one element behind it. -/
def appL (ti : TI) (n i st l : Nat) (row : List V) (np : Bool) (h : Heap) (tr : List Nat) (x : Option Ob) : Option ((V × Upd) × List Nat) := match x with
  | some o => (appendR ti n (.ms i st 0 l none) [row] np).run (Heap.put [] i (some o)) tr
  | none => none
theorem append_look {ti : TI} {n i st l : Nat} {row : List V} {np : Bool} {h : Heap} {tr : List Nat} : (appendR ti n (.ms i st 0 l none) [row] np).run h tr = appL ti n i st l row np h tr (h.at? i) := by
  unfold appL
  by_cases hst : st = ti.size
  · cases ho : h.at? i with
    | none =>
      unfold appendR
      simp [hst, Rd.run, ho]
    | some o =>
      have hp : Heap.at? (Heap.put [] i (some o)) i = some o := by rw [at?_put, if_pos rfl]
      unfold appendR
      simp only [List.length_cons, List.length_nil, Nat.zero_add, Nat.add_one_ne_zero, if_false, hst, if_true, Rd.run, ho, hp]
      cases o with
      | mp es p => rfl
      | buf st' rows frz pure =>
        simp only
        split
        · unfold appendM
          simp only
          split
          · split <;> rfl
          · split <;> rfl
        · rfl
  · unfold appendR
    cases h.at? i with
    | none => simp [hst, Rd.run]
    | some o => simp [hst, Rd.run]
theorem appL_some {ti : TI} {n i st l : Nat} {row : List V} {np : Bool} {h : Heap} {tr : List Nat} {st' : Nat} {rows : List (List V)} {frz pure : Bool} 
    (h1 : st = ti.size) (h2 : st' = ti.size) (h3 : l = rows.length) (h4 : (l + 1) * ti.bytes ≤ 140737488355328) (h5 : l + 1 ≤ 140737488355328) :
    appL ti n i st l row np h tr (some (.buf st' rows frz pure)) = some ((.ms n st 0 (l + 1) none, [(i, none), (n, some (.buf st (rows ++ [row]) frz (pure && np)))]), i :: tr) :=
  append_one (by rw [at?_put, if_pos rfl]) h1 h2 h3 h4 h5

/-- The answer is a whole list of an object of the call's own. -/
theorem finish_ms {h : Heap} {i st n : Nat} {c : Option Nat} {rows : List (List V)} {f : Bool} (hat : h.at? i = some (.buf st rows f true)) (hl : n = rows.length) : finish 0 true (.ms i st 0 n c) h = some (.fz rows, []) := by
  refine finish_true (u := [(i, some (.buf st rows true true))]) (l := [i]) ?_ rfl
  simp only [frz, frzAll, frzG, frzGAll, ms2, msUp, Rd.run, hat]
  rw [if_pos ⟨trivial, by omega⟩, hl]
  simp [Rd.run]

/-! Many elements. -/
theorem append_more {ti : TI} {n i st l : Nat} {new : List (List V)} {np : Bool} {h : Heap} {tr : List Nat} {st' : Nat} {rows : List (List V)} {frz pure : Bool} (hat : h.at? i = some (.buf st' rows frz pure)) (h0 : new.length ≠ 0)
    (h1 : st = ti.size) (h2 : st' = ti.size) (h3 : l = rows.length) (h4 : (l + new.length) * ti.bytes ≤ 140737488355328) (h5 : l + new.length ≤ 140737488355328) :
    (appendR ti n (.ms i st 0 l none) new np).run h tr = some ((.ms n st 0 (l + new.length) none, [(i, none), (n, some (.buf st (rows ++ new) frz (pure && np)))]), i :: tr) := by
  subst h1
  subst h2
  subst h3
  unfold appendR
  simp only [h0, if_false, if_true, Rd.run, hat]
  rw [if_pos ⟨trivial, by omega, h4, h5⟩]
  unfold appendM
  simp only
  rw [if_neg (by omega), if_pos (by simp)]
  simp [Rd.run]
def appN (ti : TI) (n i st l : Nat) (new : List (List V)) (np : Bool) (h : Heap) (tr : List Nat) (x : Option Ob) : Option ((V × Upd) × List Nat) := match x with
  | some o => (appendR ti n (.ms i st 0 l none) new np).run (Heap.put [] i (some o)) tr
  | none => none
theorem append_many {ti : TI} {n i st l : Nat} {new : List (List V)} {np : Bool} {h : Heap} {tr : List Nat} (h0 : new.length ≠ 0) : (appendR ti n (.ms i st 0 l none) new np).run h tr = appN ti n i st l new np h tr (h.at? i) := by
  unfold appN
  by_cases hst : st = ti.size
  · cases ho : h.at? i with
    | none =>
      unfold appendR
      simp only [h0, if_false, hst, if_true, Rd.run, ho]
    | some o =>
      have hp : Heap.at? (Heap.put [] i (some o)) i = some o := by rw [at?_put, if_pos rfl]
      unfold appendR
      simp only [h0, if_false, hst, if_true, Rd.run, ho, hp]
      cases o with
      | mp es p => rfl
      | buf st' rows frz pure =>
        simp only
        split
        · unfold appendM
          simp only
          split
          · split <;> rfl
          · split <;> rfl
        · rfl
  · unfold appendR
    simp only [h0, if_false, hst]
    cases h.at? i with
    | none => simp [Rd.run]
    | some o => simp [Rd.run]
theorem appN_some {ti : TI} {n i st l : Nat} {new : List (List V)} {np : Bool} {h : Heap} {tr : List Nat} {st' : Nat} {rows : List (List V)} {frz pure : Bool} (h0 : new.length ≠ 0)
    (h1 : st = ti.size) (h2 : st' = ti.size) (h3 : l = rows.length) (h4 : (l + new.length) * ti.bytes ≤ 140737488355328) (h5 : l + new.length ≤ 140737488355328) :
    appN ti n i st l new np h tr (some (.buf st' rows frz pure)) = some ((.ms n st 0 (l + new.length) none, [(i, none), (n, some (.buf st (rows ++ new) frz (pure && np)))]), i :: tr) :=
  append_more (by rw [at?_put, if_pos rfl]) h0 h1 h2 h3 h4 h5
theorem append_none {ti : TI} {n i st o l : Nat} {c : Option Nat} {np : Bool} : appendR ti n (.ms i st o l c) [] np = .pure (.ms i st o l c, []) := by
  unfold appendR
  simp
end Go.Proofs.YtoggbcckkjfkhaaGreat.R
/- Structs compared. -/
namespace Go.Proofs.YtoggbcckkjfkhaaGreat.R
open Go
set_option linter.unusedSimpArgs false
theorem eqV4 (x y : Bool) : eqV T 4 (.bool x) (.bool y) = some (x == y) := by simp [eqV, T_4]
theorem eq23 (x y : S23) : eqV T 23 (.agg [.int .i64 x.f0, .int .i64 x.f1, .int .i64 x.f2, .int .i64 x.f3, .int .i64 x.f4, .int .i64 x.f5, .int .i64 x.f6]) (.agg [.int .i64 y.f0, .int .i64 y.f1, .int .i64 y.f2, .int .i64 y.f3, .int .i64 y.f4, .int .i64 y.f5, .int .i64 y.f6]) = some (decide (x = y)) := by
  obtain ⟨a0, a1, a2, a3, a4, a5, a6⟩ := x
  obtain ⟨b0, b1, b2, b3, b4, b5, b6⟩ := y
  by_cases h0 : a0 = b0
  case neg => simp [eqV, eqAgg, eqKind, ba_beq, T_3, T_23, h0]
  by_cases h1 : a1 = b1
  case neg => simp [eqV, eqAgg, eqKind, ba_beq, T_3, T_23, h0, h1]
  by_cases h2 : a2 = b2
  case neg => simp [eqV, eqAgg, eqKind, ba_beq, T_3, T_23, h0, h1, h2]
  by_cases h3 : a3 = b3
  case neg => simp [eqV, eqAgg, eqKind, ba_beq, T_3, T_23, h0, h1, h2, h3]
  by_cases h4 : a4 = b4
  case neg => simp [eqV, eqAgg, eqKind, ba_beq, T_3, T_23, h0, h1, h2, h3, h4]
  by_cases h5 : a5 = b5
  case neg => simp [eqV, eqAgg, eqKind, ba_beq, T_3, T_23, h0, h1, h2, h3, h4, h5]
  by_cases h6 : a6 = b6
  case neg => simp [eqV, eqAgg, eqKind, ba_beq, T_3, T_23, h0, h1, h2, h3, h4, h5, h6]
  simp [eqV, eqAgg, eqKind, ba_beq, T_3, T_23, h0, h1, h2, h3, h4, h5, h6]
theorem eq96 (x y : S96) : eqV T 96 (.agg [.int .u32 x.f0, .int .u32 x.f1]) (.agg [.int .u32 y.f0, .int .u32 y.f1]) = some (decide (x = y)) := by
  obtain ⟨a0, a1⟩ := x
  obtain ⟨b0, b1⟩ := y
  by_cases h0 : a0 = b0
  case neg => simp [eqV, eqAgg, eqKind, ba_beq, T_54, T_96, h0]
  by_cases h1 : a1 = b1
  case neg => simp [eqV, eqAgg, eqKind, ba_beq, T_54, T_96, h0, h1]
  simp [eqV, eqAgg, eqKind, ba_beq, T_54, T_96, h0, h1]
theorem eq57 (x y : S57) : eqV T 57 (.agg [.str x.f0, .int .u32 x.f1, .int .u16 x.f2]) (.agg [.str y.f0, .int .u32 y.f1, .int .u16 y.f2]) = some (decide (x = y)) := by
  obtain ⟨a0, a1, a2⟩ := x
  obtain ⟨b0, b1, b2⟩ := y
  by_cases h0 : a0 = b0
  case neg => simp [eqV, eqAgg, eqKind, ba_beq, T_9, T_54, T_55, T_57, h0]
  by_cases h1 : a1 = b1
  case neg => simp [eqV, eqAgg, eqKind, ba_beq, T_9, T_54, T_55, T_57, h0, h1]
  by_cases h2 : a2 = b2
  case neg => simp [eqV, eqAgg, eqKind, ba_beq, T_9, T_54, T_55, T_57, h0, h1, h2]
  simp [eqV, eqAgg, eqKind, ba_beq, T_9, T_54, T_55, T_57, h0, h1, h2]
theorem eq30 (x y : S30) : eqV T 30 (.agg [.int .u8 x.f0, .str x.f1, .str x.f2, .str x.f3, .str x.f4, .str x.f5]) (.agg [.int .u8 y.f0, .str y.f1, .str y.f2, .str y.f3, .str y.f4, .str y.f5]) = some (decide (x = y)) := by
  obtain ⟨a0, a1, a2, a3, a4, a5⟩ := x
  obtain ⟨b0, b1, b2, b3, b4, b5⟩ := y
  by_cases h0 : a0 = b0
  case neg => simp [eqV, eqAgg, eqKind, ba_beq, T_5, T_9, T_30, h0]
  by_cases h1 : a1 = b1
  case neg => simp [eqV, eqAgg, eqKind, ba_beq, T_5, T_9, T_30, h0, h1]
  by_cases h2 : a2 = b2
  case neg => simp [eqV, eqAgg, eqKind, ba_beq, T_5, T_9, T_30, h0, h1, h2]
  by_cases h3 : a3 = b3
  case neg => simp [eqV, eqAgg, eqKind, ba_beq, T_5, T_9, T_30, h0, h1, h2, h3]
  by_cases h4 : a4 = b4
  case neg => simp [eqV, eqAgg, eqKind, ba_beq, T_5, T_9, T_30, h0, h1, h2, h3, h4]
  by_cases h5 : a5 = b5
  case neg => simp [eqV, eqAgg, eqKind, ba_beq, T_5, T_9, T_30, h0, h1, h2, h3, h4, h5]
  simp [eqV, eqAgg, eqKind, ba_beq, T_5, T_9, T_30, h0, h1, h2, h3, h4, h5]
end Go.Proofs.YtoggbcckkjfkhaaGreat.R
