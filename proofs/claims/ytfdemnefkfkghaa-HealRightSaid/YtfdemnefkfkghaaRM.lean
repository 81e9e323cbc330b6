/- Code: loops, with what stays at their heads. -/
import Derived.Test.YtfdemnefkfkghaaRL
namespace Go.Proofs.Ytfdemnefkfkghaa.R
set_option linter.unusedVariables false
set_option linter.unusedSimpArgs false
open Go Go.RowKit

theorem lk_live (e : Env) : ∀ (ts : List Nat) (t : Nat), lk (live e ts) t = lk e t ∨ lk (live e ts) t = .undef
  | [], t => .inr rfl
  | x :: r, t => by
    simp only [live]
    rw [lk_cons]
    by_cases h : x = t
    · rw [if_pos h, h]; exact .inl rfl
    · rw [if_neg h]; exact lk_live e r t

theorem reEnv_get {f : Nat → Option Nat} : ∀ {e e' : Env}, reEnv f e = some e' → ∀ t, V.re f (lk e t) = some (lk e' t)
  | [], e', h, t => by
    simp only [reEnv, Option.some.injEq] at h
    subst h
    rfl
  | (x, v) :: r, e', h, t => by
    simp only [reEnv, Option.bind_eq_some_iff, Option.map_eq_some_iff] at h
    obtain ⟨v', h1, r', h2, rfl⟩ := h
    rw [lk_cons, lk_cons]
    by_cases e1 : x = t
    · rw [if_pos e1, if_pos e1]; exact h1
    · rw [if_neg e1, if_neg e1]; exact reEnv_get h2 t

theorem at?_snoc (h : Heap) (x : Option Ob) (i : Nat) : Heap.at? (h ++ [x]) i = if i = h.length then x else h.at? i := by
  rw [at?_eq, at?_eq]
  by_cases e : i = h.length
  · rw [if_pos e, e]; simp
  · rw [if_neg e]
    by_cases hl : i < h.length
    · rw [List.getElem?_append_left hl]
    · rw [List.getElem?_append_right (by omega), List.getElem?_eq_none (by simp; omega), List.getElem?_eq_none (by omega)]

section
variable {P : Program} {cx : Cx} {B : Base} {β0 : Place} {ntmps keep : Nat}

/-- Numbered anew. -/
theorem gc_ok (hk : ∀ i, keep ≤ i → β0 i = none) {ts : List Nat} {s s1 : St} {a : Act} {w : World} {β : Place} {F : Froz} (h : gc keep ts s = some s1) (hS : Sim B β0 ntmps s a w β F) : ∃ β1, Sim B β0 ntmps s1 a w β1 F := by
  unfold gc at h
  simp only at h
  generalize hl : reach keep s.heap 4096 (upto keep (envIds (live s.env ts))) [] = l at h
  have hnd : l.Nodup := by rw [← hl]; exact reach_nodup _ _ _ _ _ (by simp)
  split at h
  · rename_i hb
    simp only [Option.bind_eq_some_iff, Option.map_eq_some_iff] at h
    obtain ⟨e1, he, h1, hh, rfl⟩ := h
    obtain ⟨p1, p2⟩ := pull_get hh
    have hβ : ∀ i j, idx l i = some j → (fun j => (l[j]?).bind β) j = β i := fun i j hj => by simp [idx_get hj]
    refine ⟨fun j => (l[j]?).bind β, ⟨hS.inv.renum (fun j => l[j]?) (idx l) (fun i j h => idx_get h) (fun j k i h1 h2 => nodup_at hnd h1 h2) p2, fun t => ?_, hS.defers, hS.size, fun i hi => ?_, ?_⟩⟩
    · have := reEnv_get he t
      have hr : Rel F (cl w) β (lk (live s.env ts) t) (a.tmps.getD t undef) := by
        rcases lk_live s.env ts t with h | h
        · rw [h]; exact hS.env t
        · rw [h]; exact .undef _ _
      exact hr.re hβ this
    · simp only at hi
      have : l[i]? = none := by rw [List.getElem?_eq_none]; omega
      simp [this]
    · refine ⟨fun i lc hi => ?_, hS.ext.froz⟩
      have hlt : i < keep := by
        rcases Nat.lt_or_ge i keep with h | h
        · exact h
        · rw [hk i h] at hi; cases hi
      have := begins_get hb i hlt
      rw [Nat.zero_add] at this
      simp only [this, Option.bind_some]
      exact hS.ext.place i lc hi
  · cases h

/-- An empty object that is nowhere yet. -/
theorem Inv.addNil {β : Place} {F : Froz} {H : Heap} {w : World} (hI : Inv B β F H w) {n : Nat} (hn : β n = none) (hlen : n = H.length) (st : Nat) : Inv B (β.set n .nil) F (H ++ [some (.buf st [] false true)]) w := by
  have hx : Ext β (β.set n .nil) F F w w := ⟨set_ext hn, fun _ _ h => ⟨h, rfl⟩⟩
  have old : ∀ i lc b, (β.set n .nil) i = some lc → lc.block = some b → β i = some lc ∧ i ≠ n := fun i lc b hi hb => by
    unfold Place.set at hi
    split at hi
    · cases hi; cases hb
    · rename_i e; exact ⟨hi, e⟩
  refine ⟨hI.os, hI.tape, hI.output, hI.size, hI.keep, hI.kin, ?_, ?_, ?_, hI.froz, ?_⟩
  · intro i j oi oj l l' b hi hj hl hl' hb hb'
    obtain ⟨a1, a2⟩ := old i l b hl hb
    obtain ⟨c1, c2⟩ := old j l' b hl' hb'
    rw [at?_snoc, if_neg (by omega)] at hi hj
    exact hI.inj i j oi oj l l' b hi hj a1 c1 hb hb'
  · intro i lc b hl hb
    exact hI.fresh i lc b (old i lc b hl hb).1 hb
  · intro i o ho
    rw [at?_snoc] at ho
    split at ho
    · rename_i e
      cases ho
      exact ⟨.nil, by unfold Place.set; rw [if_pos (by omega)], .nil _ _ _⟩
    · obtain ⟨lc, h1, h2⟩ := hI.obs i o ho
      exact ⟨lc, hx.place _ _ h1, h2.keep hx fun _ _ => rfl⟩
  · intro i b st' C st2 rows frz pure hl ho o hf
    obtain ⟨a1, a2⟩ := old i _ b hl rfl
    rw [at?_snoc, if_neg (by omega)] at ho
    exact hI.prot i b st' C st2 rows frz pure a1 ho o hf

theorem thaw_ok : ∀ {l : List (Nat × Option Nat × Nat)} {s : St} {a : Act} {w : World} {β : Place} {F : Froz}, Sim B β0 ntmps s a w β F → ∃ β1, Sim B β0 ntmps (thaw l s) a w β1 F
  | [], s, a, w, β, F, hS => ⟨β, hS⟩
  | (t, none, st) :: r, s, a, w, β, F, hS => by
    simp only [thaw]
    split
    · rename_i hlk
      have hn := hS.fresh s.heap.length (Nat.le_refl _)
      have hx : Ext β (β.set s.heap.length .nil) F F w w := ⟨set_ext hn, fun _ _ h => ⟨h, rfl⟩⟩
      refine thaw_ok (β := β.set s.heap.length .nil) ⟨hS.inv.addNil hn rfl st, fun t' => ?_, hS.defers, hS.size, fun i hi => ?_, hS.ext.trans hx⟩
      · simp only
        rw [lk_cons]
        by_cases e : t = t'
        · subst e
          rw [if_pos rfl]
          have := hS.env t
          rw [hlk] at this
          generalize a.tmps.getD t undef = cv at this
          cases this
          exact .ms0 _ _ _ _ (by simp [Place.set]) (by simp)
        · rw [if_neg e]
          exact hx.rel (hS.env t')
      · simp only [List.length_append, List.length_cons, List.length_nil] at hi
        unfold Place.set
        rw [if_neg (by omega)]
        exact hS.fresh i (by omega)
    · exact thaw_ok hS
  | (t, some o, st) :: r, s, a, w, β, F, hS => by
    simp only [thaw]
    split
    · rename_i i hlk
      split
      · rename_i st' row p hob
        split
        · rename_i hro
          have hn := hS.fresh s.heap.length (Nat.le_refl _)
          have hx : Ext β (β.set s.heap.length .nil) F F w w := ⟨set_ext hn, fun _ _ h => ⟨h, rfl⟩⟩
          obtain ⟨lc, hl, hobr⟩ := hS.inv.obs i _ hob
          have hne : i ≠ s.heap.length := by have := at?_lt hob; omega
          have hI1 := hS.inv.addNil hn rfl st
          have hl1 : (β.set s.heap.length .nil) i = some lc := hx.place _ _ hl
          -- the row with the empty object's slice in it
          have hI2 : Inv B (β.set s.heap.length .nil) F ((s.heap.put i (some (Ob.buf st' [row.set o (.ms s.heap.length st 0 0 none)] false false))) ++ [some (Ob.buf st [] false true)]) w := by
            have e : ∀ j, Heap.at? ((s.heap.put i (some (Ob.buf st' [row.set o (.ms s.heap.length st 0 0 none)] false false))) ++ [some (Ob.buf st [] false true)]) j = ((s.heap ++ [some (Ob.buf st [] false true)]).put i (some (Ob.buf st' [row.set o (.ms s.heap.length st 0 0 none)] false false))).at? j := fun j => by
              have hpl : (s.heap.put i (some (Ob.buf st' [row.set o (.ms s.heap.length st 0 0 none)] false false))).length = s.heap.length := by
                have key : ∀ (h : Heap) (i : Nat) (x : Option Ob), i < h.length → (h.put i x).length = h.length := by
                  intro h
                  induction h with
                  | nil => intro i x hi; simp at hi
                  | cons y h ih =>
                    intro i x hi
                    cases i with
                    | zero => rfl
                    | succ i => simp only [Heap.put, List.length_cons]; rw [ih i x (by simpa using hi)]
                exact key _ _ _ (at?_lt hob)
              rw [at?_snoc, hpl, at?_put, at?_put, at?_snoc]
              by_cases e1 : j = s.heap.length
              · rw [if_pos e1, if_neg (by omega), if_pos e1]
              · rw [if_neg e1, if_neg e1]
            refine Inv.congr ?_ e
            have hob1 : Heap.at? (s.heap ++ [some (.buf st [] false true)]) i = some (.buf st' [row] false p) := by rw [at?_snoc, if_neg hne]; exact hob
            cases hobr with
            | buf b _ C _ _ _ hst ht hC hlen hcell hpure hr =>
              have ht2 := hI1.turn (w' := w) hl1 hob1 rfl (fun _ _ => rfl) rfl rfl rfl rfl (fun _ _ => rfl) (ob := .buf st' [row.set o (.ms s.heap.length st 0 0 none)] false false) (fun hx' => by
                refine .buf b st' C _ _ _ hst ht (by simpa using hC) (fun row' hm => ?_) (fun row' hm v hv => ?_) (by simp) (fun r j row' v hr' hv => ?_)
                · simp only [List.mem_singleton] at hm
                  subst hm
                  rw [List.length_set]
                  exact hlen row (.head _)
                · simp only [List.mem_singleton] at hm
                  subst hm
                  rcases List.mem_or_eq_of_mem_set hv with h | rfl
                  · exact hcell row (.head _) v h
                  · rfl
                · have hr0 : r = 0 := by have := (List.getElem?_eq_some_iff.1 hr').1; simp at this; omega
                  subst hr0
                  simp only [List.getElem?_cons_zero, Option.some.injEq] at hr'
                  subst hr'
                  rw [List.getElem?_set] at hv
                  by_cases e1 : o = j
                  · subst e1
                    have hlt := (List.getElem?_eq_some_iff.1 hro).1
                    rw [if_pos rfl, if_pos hlt] at hv
                    cases hv
                    obtain ⟨cv, h1, h2⟩ := hr 0 o row _ rfl hro
                    refine ⟨cv, h1, ?_⟩
                    cases h2
                    exact .ms0 _ _ _ _ (by simp [Place.set]) (by simp)
                  · rw [if_neg e1] at hv
                    obtain ⟨cv, h1, h2⟩ := hr 0 j row v rfl hv
                    exact ⟨cv, h1, hx.rel h2⟩) (fun st2 rows2 frz2 pure2 e1 q hf => by
                cases e1
                have := (hS.inv.prot i b st' C _ _ _ _ hl hob q hf).1
                cases this)
              exact ht2.1
          refine thaw_ok (β := β.set s.heap.length .nil) ⟨hI2, fun t' => hx.rel (hS.env t'), hS.defers, hS.size, fun j hj => ?_, hS.ext.trans hx⟩
          have := (put_len s.heap i (some (Ob.buf st' [row.set o (.ms s.heap.length st 0 0 none)] false false))).1
          simp only [List.length_append, List.length_cons, List.length_nil] at hj
          unfold Place.set
          rw [if_neg (by omega)]
          exact hS.fresh j (by omega)
        · exact thaw_ok hS
      · exact thaw_ok hS
    · exact thaw_ok hS

theorem head_ok (hk : ∀ i, keep ≤ i → β0 i = none) {g : Option AGc} {s s1 : St} {a : Act} {w : World} {β : Place} {F : Froz} (h : head keep g s = some s1) (hS : Sim B β0 ntmps s a w β F) : ∃ β1, Sim B β0 ntmps s1 a w β1 F := by
  unfold head at h
  split at h
  · cases h; exact ⟨β, hS⟩
  · obtain ⟨β1, hS1⟩ := thaw_ok (l := (‹AGc›).thaw) hS
    exact gc_ok hk h hS1

def exOf : Ex → Exit
  | .normal => .normal
  | .exit id => .exit id
  | .ret => .ret

/-- What is asked of code: its regions that draw are as they should be. -/
def codeOK : Code → Bool
  | .region _ ops draw => !draw || drawOK ops
  | .seq a b => codeOK a && codeOK b
  | .cond _ a b => codeOK a && codeOK b
  | .block _ c => codeOK c
  | .loop c => codeOK c
  | _ => true

theorem code_ok (hcx : CxOK P cx) (hm : P.follows .mixedOrders = true) (hk : ∀ i, keep ≤ i → β0 i = none) {R : Nat} {gcs : List AGc} : ∀ (c : Code) (id : Option Nat) (s : St) (ex : Ex) (s' : St) (a : Act) (w : World) (β : Place) (F : Froz) (Q : Exit → Act → World → Prop), codeOK c = true →
    acode cx ntmps keep R gcs c id s = some (ex, s') → Sim B β0 ntmps s a w β F → (∀ a' w' β' F', Sim B β0 ntmps s' a' w' β' F' → Q (exOf ex) a' w') → c.wp P Q a w
  | .skip, id, s, ex, s', a, w, β, F, Q, hc, h, hS, hQ => by
    simp only [acode, Option.some.injEq, Prod.mk.injEq] at h
    obtain ⟨rfl, rfl⟩ := h
    exact wp_skip (hQ _ _ _ _ hS)
  | .region rid ops draw, id, s, ex, s', a, w, β, F, Q, hc, h, hS, hQ => by
    simp only [acode, aregion, Option.map_eq_some_iff, Prod.mk.injEq] at h
    obtain ⟨s1, h1, rfl, rfl⟩ := h
    cases draw with
    | false =>
      simp only [Bool.false_eq_true, if_false] at h1
      refine wp_region ?_
      have := ops_ok hcx 0 ops.toList s s1 a w β F (by simp) h1 hS (Q := Q) fun a' w' β' F' hS' => hQ a' w' β' F' hS'
      simpa using this
    | true =>
      simp only [if_true] at h1
      exact draw_ok hcx hm (by simpa [codeOK] using hc) h1 hS fun a' w' β' F' hS' => hQ a' w' β' F' hS'
  | .seq x y, id, s, ex, s', a, w, β, F, Q, hc, h, hS, hQ => by
    simp only [codeOK, Bool.and_eq_true] at hc
    simp only [acode, Option.bind_eq_some_iff] at h
    obtain ⟨⟨ex1, s1⟩, h1, h2⟩ := h
    refine wp_seq (code_ok hcx hm hk x none s ex1 s1 a w β F _ hc.1 h1 hS fun a' w' β' F' hS' => ?_)
    cases ex1 with
    | normal => exact code_ok hcx hm hk y none s1 ex s' a' w' β' F' Q hc.2 h2 hS' hQ
    | exit i =>
      simp only [Option.some.injEq, Prod.mk.injEq] at h2
      obtain ⟨rfl, rfl⟩ := h2
      exact hQ _ _ _ _ hS'
    | ret =>
      simp only [Option.some.injEq, Prod.mk.injEq] at h2
      obtain ⟨rfl, rfl⟩ := h2
      exact hQ _ _ _ _ hS'
  | .cond c x y, id, s, ex, s', a, w, β, F, Q, hc, h, hS, hQ => by
    simp only [codeOK, Bool.and_eq_true] at hc
    simp only [acode] at h
    have hr := ev_rel hS.env c
    split at h
    · rename_i hev
      rw [hev] at hr
      refine wp_cond (t := true) (by generalize a.eval c = cv at hr; cases hr; rfl) ?_
      exact code_ok hcx hm hk x none s ex s' a w β F Q hc.1 h hS hQ
    · rename_i hev
      rw [hev] at hr
      refine wp_cond (t := false) (by generalize a.eval c = cv at hr; cases hr; rfl) ?_
      exact code_ok hcx hm hk y none s ex s' a w β F Q hc.2 h hS hQ
    · cases h
  | .block bid c, id, s, ex, s', a, w, β, F, Q, hc, h, hS, hQ => by
    simp only [acode, Option.map_eq_some_iff] at h
    obtain ⟨⟨ex1, s1⟩, h1, h2⟩ := h
    refine wp_block (code_ok hcx hm hk c (some bid) s ex1 s1 a w β F _ (by simpa [codeOK] using hc) h1 hS fun a' w' β' F' hS' => ?_)
    cases ex1 with
    | normal =>
      simp only [Prod.mk.injEq] at h2
      obtain ⟨rfl, rfl⟩ := h2
      exact hQ _ _ _ _ hS'
    | exit i =>
      simp only at h2
      by_cases e : i = bid
      · rw [if_pos e] at h2
        simp only [Prod.mk.injEq] at h2
        obtain ⟨rfl, rfl⟩ := h2
        simp only [exOf, Exit.inBlock, e, if_true]
        exact hQ _ _ _ _ hS'
      · rw [if_neg e] at h2
        simp only [Prod.mk.injEq] at h2
        obtain ⟨rfl, rfl⟩ := h2
        simp only [exOf, Exit.inBlock, e, if_false]
        exact hQ _ _ _ _ hS'
    | ret =>
      simp only [Prod.mk.injEq] at h2
      obtain ⟨rfl, rfl⟩ := h2
      exact hQ _ _ _ _ hS'
  | .loop c, id, s, ex, s', a, w, β, F, Q, hc, h, hS, hQ => by
    simp only [acode] at h
    intro b k cs
    have key : ∀ (n : Nat) (s : St) (a : Act) (w : World) (β : Place) (F : Froz), rounds (fun s => (head keep (gcOf gcs id) s).bind fun s => acode cx ntmps keep R gcs c none s) n s = some (ex, s') → Sim B β0 ntmps s a w β F →
        ∃ e a' w', Q e a' w' ∧ Arrives P (lone (b.at a (.code c :: .inLoop c :: k)) cs w) b k cs e a' w' := by
      intro n
      induction n with
      | zero => intro s a w β F h _; simp [rounds] at h
      | succ n ih =>
        intro s a w β F h hS
        unfold rounds at h
        cases hb : (head keep (gcOf gcs id) s).bind fun s => acode cx ntmps keep R gcs c none s with
        | none => simp [hb] at h
        | some r =>
          obtain ⟨ex1, s1⟩ := r
          simp only [hb] at h
          rw [Option.bind_eq_some_iff] at hb
          obtain ⟨s0, hb1, hb2⟩ := hb
          obtain ⟨β1, hS1⟩ := head_ok hk hb1 hS
          obtain ⟨e, a1, w1, ⟨β', F', hS', rfl⟩, harr⟩ := code_ok hcx hm hk c none s0 ex1 s1 a w β1 F (fun e a' w' => ∃ β' F', Sim B β0 ntmps s1 a' w' β' F' ∧ e = exOf ex1) (by simpa [codeOK] using hc) hb2 hS1 (fun a' w' β' F' h => ⟨β', F', h, rfl⟩) b (.inLoop c :: k) cs
          cases ex1 with
          | normal =>
            simp only at h
            obtain ⟨e₂, a₂, w₂, hq₂, harr₂⟩ := ih s1 a1 w1 β' F' h hS'
            exact ⟨e₂, a₂, w₂, hq₂, .of_steps (Steps.trans harr (.one step_inLoop)) harr₂⟩
          | exit i =>
            simp only [Option.some.injEq, Prod.mk.injEq] at h
            obtain ⟨rfl, rfl⟩ := h
            exact ⟨_, a1, w1, hQ _ _ _ _ hS', .pass (x := .inLoop c) rfl (fun _ _ => .inl (by simp [exOf])) harr⟩
          | ret =>
            simp only [Option.some.injEq, Prod.mk.injEq] at h
            obtain ⟨rfl, rfl⟩ := h
            exact ⟨_, a1, w1, hQ _ _ _ _ hS', .pass (x := .inLoop c) rfl (fun _ _ => .inl (by simp [exOf])) harr⟩
    obtain ⟨e, a', w', hq, harr⟩ := key R s a w β F h hS
    exact ⟨e, a', w', hq, .of_steps (.one step_loop) harr⟩
  | .exit i, id, s, ex, s', a, w, β, F, Q, hc, h, hS, hQ => by
    simp only [acode, Option.some.injEq, Prod.mk.injEq] at h
    obtain ⟨rfl, rfl⟩ := h
    exact wp_exit (hQ _ _ _ _ hS)
  | .ret, id, s, ex, s', a, w, β, F, Q, hc, h, hS, hQ => by
    simp only [acode, Option.some.injEq, Prod.mk.injEq] at h
    obtain ⟨rfl, rfl⟩ := h
    exact wp_ret (hQ _ _ _ _ hS)
  | .rangeFunc .., id, s, ex, s', a, w, β, F, Q, hc, h, hS, hQ | .scope .., id, s, ex, s', a, w, β, F, Q, hc, h, hS, hQ | .label .., id, s, ex, s', a, w, β, F, Q, hc, h, hS, hQ | .goto .., id, s, ex, s', a, w, β, F, Q, hc, h, hS, hQ | .refuse .., id, s, ex, s', a, w, β, F, Q, hc, h, hS, hQ => by
    simp [acode] at h
end

end Go.Proofs.Ytfdemnefkfkghaa.R
