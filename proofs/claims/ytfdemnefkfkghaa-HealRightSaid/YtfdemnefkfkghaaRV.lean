/- No bounds any more: what a function answers once the bounds on rounds and depth are great enough. -/
import Derived.Test.YtfdemnefkfkghaaRN
namespace Go.Proofs.Ytfdemnefkfkghaa.R
set_option linter.unusedVariables false
set_option linter.unusedSimpArgs false
open Go

section
variable {α : Type}

/-- What becomes of a slice hangs on nothing that comes behind it. -/
def MsLeaf (H : Heap) (ms : Nat → Nat → Nat → Nat → (V → Upd → Rd α) → Rd α) : Prop := ∀ (i st o n : Nat) (l : List Nat), (∀ k : V → Upd → Rd α, (ms i st o n k).run H l = none) ∨ ∃ x' u l1, ∀ k : V → Upd → Rd α, (ms i st o n k).run H l = (k x' u).run H l1
mutual
theorem frzG_leaf (H : Heap) {ms : Nat → Nat → Nat → Nat → (V → Upd → Rd α) → Rd α} (hms : MsLeaf H ms) : ∀ (x : V) (l : List Nat), (∀ k : V → Upd → Rd α, (frzG ms x k).run H l = none) ∨ ∃ x' u l1, ∀ k : V → Upd → Rd α, (frzG ms x k).run H l = (k x' u).run H l1
  | .ms i st o n c, l => by
    simp only [frzG]
    exact hms i st o n l
  | .nils, l => .inr ⟨_, _, _, fun k => by simp only [frzG]; rfl⟩
  | .agg cs, l => by
    rcases frzGAll_leaf H hms cs l with h | ⟨x', u, l1, h⟩
    · exact .inl fun k => by simp only [frzG]; exact h _
    · exact .inr ⟨.agg x', u, l1, fun k => by simp only [frzG]; exact h _⟩
  | .tup cs, l => by
    rcases frzGAll_leaf H hms cs l with h | ⟨x', u, l1, h⟩
    · exact .inl fun k => by simp only [frzG]; exact h _
    · exact .inr ⟨.tup x', u, l1, fun k => by simp only [frzG]; exact h _⟩
  | .undef, l | .bool _, l | .int _ _, l | .str _, l | .fz _, l | .nilp, l | .ptr _ _ _, l | .el _ _, l | .nilm, l | .map _, l | .nilf, l | .clo _ _, l | .nili, l | .ifc _ _, l => .inr ⟨_, _, _, fun k => by simp only [frzG]; rfl⟩
theorem frzGAll_leaf (H : Heap) {ms : Nat → Nat → Nat → Nat → (V → Upd → Rd α) → Rd α} (hms : MsLeaf H ms) : ∀ (xs : List V) (l : List Nat), (∀ k : List V → Upd → Rd α, (frzGAll ms xs k).run H l = none) ∨ ∃ x' u l1, ∀ k : List V → Upd → Rd α, (frzGAll ms xs k).run H l = (k x' u).run H l1
  | [], l => .inr ⟨_, _, _, fun k => by simp only [frzGAll]; rfl⟩
  | x :: r, l => by
    rcases frzG_leaf H hms x l with h | ⟨x', u, l1, h⟩
    · exact .inl fun k => by simp only [frzGAll]; exact h _
    · rcases frzGAll_leaf H hms r l1 with h2 | ⟨r', u', l2, h2⟩
      · exact .inl fun k => by simp only [frzGAll]; rw [h]; exact h2 _
      · exact .inr ⟨x' :: r', u ++ u', l2, fun k => by simp only [frzGAll]; rw [h]; exact h2 _⟩
end
theorem frzGRows_leaf (H : Heap) {ms : Nat → Nat → Nat → Nat → (V → Upd → Rd α) → Rd α} (hms : MsLeaf H ms) : ∀ (xs : List (List V)) (l : List Nat), (∀ k : List (List V) → Upd → Rd α, (frzGRows ms xs k).run H l = none) ∨ ∃ x' u l1, ∀ k : List (List V) → Upd → Rd α, (frzGRows ms xs k).run H l = (k x' u).run H l1
  | [], l => .inr ⟨_, _, _, fun k => by simp only [frzGRows]; rfl⟩
  | x :: r, l => by
    rcases frzGAll_leaf H hms x l with h | ⟨x', u, l1, h⟩
    · exact .inl fun k => by simp only [frzGRows]; exact h _
    · rcases frzGRows_leaf H hms r l1 with h2 | ⟨r', u', l2, h2⟩
      · exact .inl fun k => by simp only [frzGRows]; rw [h]; exact h2 _
      · exact .inr ⟨x' :: r', u ++ u', l2, fun k => by simp only [frzGRows]; rw [h]; exact h2 _⟩
theorem msUp_leaf (H : Heap) {ms : Nat → Nat → Nat → Nat → (V → Upd → Rd α) → Rd α} (hms : MsLeaf H ms) : MsLeaf H (msUp ms) := fun i st o n l => by
  cases h : H.at? i with
  | none => exact .inl fun k => by simp [msUp, Rd.run, h]
  | some ob =>
    cases ob with
    | mp es p => exact .inl fun k => by simp [msUp, Rd.run, h]
    | buf st' rows f p =>
      cases p with
      | false =>
        by_cases hc : st' = st ∧ o + n ≤ rows.length
        · rcases frzGRows_leaf H hms rows (i :: l) with h2 | ⟨rows', u, l1, h2⟩
          · exact .inl fun k => by simp only [msUp, Rd.run, h, if_pos hc]; exact h2 _
          · by_cases ha : (rows'.all fun r => r.all fun v => v.isCell && !v.hasIds) = true
            · exact .inr ⟨_, _, _, fun k => by simp only [msUp, Rd.run, h, if_pos hc]; rw [h2, if_pos ha]⟩
            · exact .inl fun k => by simp only [msUp, Rd.run, h, if_pos hc]; rw [h2, if_neg ha]; rfl
        · exact .inl fun k => by simp [msUp, Rd.run, h, if_neg hc]
      | true =>
        by_cases hc : st' = st ∧ o + n ≤ rows.length
        · exact .inr ⟨_, _, _, fun k => by simp only [msUp, Rd.run, h, if_pos hc]; rfl⟩
        · exact .inl fun k => by simp [msUp, Rd.run, h, if_neg hc]
theorem ms2_leaf (H : Heap) : MsLeaf (α := α) H ms2 := msUp_leaf H (msUp_leaf H (msUp_leaf H fun _ _ _ _ _ => .inl fun _ => rfl))
theorem frz_leaf (H : Heap) (x : V) (l : List Nat) : (∀ k : V → Upd → Rd α, (frz x k).run H l = none) ∨ ∃ x' u l1, ∀ k : V → Upd → Rd α, (frz x k).run H l = (k x' u).run H l1 := frzG_leaf H (ms2_leaf H) x l

theorem frzArgs_leaf (H : Heap) : ∀ (xs : List V) (m : List Bool) (l : List Nat), (∀ k : List V → Upd → Rd α, (frzArgs xs m k).run H l = none) ∨ ∃ x' u l1, ∀ k : List V → Upd → Rd α, (frzArgs xs m k).run H l = (k x' u).run H l1
  | [], m, l => .inr ⟨_, _, _, fun k => by simp only [frzArgs]; rfl⟩
  | x :: r, m, l => by
    have keep : ∀ m', (∀ k : List V → Upd → Rd α, (frzArgs (x :: r) m k) = frzArgs r m' fun r u' => k (x :: r) u') → (∀ k : List V → Upd → Rd α, (frzArgs (x :: r) m k).run H l = none) ∨ ∃ x' u l1, ∀ k : List V → Upd → Rd α, (frzArgs (x :: r) m k).run H l = (k x' u).run H l1 := by
      intro m' hm
      rcases frzArgs_leaf H r m' l with h2 | ⟨r', u', l2, h2⟩
      · exact .inl fun k => by rw [hm]; exact h2 _
      · exact .inr ⟨x :: r', u', l2, fun k => by rw [hm]; exact h2 _⟩
    cases m with
    | nil => exact keep (List.tail []) fun k => by simp only [frzArgs]
    | cons b m =>
      cases b with
      | false => exact keep (List.tail (false :: m)) fun k => by simp only [frzArgs]
      | true =>
        rcases frz_leaf H x l with h | ⟨x', u, l1, h⟩
        · exact .inl fun k => by simp only [frzArgs]; exact h _
        · rcases frzArgs_leaf H r m l1 with h2 | ⟨r', u', l2, h2⟩
          · exact .inl fun k => by simp only [frzArgs]; rw [h]; exact h2 _
          · exact .inr ⟨x' :: r', u ++ u', l2, fun k => by simp only [frzArgs]; rw [h]; exact h2 _⟩

theorem collect_leaf (H : Heap) : ∀ (n : Nat) (todo : List Nat) (acc : List (Nat × Ob)) (l : List Nat), (∀ k : List (Nat × Ob) → Rd α, (collect n todo acc k).run H l = none) ∨ ∃ obs l1, ∀ k : List (Nat × Ob) → Rd α, (collect n todo acc k).run H l = (k obs).run H l1
  | 0, todo, acc, l => .inl fun k => by simp [collect, Rd.run]
  | n + 1, [], acc, l => .inr ⟨acc, l, fun k => by simp only [collect]⟩
  | n + 1, i :: todo, acc, l => by
    by_cases hc : (acc.map (·.1)).contains i = true
    · rcases collect_leaf H n todo acc l with h | ⟨obs, l1, h⟩
      · exact .inl fun k => by simp only [collect, if_pos hc]; exact h _
      · exact .inr ⟨obs, l1, fun k => by simp only [collect, if_pos hc]; exact h _⟩
    · cases ho : H.at? i with
      | none => exact .inl fun k => by simp [collect, if_neg hc, Rd.run, ho]
      | some o =>
        rcases collect_leaf H n (o.ids ++ todo) (acc ++ [(i, o)]) (i :: l) with h | ⟨obs, l1, h⟩
        · exact .inl fun k => by simp only [collect, if_neg hc, Rd.run, ho]; exact h _
        · exact .inr ⟨obs, l1, fun k => by simp only [collect, if_neg hc, Rd.run, ho]; exact h _⟩
end

/-- A call's answer hangs on what the function answers at one place. -/
theorem with_leaf (H : Heap) (n : Nat) (args : List V) (u : Upd) (obs : List (Nat × Ob)) (l : List Nat) : (∀ fn : Fun, (withR fn n args u obs).run H l = none) ∨ ∃ a hs, ∃ K : V × Heap → Option ((V × Upd) × List Nat), ∀ fn : Fun, (withR fn n args u obs).run H l = (fn a hs).bind K := by
  unfold withR
  simp only
  split
  · split
    · rename_i a hs _ _
      refine .inr ⟨a, hs, fun r => (if (obs.map (·.1)).length ≤ r.2.length then afterR n (obs.map (·.1)) u r.1 r.2 else .fail).run H l, fun fn => ?_⟩
      cases fn a hs with
      | none => rfl
      | some r => rfl
    · exact .inl fun _ => rfl
  · exact .inl fun _ => rfl

theorem callR_leaf (H : Heap) (pfz : List Bool) (n : Nat) (args : List V) (l : List Nat) : (∀ fn : Fun, (callR fn pfz n args).run H l = none) ∨ ∃ a hs, ∃ K : V × Heap → Option ((V × Upd) × List Nat), ∀ fn : Fun, (callR fn pfz n args).run H l = (fn a hs).bind K := by
  unfold callR
  rcases frzArgs_leaf (α := V × Upd) H args pfz l with h | ⟨a1, u, l1, h⟩
  · exact .inl fun fn => h _
  · rcases collect_leaf (α := V × Upd) H 4096 (V.allIds a1) [] l1 with h2 | ⟨obs, l2, h2⟩
    · exact .inl fun fn => by rw [h]; exact h2 _
    · rcases with_leaf H n a1 u obs l2 with h3 | ⟨a, hs, K, h3⟩
      · exact .inl fun fn => by rw [h, h2]; exact h3 fn
      · exact .inr ⟨a, hs, K, fun fn => by rw [h, h2]; exact h3 fn⟩

section
variable (T : TT) (fns : FuncId → Option AFn)

theorem aop_leaf (H : Heap) (n : Nat) (e : Env) (o : Oper) (l : List Nat) : (∃ r, ∀ call, (aop { T, fns, call } n e o).run H l = r) ∨ ∃ g a hs, ∃ K : V × Heap → Option ((V × Upd) × List Nat), ∀ call : FuncId → Fun, (aop { T, fns, call } n e o).run H l = (call g a hs).bind K := by
  have one : ∀ {x : Option ((V × Upd) × List Nat)}, (∀ call, (aop { T, fns, call } n e o).run H l = x) → (∃ r, ∀ call, (aop { T, fns, call } n e o).run H l = r) ∨ ∃ g a hs, ∃ K : V × Heap → Option ((V × Upd) × List Nat), ∀ call : FuncId → Fun, (aop { T, fns, call } n e o).run H l = (call g a hs).bind K := fun h => .inl ⟨_, h⟩
  let w : Option ((V × Upd) × List Nat) := (aop { T, fns, call := fun _ _ _ => none } n e o).run H l
  obtain ⟨dst, op, ty, pos, after, guard⟩ := o
  cases op with
  | call c =>
    obtain ⟨callee, as, ats⟩ := c
    cases callee with
    | builtin b => exact one (x := w) fun call => rfl
    | value f =>
      show (∃ r, ∀ call, (callV { T, fns, call } n (ev e f) (evs e as.toList)).run H l = r) ∨ ∃ g a hs, ∃ K : V × Heap → Option ((V × Upd) × List Nat), ∀ call : FuncId → Fun, (callV { T, fns, call } n (ev e f) (evs e as.toList)).run H l = (call g a hs).bind K
      unfold callV
      cases ev e f with
      | clo g caps =>
        simp only
        cases fns g with
        | none => exact .inl ⟨none, fun call => rfl⟩
        | some fn =>
          simp only
          rcases callR_leaf H fn.pfz n (evs e as.toList ++ caps) l with h | ⟨a, hs, K, h⟩
          · exact .inl ⟨none, fun call => h _⟩
          · exact .inr ⟨g, a, hs, K, fun call => h _⟩
      | _ => exact .inl ⟨none, fun call => rfl⟩
    | invoke _ _ => exact one (x := w) fun call => rfl
  | makeFunc f first caps => cases f <;> exact one (x := w) fun call => rfl
  | makeMap t x => cases x <;> exact one (x := w) fun call => rfl
  | _ => exact one (x := w) fun call => rfl

/-- Bounds great enough. -/
def Evt (g : FuncId) (a : List V) (h : List Ob) (r : V × Heap) : Prop := ∃ i, ∀ R d, i ≤ R → i ≤ d → acall T fns R d g a h = some r

open Classical in
/-- What a function answers, whatever the bounds, once they are great enough. -/
noncomputable def lim : FuncId → Fun := fun g a h => if hx : ∃ r, Evt T fns g a h r then some hx.choose else none

theorem lim_evt {g : FuncId} {a : List V} {h : List Ob} {r : V × Heap} (hl : lim T fns g a h = some r) : Evt T fns g a h r := by
  unfold lim at hl
  split at hl
  · rename_i hx
    cases hl
    exact hx.choose_spec
  · cases hl

theorem lim_of {g : FuncId} {a : List V} {h : List Ob} {r : V × Heap} (he : Evt T fns g a h r) : lim T fns g a h = some r := by
  unfold lim
  have hx : ∃ r, Evt T fns g a h r := ⟨r, he⟩
  rw [dif_pos hx]
  obtain ⟨i, hi⟩ := he
  obtain ⟨j, hj⟩ := hx.choose_spec
  have h1 := hi (max i j) (max i j) (by omega) (by omega)
  have h2 := hj (max i j) (max i j) (by omega) (by omega)
  rw [h1] at h2
  exact h2.symm

/-- The machine without bounds on depth. -/
noncomputable abbrev LX : Cx := { T, fns, call := lim T fns }
abbrev AX (R d : Nat) : Cx := { T, fns, call := acall T fns R d }

theorem aop_lim {H : Heap} {n : Nat} {e : Env} {o : Oper} {l : List Nat} {r : (V × Upd) × List Nat} (h : (aop (LX T fns) n e o).run H l = some r) : ∃ i, ∀ R d, i ≤ R → i ≤ d → (aop (AX T fns R d) n e o).run H l = some r := by
  rcases aop_leaf T fns H n e o l with ⟨x, hx⟩ | ⟨g, a, hs, K, hx⟩
  · exact ⟨0, fun R d _ _ => by rw [hx] at h ⊢; exact h⟩
  · rw [hx, Option.bind_eq_some_iff] at h
    obtain ⟨p, h1, h2⟩ := h
    obtain ⟨i, hi⟩ := lim_evt T fns h1
    exact ⟨i, fun R d hR hd => by rw [hx]; simp only [hi R d hR hd]; exact h2⟩

theorem ops_lim {ntmps : Nat} {ops : Array Oper} : ∀ {rest : List Oper} {s s' : St}, runOps (LX T fns) ntmps ops rest s = some s' → ∃ i, ∀ R d, i ≤ R → i ≤ d → runOps (AX T fns R d) ntmps ops rest s = some s'
  | [], s, s', h => ⟨0, fun R d _ _ => h⟩
  | o :: r, s, s', h => by
    simp only [runOps] at h ⊢
    split at h
    · cases h
    · simp only [Option.bind_eq_some_iff] at h ⊢
      obtain ⟨e, h1, h2⟩ := h
      obtain ⟨i, hi⟩ := ops_lim h2
      exact ⟨i, fun R d hR hd => ⟨e, h1, hi R d hR hd⟩⟩
    · split at h
      · cases h
      · rename_i v u l hrun
        simp only [Option.bind_eq_some_iff] at h
        obtain ⟨e, h1, h2⟩ := h
        obtain ⟨i, hi⟩ := aop_lim T fns hrun
        obtain ⟨j, hj⟩ := ops_lim h2
        exact ⟨max i j, fun R d hR hd => by
          rw [hi R d (by omega) (by omega)]
          simp only [Option.bind_eq_some_iff]
          exact ⟨e, h1, hj R d (by omega) (by omega)⟩⟩

theorem draw_lim {ntmps : Nat} {ops : Array Oper} {bef : Array Nat} : ∀ {rest : List Oper} {j : Nat} {s s' : St} {done : List Did}, runDraw (LX T fns) ntmps ops bef rest j s done = some s' → ∃ i, ∀ R d, i ≤ R → i ≤ d → runDraw (AX T fns R d) ntmps ops bef rest j s done = some s'
  | [], j, s, s', done, h => ⟨0, fun R d _ _ => h⟩
  | o :: r, j, s, s', done, h => by
    simp only [runDraw] at h ⊢
    split at h
    · cases h
    · simp only [Option.bind_eq_some_iff] at h ⊢
      obtain ⟨e, h1, h2⟩ := h
      obtain ⟨i, hi⟩ := draw_lim h2
      exact ⟨i, fun R d hR hd => ⟨e, h1, hi R d hR hd⟩⟩
    · split at h
      · cases h
      · rename_i v u l hrun
        split at h
        · rename_i hap
          simp only [Option.bind_eq_some_iff] at h
          obtain ⟨e, h1, h2⟩ := h
          obtain ⟨i, hi⟩ := aop_lim T fns hrun
          obtain ⟨k, hk⟩ := draw_lim h2
          exact ⟨max i k, fun R d hR hd => by
            rw [hi R d (by omega) (by omega)]
            simp only [if_pos hap, Option.bind_eq_some_iff]
            exact ⟨e, h1, hk R d (by omega) (by omega)⟩⟩
        · cases h

theorem code_lim {ntmps keep : Nat} {gcs : List AGc} {R0 : Nat} : ∀ {c : Code} {id : Option Nat} {s : St} {r : Ex × St}, acode (LX T fns) ntmps keep R0 gcs c id s = some r → ∃ i, ∀ R d, i ≤ R → i ≤ d → acode (AX T fns R d) ntmps keep R gcs c id s = some r
  | .skip, id, s, r, h => ⟨0, fun R d _ _ => h⟩
  | .region rid ops draw, id, s, r, h => by
    simp only [acode, aregion, Option.map_eq_some_iff] at h ⊢
    obtain ⟨s1, h1, h2⟩ := h
    cases draw with
    | false =>
      simp only [Bool.false_eq_true, if_false] at h1 ⊢
      obtain ⟨i, hi⟩ := ops_lim T fns h1
      exact ⟨i, fun R d hR hd => ⟨s1, hi R d hR hd, h2⟩⟩
    | true =>
      simp only [if_true] at h1 ⊢
      obtain ⟨i, hi⟩ := draw_lim T fns h1
      exact ⟨i, fun R d hR hd => ⟨s1, hi R d hR hd, h2⟩⟩
  | .seq x y, id, s, r, h => by
    simp only [acode, Option.bind_eq_some_iff] at h ⊢
    obtain ⟨⟨ex, s1⟩, h1, h2⟩ := h
    obtain ⟨i, hi⟩ := code_lim h1
    cases ex with
    | normal =>
      obtain ⟨j, hj⟩ := code_lim h2
      exact ⟨max i j, fun R d hR hd => ⟨_, hi R d (by omega) (by omega), hj R d (by omega) (by omega)⟩⟩
    | exit k => exact ⟨i, fun R d hR hd => ⟨_, hi R d hR hd, h2⟩⟩
    | ret => exact ⟨i, fun R d hR hd => ⟨_, hi R d hR hd, h2⟩⟩
  | .cond c x y, id, s, r, h => by
    simp only [acode] at h ⊢
    split at h
    · exact code_lim h
    · exact code_lim h
    · cases h
  | .block b c, id, s, r, h => by
    simp only [acode, Option.map_eq_some_iff] at h ⊢
    obtain ⟨r1, h1, h2⟩ := h
    obtain ⟨i, hi⟩ := code_lim h1
    exact ⟨i, fun R d hR hd => ⟨r1, hi R d hR hd, h2⟩⟩
  | .loop c, id, s, r, h => by
    simp only [acode] at h ⊢
    have key : ∀ (n : Nat) (s : St), rounds (fun s => (head keep (gcOf gcs id) s).bind fun s => acode (LX T fns) ntmps keep R0 gcs c none s) n s = some r →
        ∃ i, ∀ R d m, i ≤ R → i ≤ d → n ≤ m → rounds (fun s => (head keep (gcOf gcs id) s).bind fun s => acode (AX T fns R d) ntmps keep R gcs c none s) m s = some r := by
      intro n
      induction n with
      | zero => intro s h; simp [rounds] at h
      | succ n ih =>
        intro s h
        unfold rounds at h
        cases hb : (head keep (gcOf gcs id) s).bind fun s => acode (LX T fns) ntmps keep R0 gcs c none s with
        | none => simp [hb] at h
        | some r1 =>
          simp only [hb] at h
          rw [Option.bind_eq_some_iff] at hb
          obtain ⟨s0, h1, h2⟩ := hb
          obtain ⟨i, hi⟩ := code_lim h2
          have hb2 : ∀ R d, i ≤ R → i ≤ d → ((head keep (gcOf gcs id) s).bind fun s => acode (AX T fns R d) ntmps keep R gcs c none s) = some r1 := fun R d hR hd => by
            rw [Option.bind_eq_some_iff]
            exact ⟨s0, h1, hi R d hR hd⟩
          obtain ⟨ex, s1⟩ := r1
          cases ex with
          | normal =>
            obtain ⟨j, hj⟩ := ih s1 h
            refine ⟨max i j, fun R d m hR hd hm => ?_⟩
            obtain ⟨m, rfl⟩ : ∃ m', m = m' + 1 := ⟨m - 1, by omega⟩
            unfold rounds
            simp only [hb2 R d (by omega) (by omega)]
            exact hj R d m (by omega) (by omega) (by omega)
          | exit k =>
            refine ⟨i, fun R d m hR hd hm => ?_⟩
            obtain ⟨m, rfl⟩ : ∃ m', m = m' + 1 := ⟨m - 1, by omega⟩
            unfold rounds
            simp only [hb2 R d (by omega) (by omega)]
            exact h
          | ret =>
            refine ⟨i, fun R d m hR hd hm => ?_⟩
            obtain ⟨m, rfl⟩ : ∃ m', m = m' + 1 := ⟨m - 1, by omega⟩
            unfold rounds
            simp only [hb2 R d (by omega) (by omega)]
            exact h
    obtain ⟨i, hi⟩ := key R0 s h
    exact ⟨max i R0, fun R d hR hd => hi R d R (by omega) (by omega) (by omega)⟩
  | .exit i, id, s, r, h => ⟨0, fun R d _ _ => h⟩
  | .ret, id, s, r, h => ⟨0, fun R d _ _ => h⟩
  | .rangeFunc .., id, s, r, h | .scope .., id, s, r, h | .label .., id, s, r, h | .goto .., id, s, r, h | .refuse .., id, s, r, h => by simp [acode] at h

/-- A function's answer out of its body's run. -/
theorem lim_run {g : FuncId} {fn : AFn} (hfn : fns g = some fn) (hi : fn.intr = none) {R0 : Nat} {args : List V} {hs : List Ob} {r : V × Heap} (h : runFn (LX T fns) fn R0 args hs = some r) : lim T fns g args hs = some r := by
  refine lim_of T fns ?_
  unfold runFn at h
  split at h
  · cases h
  · rename_i hl
    rw [Option.bind_eq_some_iff] at h
    obtain ⟨x, h1, h2⟩ := h
    obtain ⟨i, hi'⟩ := code_lim T fns h1
    refine ⟨i + 1, fun R d hR hd => ?_⟩
    obtain ⟨d, rfl⟩ : ∃ d', d = d' + 1 := ⟨d - 1, by omega⟩
    simp only [acall, hfn, hi]
    unfold runFn
    rw [if_neg hl, Option.bind_eq_some_iff]
    exact ⟨x, hi' R d (by omega) (by omega), h2⟩

theorem lim_clone {g : FuncId} {fn : AFn} (hfn : fns g = some fn) {st bytes : Nat} (hi : fn.intr = some (st, bytes)) {args : List V} {hs : List Ob} {r : V × Heap} (h : cloneFn st bytes args hs = some r) : lim T fns g args hs = some r := by
  refine lim_of T fns ⟨1, fun R d hR hd => ?_⟩
  obtain ⟨d, rfl⟩ : ∃ d', d = d' + 1 := ⟨d - 1, by omega⟩
  simp only [acall, hfn, hi]
  exact h

theorem lim_ok {P : Program} (h : ∀ R d g, FunOK P g (acall T fns R d g)) (g : FuncId) : FunOK P g (lim T fns g) := fun args hs r hp heq => by
  obtain ⟨i, hi⟩ := lim_evt T fns heq
  exact h i i g args hs r hp (hi i i (Nat.le_refl _) (Nat.le_refl _))
end

end Go.Proofs.Ytfdemnefkfkghaa.R
