/- What a run within bounds answers is answered without bounds. -/
import Derived.Test.YtfdemnefkfkghaaRW
import Derived.KernelRfl
namespace Go.Proofs.Ytfdemnefkfkghaa.R
set_option linter.unusedVariables false
set_option linter.unusedSimpArgs false
open Go

section
variable (T : TT) (fns : FuncId → Option AFn) {c c' : FuncId → Fun} (hc : ∀ g a h r, c g a h = some r → c' g a h = some r)
include hc

theorem aop_imp {H : Heap} {n : Nat} {e : Env} {o : Oper} {l : List Nat} {r : (V × Upd) × List Nat} (h : (aop { T, fns, call := c } n e o).run H l = some r) : (aop { T, fns, call := c' } n e o).run H l = some r := by
  rcases aop_leaf T fns H n e o l with ⟨x, hx⟩ | ⟨g, a, hs, K, hx⟩
  · rw [hx] at h ⊢
    exact h
  · rw [hx, Option.bind_eq_some_iff] at h
    obtain ⟨p, h1, h2⟩ := h
    rw [hx, hc _ _ _ _ h1]
    exact h2

theorem ops_imp {ntmps : Nat} {ops : Array Oper} : ∀ {rest : List Oper} {s s' : St}, runOps { T, fns, call := c } ntmps ops rest s = some s' → runOps { T, fns, call := c' } ntmps ops rest s = some s'
  | [], s, s', h => h
  | o :: r, s, s', h => by
    simp only [runOps] at h ⊢
    split at h
    · cases h
    · simp only [Option.bind_eq_some_iff] at h ⊢
      obtain ⟨e, h1, h2⟩ := h
      exact ⟨e, h1, ops_imp h2⟩
    · split at h
      · cases h
      · rename_i v u l hrun
        simp only [Option.bind_eq_some_iff] at h
        obtain ⟨e, h1, h2⟩ := h
        rw [aop_imp T fns hc hrun]
        simp only [Option.bind_eq_some_iff]
        exact ⟨e, h1, ops_imp h2⟩

theorem draw_imp {ntmps : Nat} {ops : Array Oper} {bef : Array Nat} : ∀ {rest : List Oper} {j : Nat} {s s' : St} {done : List Did}, runDraw { T, fns, call := c } ntmps ops bef rest j s done = some s' → runDraw { T, fns, call := c' } ntmps ops bef rest j s done = some s'
  | [], j, s, s', done, h => h
  | o :: r, j, s, s', done, h => by
    simp only [runDraw] at h ⊢
    split at h
    · cases h
    · simp only [Option.bind_eq_some_iff] at h ⊢
      obtain ⟨e, h1, h2⟩ := h
      exact ⟨e, h1, draw_imp h2⟩
    · split at h
      · cases h
      · rename_i v u l hrun
        split at h
        · rename_i hap
          simp only [Option.bind_eq_some_iff] at h
          obtain ⟨e, h1, h2⟩ := h
          rw [aop_imp T fns hc hrun]
          simp only [if_pos hap, Option.bind_eq_some_iff]
          exact ⟨e, h1, draw_imp h2⟩
        · cases h

theorem code_imp {ntmps keep : Nat} {gcs : List AGc} {R : Nat} : ∀ {k : Code} {id : Option Nat} {s : St} {r : Ex × St}, acode { T, fns, call := c } ntmps keep R gcs k id s = some r → acode { T, fns, call := c' } ntmps keep R gcs k id s = some r
  | .skip, id, s, r, h => h
  | .region rid ops draw, id, s, r, h => by
    simp only [acode, aregion, Option.map_eq_some_iff] at h ⊢
    obtain ⟨s1, h1, h2⟩ := h
    cases draw with
    | false =>
      simp only [Bool.false_eq_true, if_false] at h1 ⊢
      exact ⟨s1, ops_imp T fns hc h1, h2⟩
    | true =>
      simp only [if_true] at h1 ⊢
      exact ⟨s1, draw_imp T fns hc h1, h2⟩
  | .seq x y, id, s, r, h => by
    simp only [acode, Option.bind_eq_some_iff] at h ⊢
    obtain ⟨⟨ex, s1⟩, h1, h2⟩ := h
    cases ex with
    | normal => exact ⟨_, code_imp h1, code_imp h2⟩
    | exit k => exact ⟨_, code_imp h1, h2⟩
    | ret => exact ⟨_, code_imp h1, h2⟩
  | .cond x a b, id, s, r, h => by
    simp only [acode] at h ⊢
    split at h
    · exact code_imp h
    · exact code_imp h
    · cases h
  | .block b x, id, s, r, h => by
    simp only [acode, Option.map_eq_some_iff] at h ⊢
    obtain ⟨r1, h1, h2⟩ := h
    exact ⟨r1, code_imp h1, h2⟩
  | .loop x, id, s, r, h => by
    simp only [acode] at h ⊢
    refine rounds_mono (fun s r hb => ?_) (Nat.le_refl _) h
    rw [Option.bind_eq_some_iff] at hb ⊢
    obtain ⟨s0, h1, h2⟩ := hb
    exact ⟨s0, h1, code_imp h2⟩
  | .exit i, id, s, r, h => h
  | .ret, id, s, r, h => h

theorem runFn_imp {fn : AFn} {R : Nat} {args : List V} {hs : List Ob} {r : V × Heap} (h : runFn { T, fns, call := c } fn R args hs = some r) : runFn { T, fns, call := c' } fn R args hs = some r := by
  unfold runFn at h ⊢
  split at h
  · cases h
  · rename_i hl
    rw [if_neg hl]
    rw [Option.bind_eq_some_iff] at h ⊢
    obtain ⟨x, h1, h2⟩ := h
    exact ⟨x, code_imp T fns hc h1, h2⟩
end

theorem acall_lim {T : TT} {fns : FuncId → Option AFn} {R : Nat} : ∀ {d : Nat} {g : FuncId} {a : List V} {h : List Ob} {r : V × Heap}, acall T fns R d g a h = some r → lim T fns g a h = some r
  | 0, g, a, h, r, hx => by simp [acall] at hx
  | d + 1, g, a, h, r, hx => by
    unfold acall at hx
    cases hf : fns g with
    | none => simp [hf] at hx
    | some fn =>
      simp only [hf] at hx
      cases hi : fn.intr with
      | some p =>
        simp only [hi] at hx
        refine lim_of T fns ⟨1, fun R' d' _ hd => ?_⟩
        obtain ⟨d', rfl⟩ : ∃ d'', d' = d'' + 1 := ⟨d' - 1, by omega⟩
        simp only [acall, hf, hi]
        exact hx
      | none =>
        simp only [hi] at hx
        exact lim_run T fns hf hi (runFn_imp T fns (fun g a h r hx => acall_lim hx) hx)
/-- An answer without bounds is one within some. -/
theorem lim_acall {T : TT} {fns : FuncId → Option AFn} {g : FuncId} {a : List V} {h : List Ob} {r : V × Heap} (hx : lim T fns g a h = some r) : ∃ R d, acall T fns R d g a h = some r := by
  obtain ⟨i, hi⟩ := lim_evt T fns hx
  exact ⟨i, i, hi i i (Nat.le_refl _) (Nat.le_refl _)⟩

/-! An answer that is told of, not named. -/
def PF (P : V × Heap → Prop) (x : Option (V × Heap)) : Prop := ∃ r, x = some r ∧ P r
def EQ (T : TT) (res : List ResultVar) (rfz : Bool) (keep : Nat) (P : V × Heap → Prop) : Aft := fun ex s => match ex with
  | .normal | .ret => PF P ((resAll T s res).bind fun vs => finish keep rfz (oneOf vs) s.heap)
  | _ => False
theorem EQ_ret {T : TT} {res : List ResultVar} {rfz : Bool} {keep : Nat} {P : V × Heap → Prop} {s : St} : EQ T res rfz keep P .ret s ↔ PF P ((resAll T s res).bind fun vs => finish keep rfz (oneOf vs) s.heap) := Iff.rfl
theorem EQ_normal {T : TT} {res : List ResultVar} {rfz : Bool} {keep : Nat} {P : V × Heap → Prop} {s : St} : EQ T res rfz keep P .normal s ↔ PF P ((resAll T s res).bind fun vs => finish keep rfz (oneOf vs) s.heap) := Iff.rfl
theorem fn_rule_ex {T : TT} {fns : FuncId → Option AFn} {g : FuncId} {fn : AFn} (hfn : fns g = some fn) (hi : fn.intr = none) {args : List V} {hs : List Ob} {P : V × Heap → Prop} (hl : args.length ≤ fn.ntmps)
    (h : W (LX T fns) ⟨fn.ntmps, hs.length, fn.gcs⟩ fn.body none ⟨argEnv 0 args, hs.map some⟩ (EQ T fn.res fn.rfz hs.length P)) : ∃ r, lim T fns g args hs = some r ∧ P r := by
  obtain ⟨R, ex, s', h1, q⟩ := h
  have key : ∀ r, ((resAll T s' fn.res).bind fun vs => finish hs.length fn.rfz (oneOf vs) s'.heap) = some r → (ex = .normal ∨ ex = .ret) → lim T fns g args hs = some r := by
    intro r hr he
    refine lim_run T fns hfn hi (R0 := R) ?_
    unfold runFn
    rw [if_neg (by omega), Option.bind_eq_some_iff]
    refine ⟨_, h1, ?_⟩
    rcases he with rfl | rfl <;> exact hr
  cases ex with
  | normal =>
    obtain ⟨r, hr, hP⟩ := q
    exact ⟨r, key r hr (.inl rfl), hP⟩
  | ret =>
    obtain ⟨r, hr, hP⟩ := q
    exact ⟨r, key r hr (.inr rfl), hP⟩
  | exit i => exact q.elim
end Go.Proofs.Ytfdemnefkfkghaa.R
