/- Functions: what they answer, and the whole. -/
import Derived.Test.YtfdemnefkfkghaaRM
namespace Go.Proofs.Ytfdemnefkfkghaa.R
set_option linter.unusedVariables false
set_option linter.unusedSimpArgs false
open Go Go.RowKit

section
variable {P : Program} {cx : Cx} {B : Base} {β0 : Place} {ntmps keep : Nat} {T : TT}

theorem resOne_ok (hT : TOK P T) {s : St} {a : Act} {w : World} {β : Place} {F : Froz} (hS : Sim B β0 ntmps s a w β F) {x : ResultVar} {v : V} (h : resOne T s x = some v) :
    ∃ cv, Sem.run P (match x with
      | .tmp t => pure (a.tmps.getD t undef)
      | .cell a' t => do loadVar t (← asAddr (a.tmps.getD a' undef))) w = .ok cv w ∧ Rel F (cl w) β v cv := by
  cases x with
  | tmp t =>
    simp only [resOne, Option.some.injEq] at h
    subst h
    exact ⟨_, rfl, hS.env t⟩
  | cell t ty =>
    simp only [resOne] at h
    have he := hS.env t
    split at h
    · rename_i i r off ti hlk hti
      rw [hlk] at he
      split at h
      · rename_i st rows frz pure hob
        split at h
        · rename_i row hrow
          obtain ⟨lc, hl, ho⟩ := hS.inv.obs _ _ hob
          show ∃ cv, (do loadVar ty (← asAddr (a.tmps.getD t undef)) : Sem Value).run P w = .ok cv w ∧ _
          generalize a.tmps.getD t undef = cv at he ⊢
          cases he with
          | ptr _ _ _ _ b st' C hb =>
            rw [hb] at hl
            cases hl
            cases ho with
            | buf _ _ _ _ _ _ hst hthere hC hlen hcell hpure hr =>
              obtain ⟨cw, h1, h2⟩ := load_at (P := P) (β := β) (F := F) (w := w) (hT.told hti) (base := r * st) (fun j v hv => hr r j row v hrow hv) h
              refine ⟨cw, ?_, h2⟩
              simpa [Instr.loadAt, Instr.sureAddr, asAddr] using h1
        · cases h
      · cases h
    · cases h

theorem resAll_ok (hT : TOK P T) {s : St} {a : Act} {w : World} {β : Place} {F : Froz} (hS : Sim B β0 ntmps s a w β F) {f : ResultVar → Sem Value} (hf : ∀ x v, resOne T s x = some v → ∃ cv, (f x).run P w = .ok cv w ∧ Rel F (cl w) β v cv) :
    ∀ {l : List ResultVar} {vs : List V}, resAll T s l = some vs → ∃ cvs : List Value, (l.mapM f).run P w = .ok cvs w ∧ cvs.length = vs.length ∧ ∀ (j : Nat) (v : V), vs[j]? = some v → ∃ cv, cvs[j]? = some cv ∧ Rel F (cl w) β v cv
  | [], vs, h => by
    simp only [resAll, Option.some.injEq] at h
    subst h
    exact ⟨[], by simp, rfl, by simp⟩
  | x :: r, vs, h => by
    simp only [resAll, Option.bind_eq_some_iff, Option.map_eq_some_iff] at h
    obtain ⟨v, h1, vs', h2, rfl⟩ := h
    obtain ⟨cv, g1, g2⟩ := hf x v h1
    obtain ⟨cvs, g3, g4, g5⟩ := resAll_ok hT hS hf h2
    refine ⟨cv :: cvs, by simp [List.mapM_cons, g1, g3], by simp [g4], fun j u hu => ?_⟩
    cases j with
    | zero =>
      simp only [List.getElem?_cons_zero, Option.some.injEq] at hu
      subst hu
      exact ⟨cv, rfl, g2⟩
    | succ j => simpa using g5 j u (by simpa using hu)

theorem results_ok (hT : TOK P T) {s : St} {a : Act} {w : World} {β : Place} {F : Froz} (hS : Sim B β0 ntmps s a w β F) {fn : Func} {vs : List V} (h : resAll T s fn.results.toList = some vs) :
    ∃ cv, (results fn a.tmps).run P w = .ok cv w ∧ Rel F (cl w) β (oneOf vs) cv := by
  unfold results
  rw [Array.mapM_eq_mapM_toList]
  obtain ⟨cvs, h1, h2, h3⟩ := resAll_ok hT hS (fun x v hx => resOne_ok hT hS hx) h
  have hall : ∀ (j : Nat) (v : V), vs[j]? = some v → Rel F (cl w) β v (cvs.toArray.getD j undef) := fun j v hv => by
    obtain ⟨cv, a1, a2⟩ := h3 j v hv
    rw [Array.getD_eq_getD_getElem?]
    simpa [a1] using a2
  have harr : ∀ m : Sem (List Value), m.run P w = .ok cvs w → (List.toArray <$> m).run P w = .ok cvs.toArray w := fun m hm => by
    show (m >>= fun l => pure l.toArray).run P w = _
    simp [hm]
  have h4 := harr _ h1
  by_cases e : vs.length = 1
  · match vs, e with
    | [v], _ =>
      match cvs, h2 with
      | [cv], _ =>
        refine ⟨cv, ?_, by have := hall 0 v rfl; simpa [Array.getD, oneOf] using this⟩
        rw [Sem.run_bind]; erw [h4]
        rfl
  · refine ⟨.tuple cvs.toArray, ?_, ?_⟩
    · have : ¬ cvs.length = 1 := by omega
      rw [Sem.run_bind]; erw [h4]
      simp [this]
    · have : oneOf vs = .tup vs := by
        unfold oneOf
        split
        · simp at e
        · rfl
      rw [this]
      exact .tup _ _ _ (by simpa using h2) hall

theorem finish_ok (hk : ∀ i, keep ≤ i → β0 i = none) {w : World} {β : Place} {F : Froz} {H h' : Heap} {rfz : Bool} {v r : V} {cv : Value} (h : finish keep rfz v H = some (r, h')) (hI : Inv B β F H w) (hx : Ext β0 β B.F0 F B.w0 w) (hr : Rel F (cl w) β v cv) :
    ∃ β' F', Rel F' (cl w) β' r cv ∧ Inv B β' F' h' w ∧ Ext β0 β' B.F0 F' B.w0 w := by
  have key : ∀ (v : V) (H : Heap) (F : Froz), (let l := reach keep H 4096 (upto keep (V.ids v)) []
      if begins keep 0 l then (V.re (idx l) v).bind fun v => (pull H (idx l) l).map fun h => (v, h) else none) = some (r, h') → Inv B β F H w → Ext β0 β B.F0 F B.w0 w → Rel F (cl w) β v cv →
      ∃ β' F', Rel F' (cl w) β' r cv ∧ Inv B β' F' h' w ∧ Ext β0 β' B.F0 F' B.w0 w := by
    intro v H F h hI hx hr
    simp only at h
    generalize hl : reach keep H 4096 (upto keep (V.ids v)) [] = l at h
    have hnd : l.Nodup := by rw [← hl]; exact reach_nodup _ _ _ _ _ (by simp)
    split at h
    · rename_i hb
      simp only [Option.bind_eq_some_iff, Option.map_eq_some_iff, Prod.mk.injEq] at h
      obtain ⟨v1, hv, h1, hh, rfl, rfl⟩ := h
      obtain ⟨p1, p2⟩ := pull_get hh
      have hβ : ∀ i j, idx l i = some j → (fun j => (l[j]?).bind β) j = β i := fun i j hj => by simp [idx_get hj]
      refine ⟨fun j => (l[j]?).bind β, F, hr.re hβ hv, hI.renum (fun j => l[j]?) (idx l) (fun i j h => idx_get h) (fun j k i h1 h2 => nodup_at hnd h1 h2) p2, fun i lc hi => ?_, hx.froz⟩
      have hlt : i < keep := by
        rcases Nat.lt_or_ge i keep with h | h
        · exact h
        · rw [hk i h] at hi; cases hi
      have := begins_get hb i hlt
      rw [Nat.zero_add] at this
      simp only [this, Option.bind_some]
      exact hx.place i lc hi
    · cases h
  unfold finish at h
  simp only [Option.bind_eq_some_iff] at h
  obtain ⟨⟨v1, H1⟩, h1, h2⟩ := h
  cases rfz with
  | false =>
    simp only [Bool.false_eq_true, if_false, Option.some.injEq, Prod.mk.injEq] at h1
    obtain ⟨rfl, rfl⟩ := h1
    exact key v H F h2 hI hx hr
  | true =>
    simp only [if_true, Option.map_eq_some_iff, Prod.mk.injEq] at h1
    obtain ⟨⟨⟨v2, u⟩, l⟩, h3, rfl, rfl⟩ := h1
    obtain ⟨x', u', l1, h4, h5, h6⟩ := frz_ok hI v _ [] _ cv h3 hr
    simp only [Rd.run, Option.some.injEq, Prod.mk.injEq] at h4
    obtain ⟨⟨rfl, rfl⟩, _⟩ := h4
    exact key _ _ _ h2 (hI.also h6) (hx.trans ⟨fun _ _ h => h, fun b o hf => ⟨.inl hf, rfl⟩⟩) h5

theorem lk_argEnv : ∀ (args : List V) (n t : Nat), lk (argEnv n args) t = if n ≤ t then (args[t - n]?).getD .undef else .undef
  | [], n, t => by simp [argEnv, lk]
  | v :: r, n, t => by
    simp only [argEnv]
    rw [lk_cons]
    by_cases e : n = t
    · subst e; simp
    · rw [if_neg e, lk_argEnv r (n + 1) t]
      by_cases h : n + 1 ≤ t
      · rw [if_pos h, if_pos (by omega), show t - n = (t - (n + 1)) + 1 by omega]
        rfl
      · rw [if_neg h, if_neg (by omega)]

theorem runFn_ok (hcx : CxOK P cx) (hm : P.follows .mixedOrders = true) {g : FuncId} {fn : AFn} {R : Nat} {fc : Func} (hf : P.funcs[g]? = some fc) (hb : fc.body = some fn.body) (hn : fc.ntmps = fn.ntmps) (hres : fc.results.toList = fn.res) (hc : codeOK fn.body = true) :
    FunOK P g (runFn cx fn R) := by
  intro args hs r h heq β F w cargs hI hfresh hargs
  unfold runFn at heq
  split at heq
  · cases heq
  · rename_i hlen
    rw [Option.bind_eq_some_iff] at heq
    obtain ⟨⟨ex, s⟩, hcode, h2⟩ := heq
    have hsz := hargs.size
    refine calls_of_wp hf hb (code_ok hcx hm (keep := hs.length) hfresh fn.body none _ ex s _ w β F (B := ⟨w, KOf β w, F⟩) (β0 := β) (ntmps := fn.ntmps) _ hc hcode ⟨hI, fun t => ?_, rfl, ?_, by simpa using hfresh, .refl _ _ _⟩ fun a' w' β' F' hS' => ?_)
    · simp only
      rw [lk_argEnv]
      simp only [Nat.zero_le, if_true, Nat.sub_zero]
      cases hv : args[t]? with
      | none => exact .undef _ _
      | some v =>
        have hlt := (List.getElem?_eq_some_iff.1 hv).1
        have := hargs.at_ t v hv
        rw [Array.getD_eq_getD_getElem?] at this ⊢
        rw [Array.getElem?_append_left (by omega)]
        exact this
    · simp only [Array.size_append, Array.size_replicate]
      omega
    · have fin : ∀ {x : Exit}, (resAll cx.T s fn.res).bind (fun vs => finish hs.length fn.rfz (oneOf vs) s.heap) = some (r, h) → (a'.defers = [] ∧ ∃ v, (results fc a'.tmps).run P w' = .ok v w' ∧ ∃ cv β' F', Ending.returned v = .returned cv ∧ Post w β F r h cv w' β' F') := by
        intro x h2
        rw [Option.bind_eq_some_iff] at h2
        obtain ⟨vs, hvs, hfin⟩ := h2
        obtain ⟨cv, h3, h4⟩ := results_ok hcx.types hS' (fn := fc) (by rw [hres]; exact hvs)
        obtain ⟨β2, F2, h5, h6, h7⟩ := finish_ok hfresh hfin hS'.inv hS'.ext h4
        exact ⟨hS'.defers, cv, h3, cv, β2, F2, rfl, h5, h6, h7⟩
      cases ex with
      | normal => exact fin (x := .normal) h2
      | ret => exact fin (x := .ret) h2
      | exit i => cases h2

/-- A function of the table is one of the program's. -/
structure FnGood (P : Program) (g : FuncId) (fn : AFn) : Prop where
  fc : ∃ fc : Func, P.funcs[g]? = some fc ∧ (fc.name == "runtime.NumGoroutine") = false ∧ fc.body.isNone = false ∧ (fn.intr = none → fc.body = some fn.body ∧ fc.ntmps = fn.ntmps ∧ fc.results.toList = fn.res ∧ codeOK fn.body = true)
  intr : ∀ st bytes, fn.intr = some (st, bytes) → FunOK P g (cloneFn st bytes)

theorem acall_ok (hT : TOK P T) (hm : P.follows .mixedOrders = true) {fns : FuncId → Option AFn} {R : Nat} (hF : ∀ g fn, fns g = some fn → FnGood P g fn) : ∀ (d : Nat) (g : FuncId), FunOK P g (acall T fns R d g)
  | 0, g => fun args hs r h heq => by simp [acall] at heq
  | d + 1, g => fun args hs r h heq => by
    unfold acall at heq
    split at heq
    · cases heq
    · rename_i fn hfn
      have hg := hF g fn hfn
      split at heq
      · rename_i st bytes hi
        exact hg.intr st bytes hi args hs r h heq
      · rename_i hi
        obtain ⟨fc, h1, h2, h3, h4⟩ := hg.fc
        obtain ⟨h5, h6, h7, h8⟩ := h4 hi
        refine runFn_ok (cx := { T, fns, call := acall T fns R d }) ⟨hT, ⟨fun g fn hfn => ?_⟩, fun g fn hfn => acall_ok hT hm hF d g⟩ hm h1 h5 h6 h7 h8 args hs r h heq
        obtain ⟨fc, a1, a2, a3, _⟩ := (hF g fn hfn).fc
        exact ⟨fc, a1, a3, a2⟩

end

end Go.Proofs.Ytfdemnefkfkghaa.R
