/- Parts of the proof of YtfdemnefkfkghaaRAuditAll, one behind the other: RMc, RMd, RN, RO, RU, RP, RS, RV, RVb, RW, RWd, RZ, RY, RX, RWe, RGS, R33a, R33b, R33c. -/
import Derived.Test.YtfdemnefkfkghaaAU0
import Derived.Test.YtfdemnefkfkghaaAU1
import Derived.KernelRfl
import Derived.Test.YtfdemnefkfkghaaRows
import Derived.WalkKit
import Derived.ProofKit
import Derived.OpenShut
import Derived.ShutString
import Derived.ChangeOld
import Derived.Below
import Derived.SizedLaws
import Derived.DataElems
/- Code, whole. -/
namespace Go.Proofs.Ytfdemnefkfkghaa.R
set_option linter.unusedVariables false
set_option linter.unusedSimpArgs false
open Go Go.RowKit

section
variable {P : Program} {cx : Cx} {R ntmps : Nat} {gcs : List AGc}

variable {B : Base} {β0 : Place} {ds : List Deferred} {T : TT}

theorem resOne_ok (hT : TOK P T) {s : St} {a : Act} {w : World} {β : Place} {F : Froz} (hS : Sim B β0 ntmps ds s a w β F) {x : ResultVar} {v : V} (h : resOne T s x = some v) :
    ∃ cv, Sem.run P (match x with
      | .tmp t => pure (a.tmps.getD t undef)
      | .cell a' t => do loadVar t (← asAddr (a.tmps.getD a' undef))) w = .ok cv w ∧ Rel F (cl w) β v cv := by
  cases x with
  | tmp t =>
    simp only [resOne, Option.some.injEq] at h
    subst h
    exact ⟨_, rfl, hS.env t⟩
  | cell t ty =>
    simp only [resOne] at h
    have he := hS.env t
    split at h
    · rename_i i r off ti hlk hti
      rw [hlk] at he
      split at h
      · rename_i st rows frz pure hob
        split at h
        · rename_i row hrow
          obtain ⟨lc, hl, ho⟩ := hS.inv.obs _ _ hob
          show ∃ cv, (do loadVar ty (← asAddr (a.tmps.getD t undef)) : Sem Value).run P w = .ok cv w ∧ _
          generalize a.tmps.getD t undef = cv at he ⊢
          cases he with
          | ptr _ _ _ _ b st' C hb =>
            rw [hb] at hl
            cases hl
            cases ho with
            | buf _ _ _ _ _ _ hst hthere hC hlen hcell hpure hr =>
              obtain ⟨cw, h1, h2⟩ := load_at (P := P) (β := β) (F := F) (w := w) (hT.told hti) (base := r * st) (fun j v hv => hr r j row v hrow hv) h
              refine ⟨cw, ?_, h2⟩
              simpa [Instr.loadAt, Instr.sureAddr, asAddr] using h1
        · cases h
      · cases h
    · cases h

theorem resAll_ok (hT : TOK P T) {s : St} {a : Act} {w : World} {β : Place} {F : Froz} (hS : Sim B β0 ntmps ds s a w β F) {f : ResultVar → Sem Value} (hf : ∀ x v, resOne T s x = some v → ∃ cv, (f x).run P w = .ok cv w ∧ Rel F (cl w) β v cv) :
    ∀ {l : List ResultVar} {vs : List V}, resAll T s l = some vs → ∃ cvs : List Value, (l.mapM f).run P w = .ok cvs w ∧ cvs.length = vs.length ∧ ∀ (j : Nat) (v : V), vs[j]? = some v → ∃ cv, cvs[j]? = some cv ∧ Rel F (cl w) β v cv
  | [], vs, h => by
    simp only [resAll, Option.some.injEq] at h
    subst h
    exact ⟨[], by simp, rfl, by simp⟩
  | x :: r, vs, h => by
    simp only [resAll, Option.bind_eq_some_iff, Option.map_eq_some_iff] at h
    obtain ⟨v, h1, vs', h2, rfl⟩ := h
    obtain ⟨cv, g1, g2⟩ := hf x v h1
    obtain ⟨cvs, g3, g4, g5⟩ := resAll_ok hT hS hf h2
    refine ⟨cv :: cvs, by simp [List.mapM_cons, g1, g3], by simp [g4], fun j u hu => ?_⟩
    cases j with
    | zero =>
      simp only [List.getElem?_cons_zero, Option.some.injEq] at hu
      subst hu
      exact ⟨cv, rfl, g2⟩
    | succ j => simpa using g5 j u (by simpa using hu)

theorem results_ok (hT : TOK P T) {s : St} {a : Act} {w : World} {β : Place} {F : Froz} (hS : Sim B β0 ntmps ds s a w β F) {fn : Func} {vs : List V} (h : resAll T s fn.results.toList = some vs) :
    ∃ cv, (results fn a.tmps).run P w = .ok cv w ∧ Rel F (cl w) β (oneOf vs) cv := by
  unfold results
  rw [Array.mapM_eq_mapM_toList]
  obtain ⟨cvs, h1, h2, h3⟩ := resAll_ok hT hS (fun x v hx => resOne_ok hT hS hx) h
  have hall : ∀ (j : Nat) (v : V), vs[j]? = some v → Rel F (cl w) β v (cvs.toArray.getD j undef) := fun j v hv => by
    obtain ⟨cv, a1, a2⟩ := h3 j v hv
    rw [Array.getD_eq_getD_getElem?]
    simpa [a1] using a2
  have harr : ∀ m : Sem (List Value), m.run P w = .ok cvs w → (List.toArray <$> m).run P w = .ok cvs.toArray w := fun m hm => by
    show (m >>= fun l => pure l.toArray).run P w = _
    simp [hm]
  have h4 := harr _ h1
  by_cases e : vs.length = 1
  · match vs, e with
    | [v], _ =>
      match cvs, h2 with
      | [cv], _ =>
        refine ⟨cv, ?_, by have := hall 0 v rfl; simpa [Array.getD, oneOf] using this⟩
        rw [Sem.run_bind]; erw [h4]
        rfl
  · refine ⟨.tuple cvs.toArray, ?_, ?_⟩
    · have : ¬ cvs.length = 1 := by omega
      rw [Sem.run_bind]; erw [h4]
      simp [this]
    · have : oneOf vs = .tup vs := by
        unfold oneOf
        split
        · simp at e
        · rfl
      rw [this]
      exact .tup _ _ _ (by simpa using h2) hall

theorem lk_argEnv : ∀ (args : List V) (n t : Nat), lk (argEnv n args) t = if n ≤ t then (args[t - n]?).getD .undef else .undef
  | [], n, t => by simp [argEnv, lk]
  | v :: r, n, t => by
    simp only [argEnv]
    rw [lk_cons]
    by_cases e : n = t
    · subst e; simp
    · rw [if_neg e, lk_argEnv r (n + 1) t]
      by_cases h : n + 1 ≤ t
      · rw [if_pos h, if_pos (by omega), show t - n = (t - (n + 1)) + 1 by omega]
        rfl
      · rw [if_neg h, if_neg (by omega)]

theorem args_env {F : Froz} {w : World} {β : Place} {args : List V} {cargs : Array Value} (k : Nat) (hargs : RelAll F (cl w) β args cargs) : EnvRel F w β (argEnv 0 args) (cargs ++ Array.replicate k undef) := fun t => by
  have hsz := hargs.size
  rw [lk_argEnv]
  simp only [Nat.zero_le, if_true, Nat.sub_zero]
  cases hv : args[t]? with
  | none => exact .undef _ _
  | some v =>
    have hlt := (List.getElem?_eq_some_iff.1 hv).1
    have := hargs.at_ t v hv
    rw [Array.getD_eq_getD_getElem?] at this ⊢
    rw [Array.getElem?_append_left (by omega)]
    exact this

theorem range_ok (hcx : CxOK P cx) (hm : P.follows .mixedOrders = true) (hfc : FnsCode P cx.fns) {g : Operand} {ps : Array Tmp} {assign body : Code} (hA : RoundCode P cx R ntmps gcs assign) (hBd : RoundCode P cx R ntmps gcs body)
    {n N keep : Nat} {B : Base} {β0 : Place} {id : Option Nat} {s s' : St} {ex : Ex} {a : Act} {w : World} {β : Place} {F : Froz} {ds : List Deferred} {Q : Exit → Act → World → Prop} (hN : N ≤ B.w0.heap.size)
    (h : acode cx ntmps keep R gcs (.rangeFunc g ps assign body) id s = some (ex, s')) (hS : Sim B β0 ntmps ds s a w β F) (hmk : Marks N B ds)
    (hQ : ∀ B' ds' a' w' β' F', BLe B B' → Marks N B' ds' → (∀ b, B'.K b → b < B'.w0.heap.size) → Sim B' β0 ntmps ds' s' a' w' β' F' → Q (exOf ex) a' w') : (Code.rangeFunc g ps assign body).wpIn (fr none) n P Q a w := by
  simp only [acode] at h
  split at h
  · rename_i gf caps hev
    split at h
    · rename_i fn hfn
      split at h
      · cases h
      · rename_i hno
        simp only [Bool.or_eq_true, not_or, Bool.not_eq_true, Option.isSome_eq_false_iff, Option.isNone_iff_eq_none, bne_eq_false_iff_eq, decide_eq_false_iff_not, Nat.not_lt, beq_iff_eq] at hno
        obtain ⟨⟨hintr, hres0⟩, hnt⟩ := hno
        rw [Option.bind_eq_some_iff] at h
        obtain ⟨⟨ex0, t⟩, hic, h2⟩ := h
        obtain ⟨fc, f1, f2, f3, f4, f5, f6⟩ := hfc.code gf fn hfn hintr
        refine wpIn_rangeFunc fun fnid _ => ?_
        have hg := ev_rel hS.env g
        rw [hev] at hg
        generalize hcg : a.eval g = cg at hg
        cases hg with
        | clo _ _ _ cvs hsz hrel =>
          -- the two blocks
          let D := w.heap.size
          let r0 : Loop := { state := .ready, pending := none, fn := fnid, tmps := a.tmps, params := ps, assign, body, defers := w.heap.size }
          let w1 : World := (w.alloc (.deferred (some []))).alloc (.loop r0)
          have hw1s : w1.heap.size = D + 2 := by simp [w1, D]
          have hsame : ∀ b, b < w.heap.size → w1.heap[b]? = w.heap[b]? := fun b hb => by
            show ((w.alloc _).alloc _).heap[b]? = _
            rw [Below.heap_alloc _ _ _ (by simp; omega), Below.heap_alloc _ _ _ hb]
          have hD : w1.heap[D]? = some (.deferred (some [])) := by
            show ((w.alloc _).alloc _).heap[D]? = _
            rw [Below.heap_alloc _ _ _ (by simp [D])]
            exact World.alloc_heap_new w _
          have hl : w1.heap[D + 1]? = some (.loop r0) := by
            have := World.alloc_heap_new (w.alloc (.deferred (some []))) (.loop r0)
            rw [World.size_alloc] at this
            exact this
          have hS1 : Sim B β0 ntmps ds s a w1 β F := hS.grow (by omega) hsame rfl rfl rfl
          have hX : ∀ b, (b = D ∨ b = D + 1) → b < w1.heap.size ∧ ∀ i lc, β i = some lc → lc.block ≠ some b := fun b hb => ⟨by omega, fun i lc hi hbl => by
            have := (hS.inv.fresh i lc b hi hbl).1
            omega⟩
          obtain ⟨hS2, hle⟩ := hS1.now hX
          -- the base
          let B1 : Base := B.now w1 F (fun b => b = D ∨ b = D + 1)
          have hK : B1.K (D + 1) := .inr (.inr rfl)
          have hKD : B1.K D := .inr (.inl rfl)
          have hnK : ¬ B.K (D + 1) := fun hb => by
            have := hS.inv.kin _ hb
            have := hS.inv.size
            omega
          have hcb := round_ok (P := P) (cx := cx) (R := R) (gcs := gcs) hA hBd (B1 := B1) (l := D + 1) (r0 := r0) (β0 := β) (e := s.env) hl hK rfl rfl rfl rfl hS2.inv.kin hS.size hS2.env
          let Bs : Option Ex → Base := fun st => B1.turn (D + 1) (.loop (recOf r0 st))
          have eB : Bs none = B1 := by
            exact congrArg (fun w => (⟨w, B1.K, B1.F0⟩ : Base)) (putObj_self hl)
          have hBs : ∀ st, (Bs st).F0 = (Bs none).F0 ∧ ∀ b o, cl (Bs st).w0 b o = cl (Bs none).w0 b o := fun st => ⟨rfl, fun b o => (cl_putObj hl rfl rfl b o).trans (cl_putObj hl rfl rfl b o).symm⟩
          let iargs : Array Value := #[.func (.yield (D + 1)) #[] #[]] ++ cvs
          have hiargs : RelAll F (cl w1) β (.undef :: caps) iargs := ⟨by simp [iargs, hsz]; omega, fun j v hj => by
            cases j with
            | zero =>
              simp only [List.getElem?_cons_zero, Option.some.injEq] at hj
              subst hj
              exact .undef _ _
            | succ j =>
              have := (Ext.mk (β := β) (β' := β) (F := F) (F' := F) (w := w) (w' := w1) (fun _ _ h => h) fun b o hf => ⟨hf, cl_of_block (hsame b (hS.inv.froz b o hf).1) o⟩).rel (hrel j v (by simpa using hj))
              rw [Array.getD_eq_getD_getElem?] at this ⊢
              rw [Array.getElem?_append_right (by simp)]
              simpa using this⟩
          have hisz : iargs.size ≤ fn.ntmps := by simp [iargs, hsz]; omega
          have hSI : SimI Bs β fn.ntmps (D + 1) { env := argEnv 0 (.undef :: caps), heap := s.heap, y := [0], stop := none } { tmps := iargs ++ Array.replicate (fn.ntmps - iargs.size) undef, defers := [] } w1 β F := by
            refine ⟨?_, fun t ht => ?_⟩
            · show Sim (Bs none) _ _ _ _ _ _ _ _
              rw [eB]
              exact ⟨hS2.inv, args_env _ hiargs, rfl, by simp; omega, hS.fresh, .refl _ _ _⟩
            · simp only [List.mem_singleton] at ht
              subst ht
              rw [Array.getD_eq_getD_getElem?, Array.getElem?_append_left (by simp [iargs]; omega), Array.getElem?_append_left (by simp)]
              rfl
          refine ⟨D + 1, [{ target := .collected D, args := #[] }], w1, { target := .fn (.func gf) cvs, args := #[.func (.yield (D + 1)) #[] #[]] }, w1, gf, iargs, w1, run_enterLoop_outer _ _ _ _ _, ?_, fun _ _ => trivial, ?_, fun hh => (by cases hh), ?_⟩
          · simp only [rangeCall, resolve, hcg, Deferred.ofValue]
            rw [Sem.run_pure]
            have e0 : (#[Operand.const (Value.func (.yield (D + 1)) #[] #[])] : Array Operand).map a.eval = #[.func (.yield (D + 1)) #[] #[]] := by
              simp only [List.map_toArray, List.map_cons, List.map_nil]
              rfl
            rw [e0, Array.empty_append]
          · have f2' : ¬ fc.name = "runtime.NumGoroutine" := by simpa using f2
            simp [invoke, callFunc, f1, f2', f3, iargs]
          · refine callsIn_of_wp_marks f1 f3 trivial ?_
            rw [f4]
            refine icode_ok hcx hm hBs hcb hS.fresh (keep := s.heap.length) fn.body none _ ex0 t _ w1 β F _ f6 hic hSI fun a2 w2 β2 F2 hSI2 => ?_
            have hl2 : w2.heap[D + 1]? = some (.loop (recOf r0 t.stop)) := (hSI2.sim.inv.keep (D + 1) hK).trans (World.putObj_heap_same (Array.getElem?_eq_some_iff.1 hl).1)
            have hs3 := hSI2.sim.turn (o' := .loop { recOf r0 t.stop with state := .exhausted }) hK hl2 rfl rfl
            rw [show (Bs t.stop).turn (D + 1) (.loop { recOf r0 t.stop with state := .exhausted }) = B1.turn (D + 1) (.loop { recOf r0 t.stop with state := .exhausted }) from Base.turn_turn] at hs3
            have fin : ∀ ex' : Ex, some (ex', ({ env := s.env, heap := t.heap } : St)) = some (ex, s') → (match t.stop with | none => Ex.normal | some ex => ex) = ex' → LeavesInM (fr none) (n - 1) P fc a2.tmps (rangePost (fr none) n P (D + 1) Q { a with defers := [{ target := .collected D, args := #[] }] ++ a.defers }) a2.defers .returning w2 := by
              intro ex' e1 e2
              simp only [Option.some.injEq, Prod.mk.injEq] at e1
              obtain ⟨rfl, rfl⟩ := e1
              rw [hSI2.sim.defers]
              obtain ⟨cv, g1, _⟩ := results_ok hcx.types hSI2.sim (fn := fc) (vs := []) (by rw [f5, List.length_eq_zero_iff.1 hres0]; rfl)
              refine ⟨cv, g1, (recOf r0 t.stop).pending, _, run_endLoop hl2 (by unfold recOf; cases t.stop <;> simp [r0]), ?_⟩
              have hleB : BLe B (B1.turn (D + 1) (.loop { recOf r0 t.stop with state := .exhausted })) := hle.turnNew hnK hl rfl rfl
              have hQ' : Q (exOf ex') { a with defers := [{ target := .collected D, args := #[] }] ++ a.defers } (w2.putObj (D + 1) (.loop { recOf r0 t.stop with state := .exhausted })) := by
                have hx3 : Ext β β2 F F2 w1 (w2.putObj (D + 1) (.loop { recOf r0 t.stop with state := .exhausted })) := ⟨hs3.ext.place, fun b x hf => ⟨(hs3.ext.froz b x hf).1, (hs3.ext.froz b x hf).2.trans (cl_putObj hl rfl rfl b x)⟩⟩
                refine hQ _ ({ target := .collected D, args := #[] } :: ds) _ _ β2 F2 hleB (.cons D ds ?_ hKD ?_ ?_ (hmk.le hleB)) (by simpa [Base.turn] using hS2.inv.kin) ⟨hs3.inv, hx3.env hS2.env, by simp [hS.defers], hS.size, hs3.fresh, fun i lc hi => hs3.ext.place _ _ (hS.ext.place i lc hi), fun b x hf => ?_⟩
                · have := hS.inv.size; omega
                · show (w1.putObj (D + 1) _).heap[D]? = _
                  rw [World.putObj_heap_other (by omega)]
                  exact hD
                · intro d hd hE
                  have := hmk.lt hS.inv.kin d hd D hE
                  have := hS.inv.size
                  omega
                · exact hs3.ext.froz b x hf
              cases hstop : t.stop with
              | none =>
                rw [hstop] at e2 hQ'
                simp only at e2
                subst e2
                exact hQ'
              | some ex =>
                rw [hstop] at e2 hQ'
                simp only at e2
                subst e2
                cases ex with
                | normal => exact wpIn_skip hQ'
                | exit i => exact wpIn_exit hQ'
                | ret => exact wpIn_ret hQ'
            cases ex0 with
            | normal => exact fin _ h2 rfl
            | ret => exact fin _ h2 rfl
            | exit i => cases h2
    · cases h
  · cases h

end
end Go.Proofs.Ytfdemnefkfkghaa.R
/- Code, whole. -/
namespace Go.Proofs.Ytfdemnefkfkghaa.R
set_option linter.unusedVariables false
set_option linter.unusedSimpArgs false
open Go Go.RowKit

section
variable {P : Program} {cx : Cx} {R ntmps : Nat} {gcs : List AGc}

/-- What is left behind code: 'top' false: the base stays. -/
structure After (top : Bool) (N : Nat) (B : Base) (ds : List Deferred) (B' : Base) (ds' : List Deferred) : Prop where
  le : BLe B B'
  marks : Marks N B' ds'
  kin : ∀ b, B'.K b → b < B'.w0.heap.size
  size : N ≤ B'.w0.heap.size
  same : top = false → B' = B ∧ ds' = ds
theorem After.trans {top : Bool} {N : Nat} {B B' B'' : Base} {ds ds' ds'' : List Deferred} (h : After top N B ds B' ds') (k : After top N B' ds' B'' ds'') : After top N B ds B'' ds'' :=
  ⟨h.le.trans k.le, k.marks, k.kin, k.size, fun e => ⟨(k.same e).1.trans (h.same e).1, (k.same e).2.trans (h.same e).2⟩⟩

theorem code_ok (hcx : CxOK P cx) (hm : P.follows .mixedOrders = true) (hfc : FnsCode P cx.fns) : ∀ (c : Code) (top : Bool) (r : Option Nat) (n N keep : Nat) (β0 : Place) (_ : ∀ i, keep ≤ i → β0 i = none) (B : Base) (ds : List Deferred) (id : Option Nat) (s : St) (ex : Ex) (s' : St) (a : Act) (w : World) (β : Place) (F : Froz) (Q : Exit → Act → World → Prop), (top = true → r = none) → codeOK top c = true →
    acode cx ntmps keep R gcs c id s = some (ex, s') → Sim B β0 ntmps ds s a w β F → After top N B ds B ds → (∀ B' ds' a' w' β' F', After top N B ds B' ds' → Sim B' β0 ntmps ds' s' a' w' β' F' → Q (exOf ex) a' w') → c.wpIn (fr r) n P Q a w
  | .skip, top, r, n, N, keep, β0, hk, B, ds, id, s, ex, s', a, w, β, F, Q, hr, hc, h, hS, hA, hQ => by
    simp only [acode, Option.some.injEq, Prod.mk.injEq] at h
    obtain ⟨rfl, rfl⟩ := h
    exact wpIn_skip (hQ _ _ _ _ _ _ hA hS)
  | .region rid ops draw, top, r, n, N, keep, β0, hk, B, ds, id, s, ex, s', a, w, β, F, Q, hr, hc, h, hS, hA, hQ => by
    simp only [acode, aregion, Option.map_eq_some_iff, Prod.mk.injEq] at h
    obtain ⟨s1, h1, rfl, rfl⟩ := h
    exact wpIn_mono (region_ok hcx hm hc h1 hS (Q := fun a' w' => Q (exOf .normal) a' w') fun a' w' β' F' hS' hst => hQ _ _ _ _ _ _ hA hS') (by rintro e a' w' ⟨rfl, h⟩; exact h)
  | .seq x y, top, r, n, N, keep, β0, hk, B, ds, id, s, ex, s', a, w, β, F, Q, hr, hc, h, hS, hA, hQ => by
    simp only [codeOK, Bool.and_eq_true] at hc
    simp only [acode, Option.bind_eq_some_iff] at h
    obtain ⟨⟨ex1, s1⟩, h1, h2⟩ := h
    refine wpIn_seq (code_ok hcx hm hfc x top r n N keep β0 hk B ds none s ex1 s1 a w β F _ hr hc.1 h1 hS hA fun B' ds' a' w' β' F' hA' hS' => ?_)
    cases ex1 with
    | normal => exact code_ok hcx hm hfc y top r n N keep β0 hk B' ds' none s1 ex s' a' w' β' F' Q hr hc.2 h2 hS' ⟨.refl _, hA'.marks, hA'.kin, hA'.size, fun _ => ⟨rfl, rfl⟩⟩ fun B2 ds2 a2 w2 β2 F2 hA2 hS2 => hQ _ _ _ _ _ _ (hA'.trans hA2) hS2
    | exit i =>
      simp only [Option.some.injEq, Prod.mk.injEq] at h2
      obtain ⟨rfl, rfl⟩ := h2
      exact hQ _ _ _ _ _ _ hA' hS'
    | ret =>
      simp only [Option.some.injEq, Prod.mk.injEq] at h2
      obtain ⟨rfl, rfl⟩ := h2
      exact hQ _ _ _ _ _ _ hA' hS'
  | .cond c x y, top, r, n, N, keep, β0, hk, B, ds, id, s, ex, s', a, w, β, F, Q, hr, hc, h, hS, hA, hQ => by
    simp only [codeOK, Bool.and_eq_true] at hc
    simp only [acode] at h
    have hrel := ev_rel hS.env c
    split at h
    · rename_i hev
      simp only [hev] at hrel
      refine wpIn_cond (t := true) (by generalize a.eval c = cv at hrel; cases hrel; rfl) ?_
      exact code_ok hcx hm hfc x top r n N keep β0 hk B ds none s ex s' a w β F Q hr hc.1 h hS hA hQ
    · rename_i hev
      simp only [hev] at hrel
      refine wpIn_cond (t := false) (by generalize a.eval c = cv at hrel; cases hrel; rfl) ?_
      exact code_ok hcx hm hfc y top r n N keep β0 hk B ds none s ex s' a w β F Q hr hc.2 h hS hA hQ
    · cases h
  | .block bid c, top, r, n, N, keep, β0, hk, B, ds, id, s, ex, s', a, w, β, F, Q, hr, hc, h, hS, hA, hQ => by
    simp only [acode, Option.map_eq_some_iff] at h
    obtain ⟨⟨ex1, s1⟩, h1, h2⟩ := h
    refine wpIn_block (code_ok hcx hm hfc c top r n N keep β0 hk B ds (some bid) s ex1 s1 a w β F _ hr (by simpa [codeOK] using hc) h1 hS hA fun B' ds' a' w' β' F' hA' hS' => ?_)
    cases ex1 with
    | normal =>
      simp only [Prod.mk.injEq] at h2
      obtain ⟨rfl, rfl⟩ := h2
      exact hQ _ _ _ _ _ _ hA' hS'
    | exit i =>
      simp only at h2
      by_cases e : i = bid
      · rw [if_pos e] at h2
        simp only [Prod.mk.injEq] at h2
        obtain ⟨rfl, rfl⟩ := h2
        simp only [exOf, Exit.inBlock, e, if_true]
        exact hQ _ _ _ _ _ _ hA' hS'
      · rw [if_neg e] at h2
        simp only [Prod.mk.injEq] at h2
        obtain ⟨rfl, rfl⟩ := h2
        simp only [exOf, Exit.inBlock, e, if_false]
        exact hQ _ _ _ _ _ _ hA' hS'
    | ret =>
      simp only [Prod.mk.injEq] at h2
      obtain ⟨rfl, rfl⟩ := h2
      exact hQ _ _ _ _ _ _ hA' hS'
  | .loop c, top, r, n, N, keep, β0, hk, B, ds, id, s, ex, s', a, w, β, F, Q, hr, hc, h, hS, hA, hQ => by
    simp only [acode] at h
    have key : ∀ (m : Nat) (B1 : Base) (ds1 : List Deferred) (s : St) (a : Act) (w : World) (β : Place) (F : Froz), rounds (fun s => (head keep (gcOf gcs id) s).bind fun s => acode cx ntmps keep R gcs c none s) m s = some (ex, s') → Sim B1 β0 ntmps ds1 s a w β F → After top N B ds B1 ds1 →
        Code.roundsIn (fr r) n P c Q m a w := by
      intro m
      induction m with
      | zero => intro B1 ds1 s a w β F h _ _; simp [rounds] at h
      | succ m ih =>
        intro B1 ds1 s a w β F h hS hA1
        unfold rounds at h
        cases hb : (head keep (gcOf gcs id) s).bind fun s => acode cx ntmps keep R gcs c none s with
        | none => simp [hb] at h
        | some rr =>
          obtain ⟨ex1, s1⟩ := rr
          simp only [hb] at h
          rw [Option.bind_eq_some_iff] at hb
          obtain ⟨s0, hb1, hb2⟩ := hb
          obtain ⟨β1, hS1⟩ := head_ok hk hb1 hS
          rw [roundsIn_succ]
          refine code_ok hcx hm hfc c top r n N keep β0 hk B1 ds1 none s0 ex1 s1 a w β1 F _ hr (by simpa [codeOK] using hc) hb2 hS1 ⟨.refl _, hA1.marks, hA1.kin, hA1.size, fun _ => ⟨rfl, rfl⟩⟩ fun B' ds' a' w' β' F' hA' hS' => ?_
          cases ex1 with
          | normal => exact ih B' ds' s1 a' w' β' F' h hS' (hA1.trans hA')
          | exit i =>
            simp only [Option.some.injEq, Prod.mk.injEq] at h
            obtain ⟨rfl, rfl⟩ := h
            exact hQ _ _ _ _ _ _ (hA1.trans hA') hS'
          | ret =>
            simp only [Option.some.injEq, Prod.mk.injEq] at h
            obtain ⟨rfl, rfl⟩ := h
            exact hQ _ _ _ _ _ _ (hA1.trans hA') hS'
    exact wpIn_loop_rounds R (key R B ds s a w β F h hS hA)
  | .exit i, top, r, n, N, keep, β0, hk, B, ds, id, s, ex, s', a, w, β, F, Q, hr, hc, h, hS, hA, hQ => by
    simp only [acode, Option.some.injEq, Prod.mk.injEq] at h
    obtain ⟨rfl, rfl⟩ := h
    exact wpIn_exit (hQ _ _ _ _ _ _ hA hS)
  | .ret, top, r, n, N, keep, β0, hk, B, ds, id, s, ex, s', a, w, β, F, Q, hr, hc, h, hS, hA, hQ => by
    simp only [acode, Option.some.injEq, Prod.mk.injEq] at h
    obtain ⟨rfl, rfl⟩ := h
    exact wpIn_ret (hQ _ _ _ _ _ _ hA hS)
  | .rangeFunc g ps assign body, top, r, n, N, keep, β0, hk, B, ds, id, s, ex, s', a, w, β, F, Q, hr, hc, h, hS, hA, hQ => by
    simp only [codeOK, Bool.and_eq_true] at hc
    obtain ⟨⟨htop, hc1⟩, hc2⟩ := hc
    subst htop
    have := hr rfl
    subst this
    have round : ∀ (c : Code), (∀ (top : Bool) (r : Option Nat) (n N keep : Nat) (β0 : Place) (_ : ∀ i, keep ≤ i → β0 i = none) (B : Base) (ds : List Deferred) (id : Option Nat) (s : St) (ex : Ex) (s' : St) (a : Act) (w : World) (β : Place) (F : Froz) (Q : Exit → Act → World → Prop), (top = true → r = none) → codeOK top c = true →
      acode cx ntmps keep R gcs c id s = some (ex, s') → Sim B β0 ntmps ds s a w β F → After top N B ds B ds → (∀ B' ds' a' w' β' F', After top N B ds B' ds' → Sim B' β0 ntmps ds' s' a' w' β' F' → Q (exOf ex) a' w') → c.wpIn (fr r) n P Q a w) →
        codeOK false c = true → RoundCode P cx R ntmps gcs c := fun c hcode hc l n keep B β0 hk s ex s' a w β F Q h hS hQ => by
      refine hcode false (some l) n 0 keep β0 hk B [] none s ex s' a w β F Q (by simp) hc h hS ⟨.refl _, .nil, hS.inv.kin, Nat.zero_le _, fun _ => ⟨rfl, rfl⟩⟩ fun B' ds' a' w' β' F' hA' hS' => ?_
      obtain ⟨rfl, rfl⟩ := hA'.same rfl
      exact hQ a' w' β' F' hS'
    exact range_ok hcx hm hfc (round assign (fun top r n N keep β0 hk B ds id s ex s' a w β F Q => code_ok hcx hm hfc assign top r n N keep β0 hk B ds id s ex s' a w β F Q) hc1) (round body (fun top r n N keep β0 hk B ds id s ex s' a w β F Q => code_ok hcx hm hfc body top r n N keep β0 hk B ds id s ex s' a w β F Q) hc2) hA.size h hS hA.marks fun B' ds' a' w' β' F' hle hmk hkin hS' =>
      hQ B' ds' a' w' β' F' ⟨hle, hmk, hkin, Nat.le_trans hA.size hle.size, by simp⟩ hS'
  | .scope .., top, r, n, N, keep, β0, hk, B, ds, id, s, ex, s', a, w, β, F, Q, hr, hc, h, hS, hA, hQ | .label .., top, r, n, N, keep, β0, hk, B, ds, id, s, ex, s', a, w, β, F, Q, hr, hc, h, hS, hA, hQ | .goto .., top, r, n, N, keep, β0, hk, B, ds, id, s, ex, s', a, w, β, F, Q, hr, hc, h, hS, hA, hQ | .refuse .., top, r, n, N, keep, β0, hk, B, ds, id, s, ex, s', a, w, β, F, Q, hr, hc, h, hS, hA, hQ => by
    simp [acode] at h

/-- Marks are left with. -/
theorem leaves_ok {fc : Func} {N n : Nat} {Rr : Ending → World → Prop} {tmps : Array Value} {B0 : Base} {β : Place} {F : Froz} {H : Heap} (hlt : ∀ b, B0.K b → b < N) : ∀ (ds : List Deferred) (B : Base) (w : World), Marks N B ds → BLe B0 B → Inv B β F H w → Inv B0 β F H w →
    (∀ w', (∀ b o, cl w' b o = cl w b o) → Inv B0 β F H w' → LeavesInM (fr none) n P fc tmps Rr [] .returning w') → LeavesInM (fr none) n P fc tmps Rr ds .returning w
  | [], B, w, hm, hle, hB, hI, h => h w (fun _ _ => rfl) hI
  | d :: ds, B, w, hm, hle, hB, hI, h => by
    cases hm with
    | cons D _ hN hK h0 hd hm =>
      have hw : w.heap[D]? = some (.deferred (some [])) := (hB.keep D hK).trans h0
      have hcl := cl_putObj (o' := .deferred none) hw rfl rfl
      refine ⟨by simp, .inl ⟨D, w.putObj D (.deferred none), rfl, run_takeDeferred hw, ?_⟩⟩
      have hx : Ext β β F F w (w.putObj D (.deferred none)) := ⟨fun _ _ h => h, fun b x hf => ⟨hf, hcl b x⟩⟩
      have turn : ∀ (B1 : Base), Inv B1 β F H w → (∀ b, B1.K b → b ≠ D) → Inv B1 β F H (w.putObj D (.deferred none)) := fun B1 hi hne => by
        refine ⟨hi.os, hi.tape, hi.output, by simpa using hi.size, fun b hb => (World.putObj_heap_other (hne b hb)).trans (hi.keep b hb), hi.kin, hi.inj, fun i lc b h1 h2 => by simpa using hi.fresh i lc b h1 h2, fun i ob ho => ?_, fun b x hf => by simpa using hi.froz b x hf, hi.prot⟩
        obtain ⟨lc, h1, h2⟩ := hi.obs i ob ho
        refine ⟨lc, h1, h2.keep hx fun b hb => World.putObj_heap_other fun e => ?_⟩
        subst e
        exact (hB.fresh i lc _ h1 hb).2 hK
      -- the base without D
      let B2 : Base := ⟨B.w0, fun b => B.K b ∧ b ≠ D, B.F0⟩
      have hB2 : Inv B2 β F H w := ⟨hB.os, hB.tape, hB.output, hB.size, fun b hb => hB.keep b hb.1, fun b hb => hB.kin b hb.1, hB.inj, fun i l b h1 h2 => ⟨(hB.fresh i l b h1 h2).1, fun hb => (hB.fresh i l b h1 h2).2 hb.1⟩, hB.obs, fun b o hf => ⟨(hB.froz b o hf).1, fun hb => (hB.froz b o hf).2 hb.1⟩, hB.prot⟩
      have hm2 : ∀ ds : List Deferred, (∀ d ∈ ds, d.target ≠ .collected D) → Marks N B ds → Marks N B2 ds := by
        intro ds hd hm
        induction hm with
        | nil => exact .nil
        | cons E ds hN hK h0 hd' hm ih => exact .cons E ds hN ⟨hK, fun e => hd _ (.head _) (by rw [e])⟩ h0 hd' (ih fun d h => hd d (.tail _ h))
      have hne0 : ∀ b, B0.K b → b ≠ D := fun b hb e => by have := hlt b hb; omega
      refine leaves_ok hlt ds B2 _ (hm2 ds hd hm) ⟨fun b hb => ⟨hle.k b hb, hne0 b hb⟩, hle.same, hle.size, hle.os, hle.tape, hle.output, hle.f0, hle.f1⟩ (turn B2 hB2 fun b hb => hb.2) (turn B0 hI hne0) fun w' hw' hI' => h w' (fun b o => (hw' b o).trans (hcl b o)) hI'
end
end Go.Proofs.Ytfdemnefkfkghaa.R
/- Functions: what they answer, and the whole. -/
namespace Go.Proofs.Ytfdemnefkfkghaa.R
set_option linter.unusedVariables false
set_option linter.unusedSimpArgs false
open Go Go.RowKit

section
variable {P : Program} {cx : Cx} {B : Base} {β0 : Place} {ntmps keep : Nat} {T : TT}

theorem finish_ok (hk : ∀ i, keep ≤ i → β0 i = none) {w : World} {β : Place} {F : Froz} {H h' : Heap} {rfz : Bool} {v r : V} {cv : Value} (h : finish keep rfz v H = some (r, h')) (hI : Inv B β F H w) (hx : Ext β0 β B.F0 F B.w0 w) (hr : Rel F (cl w) β v cv) :
    ∃ β' F', Rel F' (cl w) β' r cv ∧ Inv B β' F' h' w ∧ Ext β0 β' B.F0 F' B.w0 w := by
  have key : ∀ (v : V) (H : Heap) (F : Froz), (let l := reach keep H 4096 (upto keep (V.ids v)) []
      if begins keep 0 l then (V.re (idx l) v).bind fun v => (pull H (idx l) l).map fun h => (v, h) else none) = some (r, h') → Inv B β F H w → Ext β0 β B.F0 F B.w0 w → Rel F (cl w) β v cv →
      ∃ β' F', Rel F' (cl w) β' r cv ∧ Inv B β' F' h' w ∧ Ext β0 β' B.F0 F' B.w0 w := by
    intro v H F h hI hx hr
    simp only at h
    generalize hl : reach keep H 4096 (upto keep (V.ids v)) [] = l at h
    have hnd : l.Nodup := by rw [← hl]; exact reach_nodup _ _ _ _ _ (by simp)
    split at h
    · rename_i hb
      simp only [Option.bind_eq_some_iff, Option.map_eq_some_iff, Prod.mk.injEq] at h
      obtain ⟨v1, hv, h1, hh, rfl, rfl⟩ := h
      obtain ⟨p1, p2⟩ := pull_get hh
      have hβ : ∀ i j, idx l i = some j → (fun j => (l[j]?).bind β) j = β i := fun i j hj => by simp [idx_get hj]
      refine ⟨fun j => (l[j]?).bind β, F, hr.re hβ hv, hI.renum (fun j => l[j]?) (idx l) (fun i j h => idx_get h) (fun j k i h1 h2 => nodup_at hnd h1 h2) p2, fun i lc hi => ?_, hx.froz⟩
      have hlt : i < keep := by
        rcases Nat.lt_or_ge i keep with h | h
        · exact h
        · rw [hk i h] at hi; cases hi
      have := begins_get hb i hlt
      rw [Nat.zero_add] at this
      simp only [this, Option.bind_some]
      exact hx.place i lc hi
    · cases h
  unfold finish at h
  simp only [Option.bind_eq_some_iff] at h
  obtain ⟨⟨v1, H1⟩, h1, h2⟩ := h
  cases rfz with
  | false =>
    simp only [Bool.false_eq_true, if_false, Option.some.injEq, Prod.mk.injEq] at h1
    obtain ⟨rfl, rfl⟩ := h1
    exact key v H F h2 hI hx hr
  | true =>
    simp only [if_true, Option.map_eq_some_iff, Prod.mk.injEq] at h1
    obtain ⟨⟨⟨v2, u⟩, l⟩, h3, rfl, rfl⟩ := h1
    obtain ⟨x', u', l1, h4, h5, h6⟩ := frz_ok hI v _ [] _ cv h3 hr
    simp only [Rd.run, Option.some.injEq, Prod.mk.injEq] at h4
    obtain ⟨⟨rfl, rfl⟩, _⟩ := h4
    exact key _ _ _ h2 (hI.also h6) (hx.trans ⟨fun _ _ h => h, fun b o hf => ⟨.inl hf, rfl⟩⟩) h5

theorem runFn_ok (hcx : CxOK P cx) (hm : P.follows .mixedOrders = true) (hfc : FnsCode P cx.fns) {g : FuncId} {fn : AFn} {R : Nat} {fc : Func} (hf : P.funcs[g]? = some fc) (hb : fc.body = some fn.body) (hn : fc.ntmps = fn.ntmps) (hres : fc.results.toList = fn.res) (hc : codeOK true fn.body = true) :
    FunOK P g (runFn cx fn R) := by
  intro args hs r h heq β F w cargs hI hfresh hargs
  unfold runFn at heq
  split at heq
  · cases heq
  · rename_i hlen
    rw [Option.bind_eq_some_iff] at heq
    obtain ⟨⟨ex, s⟩, hcode, h2⟩ := heq
    have hsz := hargs.size
    rw [← calls_fr (r := none) (n := 0)]
    refine callsIn_of_wp_marks hf hb trivial (code_ok hcx hm hfc fn.body true none 0 w.heap.size hs.length β hfresh ⟨w, KOf β w, F⟩ [] none _ ex s _ w β F _ (fun _ => rfl) hc hcode ⟨hI, by rw [hn]; exact args_env _ hargs, rfl, ?_, by simpa using hfresh, .refl _ _ _⟩ ⟨.refl _, .nil, hI.kin, Nat.le_refl _, by simp⟩ fun B' ds' a' w' β' F' hA' hS' => ?_)
    · simp only [Array.size_append, Array.size_replicate]
      omega
    · have hS0 := hS'.rebase hA'.le hI.kin
      have fin : (resAll cx.T s fn.res).bind (fun vs => finish hs.length fn.rfz (oneOf vs) s.heap) = some (r, h) → LeavesInM (fr none) 0 P fc a'.tmps (fun e w' => ∃ cv β' F', e = .returned cv ∧ Post w β F r h cv w' β' F') a'.defers .returning w' := by
        intro h2
        rw [Option.bind_eq_some_iff] at h2
        obtain ⟨vs, hvs, hfin⟩ := h2
        rw [hS'.defers]
        refine leaves_ok (B0 := ⟨w, KOf β w, F⟩) hI.kin ds' B' w' hA'.marks hA'.le hS'.inv hS0.inv fun w2 hcl hI2 => ?_
        have hx : Ext β' β' F' F' w' w2 := ⟨fun _ _ h => h, fun b o hf => ⟨hf, hcl b o⟩⟩
        have hS2 : Sim ⟨w, KOf β w, F⟩ β fn.ntmps ds' s a' w2 β' F' := ⟨hI2, hx.env hS0.env, hS0.defers, hS0.size, hS0.fresh, hS0.ext.trans hx⟩
        obtain ⟨cv, h3, h4⟩ := results_ok hcx.types hS2 (fn := fc) (by rw [hres]; exact hvs)
        obtain ⟨β2, F2, h5, h6, h7⟩ := finish_ok hfresh hfin hS2.inv hS2.ext h4
        exact ⟨cv, h3, cv, β2, F2, rfl, h5, h6, h7⟩
      cases ex with
      | normal => exact fin h2
      | ret => exact fin h2
      | exit i => cases h2

/-- A function of the table is one of the program's. -/
structure FnGood (P : Program) (g : FuncId) (fn : AFn) : Prop where
  fc : ∃ fc : Func, P.funcs[g]? = some fc ∧ (fc.name == "runtime.NumGoroutine") = false ∧ fc.body.isNone = false ∧ (fn.intr = none → fc.body = some fn.body ∧ fc.ntmps = fn.ntmps ∧ fc.results.toList = fn.res ∧ codeOK true fn.body = true)
  intr : ∀ st bytes, fn.intr = some (st, bytes) → FunOK P g (cloneFn st bytes)

theorem acall_ok (hT : TOK P T) (hm : P.follows .mixedOrders = true) {fns : FuncId → Option AFn} {R : Nat} (hF : ∀ g fn, fns g = some fn → FnGood P g fn) : ∀ (d : Nat) (g : FuncId), FunOK P g (acall T fns R d g)
  | 0, g => fun args hs r h heq => by simp [acall] at heq
  | d + 1, g => fun args hs r h heq => by
    unfold acall at heq
    split at heq
    · cases heq
    · rename_i fn hfn
      have hg := hF g fn hfn
      split at heq
      · rename_i st bytes hi
        exact hg.intr st bytes hi args hs r h heq
      · rename_i hi
        obtain ⟨fc, h1, h2, h3, h4⟩ := hg.fc
        obtain ⟨h5, h6, h7, h8⟩ := h4 hi
        refine runFn_ok (cx := { T, fns, call := acall T fns R d }) ⟨hT, ⟨fun g fn hfn => ?_⟩, fun g fn hfn => acall_ok hT hm hF d g⟩ hm ⟨fun g fn hfn hi => ?_⟩ h1 h5 h6 h7 h8 args hs r h heq
        · obtain ⟨fc, a1, a2, a3, _⟩ := (hF g fn hfn).fc
          exact ⟨fc, a1, a3, a2⟩
        · obtain ⟨fc, a1, a2, a3, a4⟩ := (hF g fn hfn).fc
          obtain ⟨b1, b2, b3, b4⟩ := a4 hi
          exact ⟨fc, a1, a2, b1, b2, b3, b4⟩

end

end Go.Proofs.Ytfdemnefkfkghaa.R
/- slices.Clone, of elements of any type. -/
namespace Go.Proofs.Ytfdemnefkfkghaa.R
set_option linter.unusedVariables false
set_option linter.unusedSimpArgs false
open Go Go.RowKit

def cl0 (t : TypeId) : Array Oper := #[{ dst := some 2, op := .assign (.const (.slice none 0 0)), type := t, pos := "slices.go:355", after := #[], guard := none }]
def cl1 (t : TypeId) : Array Oper := #[{ dst := some 3, op := .move (.tmp 0), type := t, pos := "slices.go:357", after := #[], guard := none },
  { dst := some 4, op := .binOp .eql t (.tmp 3) (.const (.slice none 0 0)) t, type := 4, pos := "slices.go:357", after := #[{ on := 0, ground := .data }], guard := none }]
def cl2 (t : TypeId) : Array Oper := #[{ dst := some 2, op := .assign (.const (.slice none 0 0)), type := t, pos := "slices.go:358", after := #[], guard := none }]
def cl3 (t : TypeId) : Array Oper := #[{ dst := some 5, op := .buildSlice t 0 #[], type := t, pos := "slices.go:362", after := #[], guard := none },
  { dst := some 6, op := .move (.tmp 0), type := t, pos := "slices.go:362", after := #[], guard := none },
  { dst := some 7, op := .call { callee := .builtin .append, args := #[.tmp 5, .tmp 6], argTypes := #[t, t] }, type := t, pos := "slices.go:362", after := #[{ on := 0, ground := .data }, { on := 1, ground := .data }], guard := none },
  { dst := some 2, op := .assign (.tmp 7), type := t, pos := "slices.go:362", after := #[{ on := 2, ground := .data }, { on := 2, ground := .chain }, { on := 0, ground := .phase }, { on := 1, ground := .phase }, { on := 2, ground := .phase }], guard := none }]
/-- The code of slices.Clone at the slices' type 't'. -/
def cloneCode (t : TypeId) : Code := (Code.region 0 (cl0 t) false).seq (((Code.region 1 (cl1 t) false).seq (.cond (.tmp 4) ((Code.region 2 (cl2 t) false).seq .ret) .skip)).seq ((Code.region 3 (cl3 t) false).seq .ret))

section
variable {P : Program} {T : TT}

theorem code_wp {cx : Cx} {R ntmps keep : Nat} {gcs : List AGc} {B : Base} {β0 : Place} (hcx : CxOK P cx) (hm : P.follows .mixedOrders = true) (hfc : FnsCode P cx.fns) (hk : ∀ i, keep ≤ i → β0 i = none) (c : Code) (id : Option Nat) (s : St) (ex : Ex) (s' : St) (a : Act) (w : World) (β : Place) (F : Froz) (Q : Exit → Act → World → Prop) (hc : codeOK false c = true)
    (h : acode cx ntmps keep R gcs c id s = some (ex, s')) (hS : Sim B β0 ntmps [] s a w β F) (hQ : ∀ a' w' β' F', Sim B β0 ntmps [] s' a' w' β' F' → Q (exOf ex) a' w') : c.wp P Q a w := by
  have h1 : c.wpIn (fr none) 0 P Q a w := code_ok hcx hm hfc c false none 0 0 keep β0 hk B [] id s ex s' a w β F Q (fun _ => rfl) hc h hS ⟨.refl _, .nil, hS.inv.kin, Nat.zero_le _, fun _ => ⟨rfl, rfl⟩⟩ fun B' ds' a' w' β' F' hA' hS' => by
    obtain ⟨rfl, rfl⟩ := hA'.same rfl
    exact hQ a' w' β' F' hS'
  exact wpIn_wide.1 h1

theorem clone_ok (hT : TOK P T) (hm : P.follows .mixedOrders = true) {g : FuncId} {fc : Func} {t el : TypeId} {ti ti' : TI} (hti' : T t = some ti') (hk : ti'.kd = .slice el) (hti : T el = some ti) (hbz : 0 < ti.bytes)
    (hf : P.funcs[g]? = some fc) (hb : fc.body = some (cloneCode t)) (hn : fc.ntmps = 8) (hres : fc.results.toList = [.tmp 2]) : FunOK P g (cloneFn ti.size ti.bytes) := by
  intro args hs r h heq β F w cargs hI hfresh hargs
  unfold cloneFn at heq
  split at heq
  · rename_i rows
    split at heq
    · rename_i hc
      obtain ⟨h0, hall, hbytes⟩ := hc
      simp only [Option.some.injEq, Prod.mk.injEq] at heq
      obtain ⟨rfl, rfl⟩ := heq
      have hsz : cargs.size = 1 := hargs.size
      have hu := (hT.told hti').slice hk
      obtain ⟨cv0, rfl⟩ : ∃ cv0, cargs = #[cv0] := Array.size_eq_one_iff.1 hsz
      have hr0 : Rel F (cl w) β (.fz rows) cv0 := by simpa [Array.getD] using hargs.at_ 0 _ rfl
      have hcx : CxOK P { T, fns := fun _ => none, call := fun _ _ _ => none } := ⟨hT, ⟨fun g fn h => by cases h⟩, fun g fn h => by cases h⟩
      have hfc0 : FnsCode P (fun _ => none) := ⟨fun g fn h => by cases h⟩
      have fin : ∀ (e : Env) (a' : Act) (w' : World) (β' : Place) (F' : Froz) (H : Heap) (h' : Heap) (v : V) (r : V), finish 0 false v H = some (r, h') → Sim ⟨w, KOf β w, F⟩ β 8 [] { env := e, heap := H } a' w' β' F' → lk e 2 = v →
          bodyPost P fc (fun e w' => ∃ cv β' F', e = .returned cv ∧ Post w β F r h' cv w' β' F') .ret a' w' := by
        intro e a' w' β' F' H h' v r hfin hS hv
        obtain ⟨cv, h3, h4⟩ := results_ok hT hS (fn := fc) (vs := [v]) (by rw [hres]; simp [resAll, resOne, hv])
        obtain ⟨β2, F2, h5, h6, h7⟩ := finish_ok (keep := 0) (by simpa using hfresh) hfin hS.inv hS.ext h4
        exact ⟨hS.defers, cv, h3, cv, β2, F2, rfl, h5, h6, h7⟩
      refine calls_of_wp hf hb ?_
      have hS0 : Sim ⟨w, KOf β w, F⟩ β 8 [] { env := [(0, .fz rows)], heap := [] } { tmps := #[cv0] ++ Array.replicate (fc.ntmps - (#[cv0] : Array Value).size) undef, defers := [] } w β F := by
        refine ⟨hI, fun t => ?_, rfl, by simp [hn], by simpa using hfresh, .refl _ _ _⟩
        rw [lk_cons]
        by_cases e : 0 = t
        · subst e
          have : (#[cv0] ++ Array.replicate (fc.ntmps - (#[cv0] : Array Value).size) undef).getD 0 undef = cv0 := by simp [Array.getD, hn]
          simp only [this, if_true]
          exact hr0
        · rw [if_neg e]; exact .undef _ _
      unfold cloneCode
      refine wp_seq (code_wp hcx hm hfc0 (R := 0) (gcs := []) (keep := 0) (ntmps := 8) (by simpa using hfresh) _ none _ .normal { env := [(2, .nils), (0, .fz rows)], heap := [] } _ _ _ _ _ rfl rfl hS0 fun a1 w1 β1 F1 hS1 => ?_)
      have hr1 : Rel F1 (cl w1) β1 (.fz rows) (a1.tmps.getD 0 undef) := hS1.env 0
      obtain ⟨adr, cap, hcv⟩ : ∃ adr cap, a1.tmps.getD 0 undef = .slice adr rows.length cap ∧ (adr = none → rows = []) := by
        generalize a1.tmps.getD 0 undef = cv at hr1
        cases hr1 with
        | fz0 => exact ⟨_, _, rfl, fun _ => rfl⟩
        | fz => exact ⟨_, _, rfl, fun h => by cases h⟩
      have hS2 : Sim ⟨w, KOf β w, F⟩ β 8 [] { env := [(4, .bool adr.isNone), (3, .fz rows), (2, .nils), (0, .fz rows)], heap := [] } ((a1.put (some 3) (a1.tmps.getD 0 undef)).put (some 4) (.bool adr.isNone)) w1 β1 F1 := by
        obtain ⟨k1, k2, k3, _⟩ := putDst_env (d := some 3) hS1.env hS1.size hr1 (e' := [(3, .fz rows), (2, .nils), (0, .fz rows)]) rfl
        obtain ⟨g1, g2, g3, _⟩ := putDst_env (d := some 4) k1 k2 (Rel.bool β1 adr.isNone) (e' := [(4, .bool adr.isNone), (3, .fz rows), (2, .nils), (0, .fz rows)]) rfl
        exact ⟨hS1.inv, g1, by rw [g3, k3, hS1.defers], g2, hS1.fresh, hS1.ext⟩
      have first : ∀ Q : Exit → Act → World → Prop, Q .normal ((a1.put (some 3) (a1.tmps.getD 0 undef)).put (some 4) (.bool adr.isNone)) w1 → (Code.region 1 (cl1 t) false).wp P Q a1 w1 := by
        intro Q hQ
        refine wp_region ?_
        show wpOps P (cl1 t) _ [0, 1] a1 w1
        have hw0 : ∀ (a : Act), Region.wanted ((cl1 t)[0]'(by simp [cl1])) (yielded (cl1 t) a.tmps) = true := fun a => rfl
        have hw1 : ∀ (a : Act), Region.wanted ((cl1 t)[1]'(by simp [cl1])) (yielded (cl1 t) a.tmps) = true := fun a => rfl
        rw [wpOps_cons]
        unfold wpOp
        simp only [show (cl1 t)[0]? = some ((cl1 t)[0]'(by simp [cl1])) from rfl, hw0, if_true]
        left
        refine wp_value (cv := a1.tmps.getD 0 undef) rfl ?_
        rw [wpOps_cons]
        unfold wpOp
        simp only [show (cl1 t)[1]? = some ((cl1 t)[1]'(by simp [cl1])) from rfl, hw1, if_true]
        left
        refine wp_value (cv := .bool adr.isNone) ?_ hQ
        show (do pure (Next.value (← (do eqGuard .eql t (.tmp 3) (.const (.slice none 0 0)) ((a1.put (some 3) (a1.tmps.getD 0 undef)).eval (.tmp 3)) (.slice none 0 0); binOp .eql t ((a1.put (some 3) (a1.tmps.getD 0 undef)).eval (.tmp 3)) (.slice none 0 0) : Sem Value))) : Sem _).run P w1 = _
        have he : (a1.put (some 3) (a1.tmps.getD 0 undef)).eval (.tmp 3) = .slice adr rows.length cap := by
          have h3 : 3 < a1.tmps.size := by rw [hS1.size]; omega
          rw [hcv.1]
          simp [Act.eval, Act.put, Array.getD, h3]
        rw [he]
        have heq : (Op.equal t (.slice adr rows.length cap) (.slice none 0 0)).run P w1 = .ok adr.isNone w1 :=
          (show ∀ d, (Op.equalIn (d + 1) t _ _).run P w1 = _ from fun d => by cases adr <;> simp [Op.equalIn, run_underlying hu]) 9999
        rw [Sem.run_bind, Sem.run_bind, eqGuard_free (by simp) (by simp)]
        simp only [Result.andThen_ok]
        rw [show binOp .eql t (.slice adr rows.length cap) (.slice none 0 0) = (do pure (.bool (← Op.equal t (.slice adr rows.length cap) (.slice none 0 0))) : Sem Value) from rfl]
        simp [heq]
      refine wp_seq (wp_seq (first _ (wp_cond (t := adr.isNone) ?_ ?_)))
      · have := hS2.env 4
        show (((a1.put (some 3) (a1.tmps.getD 0 undef)).put (some 4) (.bool adr.isNone)).tmps.getD 4 undef) = _
        generalize ((a1.put (some 3) (a1.tmps.getD 0 undef)).put (some 4) (.bool adr.isNone)).tmps.getD 4 undef = cv at this
        cases this
        rfl
      cases hadr : adr with
      | none =>
        obtain rfl := hcv.2 hadr
        subst hadr
        simp only [Option.isNone_none, if_true]
        refine code_wp hcx hm hfc0 (R := 0) (gcs := []) (keep := 0) (ntmps := 8) (by simpa using hfresh) _ none _ .ret { env := [(2, .nils), (4, .bool true), (3, .fz []), (2, .nils), (0, .fz [])], heap := [] } _ _ _ _ _ rfl rfl hS2 fun a3 w3 β3 F3 hS3 => ?_
        have hI3 := hS3.inv.addNil (n := 0) (hS3.fresh 0 (Nat.le_refl _)) rfl ti.size
        have hx3 : Ext β3 (β3.set 0 .nil) F3 F3 w3 w3 := ⟨set_ext (hS3.fresh 0 (Nat.le_refl _)), fun _ _ h => ⟨h, rfl⟩⟩
        obtain ⟨cv, g3, g4⟩ := results_ok hT hS3 (fn := fc) (vs := [.nils]) (by rw [hres]; rfl)
        refine ⟨hS3.defers, cv, g3, cv, _, F3, rfl, ?_, hI3, hS3.ext.trans hx3⟩
        have g5 : Rel F3 (cl w3) β3 .nils cv := g4
        cases g5
        exact .ms0 _ _ _ _ (by simp [Place.set]) (by simp)
      | some ad =>
        subst hadr
        simp only [Option.isNone_some, Bool.false_eq_true, if_false]
        refine wp_skip ?_
        have hb' : ¬ (ti.size = 0 ∨ 16777216 < 0 * ti.size) := by omega
        have h1 : buildSliceR T 0 t 0 [] = .pure (.ms 0 ti.size 0 0 none, [(0, some (.buf ti.size [] false true))]) := by
          simp only [buildSliceR, hti', hk, hti, if_neg hb']
          rfl
        have h3 : appendB T 1 t t (.ms 0 ti.size 0 0 none) (.fz rows) = appendR ti 1 (.ms 0 ti.size 0 0 none) rows true := by
          simp only [appendB, hti', hk, hti, if_neg h0, rows?, hall, if_true]
        let cx : Cx := { T, fns := fun _ => none, call := fun _ _ _ => none }
        have three : ∀ v u l, (appendR ti 1 (.ms 0 ti.size 0 0 none) rows true).run [some (.buf ti.size [] false true)] [] = some ((v, u), l) →
            acode cx 8 0 0 [] ((Code.region 3 (cl3 t) false).seq .ret) none { env := [(4, .bool false), (3, .fz rows), (2, .nils), (0, .fz rows)], heap := [] } =
              some (.ret, { env := [(2, v), (7, v), (6, .fz rows), (5, .ms 0 ti.size 0 0 none), (4, .bool false), (3, .fz rows), (2, .nils), (0, .fz rows)], heap := Heap.puts [some (.buf ti.size [] false true)] u }) := by
          intro v u l hv
          show ((Option.map (fun s => (Ex.normal, s)) (match (buildSliceR T 0 t 0 []).run [] [] with
            | none => none
            | some ((v, u), _) => (putDst 8 [(4, .bool false), (3, .fz rows), (2, .nils), (0, .fz rows)] (some 5) v).bind fun e => runOps cx 8 (cl3 t) (cl3 t).toList.tail { env := e, heap := Heap.puts [] u })).bind _) = _
          rw [h1]
          show ((Option.map (fun s => (Ex.normal, s)) (match (appendB T 1 t t (.ms 0 ti.size 0 0 none) (.fz rows)).run [some (.buf ti.size [] false true)] [] with
            | none => none
            | some ((v, u), _) => (putDst 8 [(6, .fz rows), (5, .ms 0 ti.size 0 0 none), (4, .bool false), (3, .fz rows), (2, .nils), (0, .fz rows)] (some 7) v).bind fun e => runOps cx 8 (cl3 t) (cl3 t).toList.tail.tail.tail { env := e, heap := Heap.puts [some (.buf ti.size [] false true)] u })).bind _) = _
          rw [h3, hv]
          rfl
        by_cases hr : rows = []
        · subst hr
          refine code_wp hcx hm hfc0 (R := 0) (gcs := []) (keep := 0) (ntmps := 8) (by simpa using hfresh) _ none _ .ret _ _ _ _ _ _ rfl (three (.ms 0 ti.size 0 0 none) [] [] rfl) hS2 fun a3 w3 β3 F3 hS3 => ?_
          exact fin _ a3 w3 β3 F3 _ _ _ _ rfl hS3 rfl
        · have hl : rows.length ≠ 0 := by simpa using hr
          refine code_wp hcx hm hfc0 (R := 0) (gcs := []) (keep := 0) (ntmps := 8) (by simpa using hfresh) _ none _ .ret _ _ _ _ _ _ rfl (three (.ms 1 ti.size 0 rows.length none) [(0, none), (1, some (.buf ti.size rows false true))] [0] ?_) hS2 fun a3 w3 β3 F3 hS3 => ?_
          · have hle : rows.length ≤ rows.length * ti.bytes := Nat.le_mul_of_pos_right _ hbz
            simp only [appendR, if_neg hl, if_true, Rd.run, Heap.at?, Nat.zero_add, Nat.add_zero, List.length_nil, Nat.le_refl, true_and]
            rw [if_pos ⟨hbytes, by omega⟩]
            simp only [appendM, List.length_nil, Nat.zero_add]
            rw [if_neg (by omega)]
            simp [Rd.run]
          · exact fin _ a3 w3 β3 F3 _ _ _ _ rfl hS3 rfl
    · cases heq
  · cases heq
end
end Go.Proofs.Ytfdemnefkfkghaa.R
/- Types and functions are the program's. -/
namespace Go.Proofs.Ytfdemnefkfkghaa.R
open Go Go.Proofs
theorem tok_ : (table.zipIdx.all fun p => match p.1 with | some ti => tiOK Try.prog p.2 ti | none => true) = true := by kernel_rfl
theorem tok : TOK Try.prog T := fun t ti h => by
  have hl : table[t]? = some (some ti) := by
    unfold T at h
    split at h
    · rename_i x hx; rw [hx, h]
    · cases h
  have := List.all_eq_true.1 tok_ (some ti, t) (by
    rw [List.mem_iff_getElem?]
    exact ⟨t, by rw [List.getElem?_zipIdx, hl]; simp⟩)
  simpa using this
theorem mixed_ : Try.prog.follows .mixedOrders = true := by kernel_rfl
theorem good_3 : FnGood Try.prog 3 fn3 := ⟨⟨Try.f3, by kernel_rfl, by kernel_rfl, by kernel_rfl, fun _ => ⟨by kernel_rfl, by kernel_rfl, by kernel_rfl, by kernel_rfl⟩⟩, fun _ _ h => by cases h⟩
theorem good_4 : FnGood Try.prog 4 fn4 := ⟨⟨Try.f4, by kernel_rfl, by kernel_rfl, by kernel_rfl, fun _ => ⟨by kernel_rfl, by kernel_rfl, by kernel_rfl, by kernel_rfl⟩⟩, fun _ _ h => by cases h⟩
theorem good_12 : FnGood Try.prog 12 fn12 := ⟨⟨Try.f12, by kernel_rfl, by kernel_rfl, by kernel_rfl, fun _ => ⟨by kernel_rfl, by kernel_rfl, by kernel_rfl, by kernel_rfl⟩⟩, fun _ _ h => by cases h⟩
theorem good_13 : FnGood Try.prog 13 fn13 := ⟨⟨Try.f13, by kernel_rfl, by kernel_rfl, by kernel_rfl, fun _ => ⟨by kernel_rfl, by kernel_rfl, by kernel_rfl, by kernel_rfl⟩⟩, fun _ _ h => by cases h⟩
theorem good_14 : FnGood Try.prog 14 fn14 := ⟨⟨Try.f14, by kernel_rfl, by kernel_rfl, by kernel_rfl, fun _ => ⟨by kernel_rfl, by kernel_rfl, by kernel_rfl, by kernel_rfl⟩⟩, fun _ _ h => by cases h⟩
theorem good_15 : FnGood Try.prog 15 fn15 := ⟨⟨Try.f15, by kernel_rfl, by kernel_rfl, by kernel_rfl, fun _ => ⟨by kernel_rfl, by kernel_rfl, by kernel_rfl, by kernel_rfl⟩⟩, fun _ _ h => by cases h⟩
theorem good_16 : FnGood Try.prog 16 fn16 := ⟨⟨Try.f16, by kernel_rfl, by kernel_rfl, by kernel_rfl, fun _ => ⟨by kernel_rfl, by kernel_rfl, by kernel_rfl, by kernel_rfl⟩⟩, fun _ _ h => by cases h⟩
theorem good_17 : FnGood Try.prog 17 fn17 := ⟨⟨Try.f17, by kernel_rfl, by kernel_rfl, by kernel_rfl, fun _ => ⟨by kernel_rfl, by kernel_rfl, by kernel_rfl, by kernel_rfl⟩⟩, fun _ _ h => by cases h⟩
theorem good_18 : FnGood Try.prog 18 fn18 := ⟨⟨Try.f18, by kernel_rfl, by kernel_rfl, by kernel_rfl, fun _ => ⟨by kernel_rfl, by kernel_rfl, by kernel_rfl, by kernel_rfl⟩⟩, fun _ _ h => by cases h⟩
theorem good_19 : FnGood Try.prog 19 fn19 := ⟨⟨Try.f19, by kernel_rfl, by kernel_rfl, by kernel_rfl, fun _ => ⟨by kernel_rfl, by kernel_rfl, by kernel_rfl, by kernel_rfl⟩⟩, fun _ _ h => by cases h⟩
theorem good_34 : FnGood Try.prog 34 fn34 := ⟨⟨Try.f34, by kernel_rfl, by kernel_rfl, by kernel_rfl, fun _ => ⟨by kernel_rfl, by kernel_rfl, by kernel_rfl, by kernel_rfl⟩⟩, fun _ _ h => by cases h⟩
theorem good_44 : FnGood Try.prog 44 fn44 := ⟨⟨Try.f44, by kernel_rfl, by kernel_rfl, by kernel_rfl, fun _ => ⟨by kernel_rfl, by kernel_rfl, by kernel_rfl, by kernel_rfl⟩⟩, fun _ _ h => by cases h⟩
theorem good_50 : FnGood Try.prog 50 fn50 := ⟨⟨Try.f50, by kernel_rfl, by kernel_rfl, by kernel_rfl, fun _ => ⟨by kernel_rfl, by kernel_rfl, by kernel_rfl, by kernel_rfl⟩⟩, fun _ _ h => by cases h⟩
theorem good_51 : FnGood Try.prog 51 fn51 := ⟨⟨Try.f51, by kernel_rfl, by kernel_rfl, by kernel_rfl, fun _ => ⟨by kernel_rfl, by kernel_rfl, by kernel_rfl, by kernel_rfl⟩⟩, fun _ _ h => by cases h⟩
theorem good_52 : FnGood Try.prog 52 fn52 := ⟨⟨Try.f52, by kernel_rfl, by kernel_rfl, by kernel_rfl, fun _ => ⟨by kernel_rfl, by kernel_rfl, by kernel_rfl, by kernel_rfl⟩⟩, fun _ _ h => by cases h⟩
theorem good_53 : FnGood Try.prog 53 fn53 := ⟨⟨Try.f53, by kernel_rfl, by kernel_rfl, by kernel_rfl, fun _ => ⟨by kernel_rfl, by kernel_rfl, by kernel_rfl, by kernel_rfl⟩⟩, fun _ _ h => by cases h⟩
theorem good_54 : FnGood Try.prog 54 fn54 := ⟨⟨Try.f54, by kernel_rfl, by kernel_rfl, by kernel_rfl, fun _ => ⟨by kernel_rfl, by kernel_rfl, by kernel_rfl, by kernel_rfl⟩⟩, fun _ _ h => by cases h⟩
theorem good_55 : FnGood Try.prog 55 fn55 := ⟨⟨Try.f55, by kernel_rfl, by kernel_rfl, by kernel_rfl, fun _ => ⟨by kernel_rfl, by kernel_rfl, by kernel_rfl, by kernel_rfl⟩⟩, fun _ _ h => by cases h⟩
theorem good_56 : FnGood Try.prog 56 fn56 := ⟨⟨Try.f56, by kernel_rfl, by kernel_rfl, by kernel_rfl, fun _ => ⟨by kernel_rfl, by kernel_rfl, by kernel_rfl, by kernel_rfl⟩⟩, fun _ _ h => by cases h⟩
theorem good_57 : FnGood Try.prog 57 fn57 := ⟨⟨Try.f57, by kernel_rfl, by kernel_rfl, by kernel_rfl, fun _ => ⟨by kernel_rfl, by kernel_rfl, by kernel_rfl, by kernel_rfl⟩⟩, fun _ _ h => by cases h⟩
theorem good_58 : FnGood Try.prog 58 fn58 := ⟨⟨Try.f58, by kernel_rfl, by kernel_rfl, by kernel_rfl, fun _ => ⟨by kernel_rfl, by kernel_rfl, by kernel_rfl, by kernel_rfl⟩⟩, fun _ _ h => by cases h⟩
theorem good_59 : FnGood Try.prog 59 fn59 := ⟨⟨Try.f59, by kernel_rfl, by kernel_rfl, by kernel_rfl, fun _ => ⟨by kernel_rfl, by kernel_rfl, by kernel_rfl, by kernel_rfl⟩⟩, fun _ _ h => by cases h⟩
theorem good_60 : FnGood Try.prog 60 fn60 := ⟨⟨Try.f60, by kernel_rfl, by kernel_rfl, by kernel_rfl, fun _ => ⟨by kernel_rfl, by kernel_rfl, by kernel_rfl, by kernel_rfl⟩⟩, fun _ _ h => by cases h⟩
theorem good_61 : FnGood Try.prog 61 fn61 := ⟨⟨Try.f61, by kernel_rfl, by kernel_rfl, by kernel_rfl, fun _ => ⟨by kernel_rfl, by kernel_rfl, by kernel_rfl, by kernel_rfl⟩⟩, fun _ _ h => by cases h⟩
theorem good_62 : FnGood Try.prog 62 fn62 := ⟨⟨Try.f62, by kernel_rfl, by kernel_rfl, by kernel_rfl, fun _ => ⟨by kernel_rfl, by kernel_rfl, by kernel_rfl, by kernel_rfl⟩⟩, fun _ _ h => by cases h⟩
theorem good_63 : FnGood Try.prog 63 fn63 := ⟨⟨Try.f63, by kernel_rfl, by kernel_rfl, by kernel_rfl, fun _ => ⟨by kernel_rfl, by kernel_rfl, by kernel_rfl, by kernel_rfl⟩⟩, fun _ _ h => by cases h⟩
theorem good_64 : FnGood Try.prog 64 fn64 := ⟨⟨Try.f64, by kernel_rfl, by kernel_rfl, by kernel_rfl, fun _ => ⟨by kernel_rfl, by kernel_rfl, by kernel_rfl, by kernel_rfl⟩⟩, fun _ _ h => by cases h⟩
theorem good_65 : FnGood Try.prog 65 fn65 := ⟨⟨Try.f65, by kernel_rfl, by kernel_rfl, by kernel_rfl, fun _ => ⟨by kernel_rfl, by kernel_rfl, by kernel_rfl, by kernel_rfl⟩⟩, fun _ _ h => by cases h⟩
theorem good_66 : FnGood Try.prog 66 fn66 := ⟨⟨Try.f66, by kernel_rfl, by kernel_rfl, by kernel_rfl, fun _ => ⟨by kernel_rfl, by kernel_rfl, by kernel_rfl, by kernel_rfl⟩⟩, fun _ _ h => by cases h⟩
theorem good_67 : FnGood Try.prog 67 fn67 := ⟨⟨Try.f67, by kernel_rfl, by kernel_rfl, by kernel_rfl, fun _ => ⟨by kernel_rfl, by kernel_rfl, by kernel_rfl, by kernel_rfl⟩⟩, fun _ _ h => by cases h⟩
theorem good_68 : FnGood Try.prog 68 fn68 := ⟨⟨Try.f68, by kernel_rfl, by kernel_rfl, by kernel_rfl, fun _ => ⟨by kernel_rfl, by kernel_rfl, by kernel_rfl, by kernel_rfl⟩⟩, fun _ _ h => by cases h⟩
theorem good_69 : FnGood Try.prog 69 fn69 := ⟨⟨Try.f69, by kernel_rfl, by kernel_rfl, by kernel_rfl, fun _ => ⟨by kernel_rfl, by kernel_rfl, by kernel_rfl, by kernel_rfl⟩⟩, fun _ _ h => by cases h⟩
theorem good_70 : FnGood Try.prog 70 fn70 := ⟨⟨Try.f70, by kernel_rfl, by kernel_rfl, by kernel_rfl, fun _ => ⟨by kernel_rfl, by kernel_rfl, by kernel_rfl, by kernel_rfl⟩⟩, fun _ _ h => by cases h⟩
theorem good_71 : FnGood Try.prog 71 fn71 := ⟨⟨Try.f71, by kernel_rfl, by kernel_rfl, by kernel_rfl, fun _ => ⟨by kernel_rfl, by kernel_rfl, by kernel_rfl, by kernel_rfl⟩⟩, fun _ _ h => by cases h⟩
theorem good_90 : FnGood Try.prog 90 fn90 := ⟨⟨Try.f90, by kernel_rfl, by kernel_rfl, by kernel_rfl, fun _ => ⟨by kernel_rfl, by kernel_rfl, by kernel_rfl, by kernel_rfl⟩⟩, fun _ _ h => by cases h⟩
theorem good_111 : FnGood Try.prog 111 fn111 := ⟨⟨Try.f111, by kernel_rfl, by kernel_rfl, by kernel_rfl, fun _ => ⟨by kernel_rfl, by kernel_rfl, by kernel_rfl, by kernel_rfl⟩⟩, fun _ _ h => by cases h⟩
theorem good_112 : FnGood Try.prog 112 fn112 := ⟨⟨Try.f112, by kernel_rfl, by kernel_rfl, by kernel_rfl, fun _ => ⟨by kernel_rfl, by kernel_rfl, by kernel_rfl, by kernel_rfl⟩⟩, fun _ _ h => by cases h⟩
theorem good_113 : FnGood Try.prog 113 fn113 := ⟨⟨Try.f113, by kernel_rfl, by kernel_rfl, by kernel_rfl, fun _ => ⟨by kernel_rfl, by kernel_rfl, by kernel_rfl, by kernel_rfl⟩⟩, fun _ _ h => by cases h⟩
theorem good_114 : FnGood Try.prog 114 fn114 := ⟨⟨Try.f114, by kernel_rfl, by kernel_rfl, by kernel_rfl, fun _ => ⟨by kernel_rfl, by kernel_rfl, by kernel_rfl, by kernel_rfl⟩⟩, fun _ _ h => by cases h⟩
theorem good_115 : FnGood Try.prog 115 fn115 := ⟨⟨Try.f115, by kernel_rfl, by kernel_rfl, by kernel_rfl, fun _ => ⟨by kernel_rfl, by kernel_rfl, by kernel_rfl, by kernel_rfl⟩⟩, fun _ _ h => by cases h⟩
theorem good_116 : FnGood Try.prog 116 fn116 := ⟨⟨Try.f116, by kernel_rfl, by kernel_rfl, by kernel_rfl, fun _ => ⟨by kernel_rfl, by kernel_rfl, by kernel_rfl, by kernel_rfl⟩⟩, fun _ _ h => by cases h⟩
theorem good_117 : FnGood Try.prog 117 fn117 := ⟨⟨Try.f117, by kernel_rfl, by kernel_rfl, by kernel_rfl, fun _ => ⟨by kernel_rfl, by kernel_rfl, by kernel_rfl, by kernel_rfl⟩⟩, fun _ _ h => by cases h⟩
theorem good_118 : FnGood Try.prog 118 fn118 := ⟨⟨Try.f118, by kernel_rfl, by kernel_rfl, by kernel_rfl, fun _ => ⟨by kernel_rfl, by kernel_rfl, by kernel_rfl, by kernel_rfl⟩⟩, fun _ _ h => by cases h⟩
theorem good_119 : FnGood Try.prog 119 fn119 := ⟨⟨Try.f119, by kernel_rfl, by kernel_rfl, by kernel_rfl, fun _ => ⟨by kernel_rfl, by kernel_rfl, by kernel_rfl, by kernel_rfl⟩⟩, fun _ _ h => by cases h⟩
theorem good_120 : FnGood Try.prog 120 fn120 := ⟨⟨Try.f120, by kernel_rfl, by kernel_rfl, by kernel_rfl, fun _ => ⟨by kernel_rfl, by kernel_rfl, by kernel_rfl, by kernel_rfl⟩⟩, fun _ _ h => by cases h⟩
theorem good_121 : FnGood Try.prog 121 fn121 := ⟨⟨Try.f121, by kernel_rfl, by kernel_rfl, by kernel_rfl, fun _ => ⟨by kernel_rfl, by kernel_rfl, by kernel_rfl, by kernel_rfl⟩⟩, fun _ _ h => by cases h⟩
theorem good_122 : FnGood Try.prog 122 fn122 := ⟨⟨Try.f122, by kernel_rfl, by kernel_rfl, by kernel_rfl, fun _ => ⟨by kernel_rfl, by kernel_rfl, by kernel_rfl, by kernel_rfl⟩⟩, fun _ _ h => by cases h⟩
theorem good_123 : FnGood Try.prog 123 fn123 := ⟨⟨Try.f123, by kernel_rfl, by kernel_rfl, by kernel_rfl, fun _ => ⟨by kernel_rfl, by kernel_rfl, by kernel_rfl, by kernel_rfl⟩⟩, fun _ _ h => by cases h⟩
theorem good_124 : FnGood Try.prog 124 fn124 := ⟨⟨Try.f124, by kernel_rfl, by kernel_rfl, by kernel_rfl, fun _ => ⟨by kernel_rfl, by kernel_rfl, by kernel_rfl, by kernel_rfl⟩⟩, fun _ _ h => by cases h⟩
theorem good_125 : FnGood Try.prog 125 fn125 := ⟨⟨Try.f125, by kernel_rfl, by kernel_rfl, by kernel_rfl, fun _ => ⟨by kernel_rfl, by kernel_rfl, by kernel_rfl, by kernel_rfl⟩⟩, fun _ _ h => by cases h⟩
theorem good_126 : FnGood Try.prog 126 fn126 := ⟨⟨Try.f126, by kernel_rfl, by kernel_rfl, by kernel_rfl, fun _ => ⟨by kernel_rfl, by kernel_rfl, by kernel_rfl, by kernel_rfl⟩⟩, fun _ _ h => by cases h⟩
theorem good_127 : FnGood Try.prog 127 fn127 := ⟨⟨Try.f127, by kernel_rfl, by kernel_rfl, by kernel_rfl, fun _ => ⟨by kernel_rfl, by kernel_rfl, by kernel_rfl, by kernel_rfl⟩⟩, fun _ _ h => by cases h⟩
theorem good_128 : FnGood Try.prog 128 fn128 := ⟨⟨Try.f128, by kernel_rfl, by kernel_rfl, by kernel_rfl, fun _ => ⟨by kernel_rfl, by kernel_rfl, by kernel_rfl, by kernel_rfl⟩⟩, fun _ _ h => by cases h⟩
theorem good_129 : FnGood Try.prog 129 fn129 := ⟨⟨Try.f129, by kernel_rfl, by kernel_rfl, by kernel_rfl, fun _ => ⟨by kernel_rfl, by kernel_rfl, by kernel_rfl, by kernel_rfl⟩⟩, fun _ _ h => by cases h⟩
theorem good_130 : FnGood Try.prog 130 fn130 := ⟨⟨Try.f130, by kernel_rfl, by kernel_rfl, by kernel_rfl, fun _ => ⟨by kernel_rfl, by kernel_rfl, by kernel_rfl, by kernel_rfl⟩⟩, fun _ _ h => by cases h⟩
theorem good_131 : FnGood Try.prog 131 fn131 := ⟨⟨Try.f131, by kernel_rfl, by kernel_rfl, by kernel_rfl, fun _ => ⟨by kernel_rfl, by kernel_rfl, by kernel_rfl, by kernel_rfl⟩⟩, fun _ _ h => by cases h⟩
theorem good_132 : FnGood Try.prog 132 fn132 := ⟨⟨Try.f132, by kernel_rfl, by kernel_rfl, by kernel_rfl, fun _ => ⟨by kernel_rfl, by kernel_rfl, by kernel_rfl, by kernel_rfl⟩⟩, fun _ _ h => by cases h⟩
theorem good_133 : FnGood Try.prog 133 fn133 := ⟨⟨Try.f133, by kernel_rfl, by kernel_rfl, by kernel_rfl, fun _ => ⟨by kernel_rfl, by kernel_rfl, by kernel_rfl, by kernel_rfl⟩⟩, fun _ _ h => by cases h⟩
theorem good_134 : FnGood Try.prog 134 fn134 := ⟨⟨Try.f134, by kernel_rfl, by kernel_rfl, by kernel_rfl, fun _ => ⟨by kernel_rfl, by kernel_rfl, by kernel_rfl, by kernel_rfl⟩⟩, fun _ _ h => by cases h⟩
theorem good_135 : FnGood Try.prog 135 fn135 := ⟨⟨Try.f135, by kernel_rfl, by kernel_rfl, by kernel_rfl, fun _ => ⟨by kernel_rfl, by kernel_rfl, by kernel_rfl, by kernel_rfl⟩⟩, fun _ _ h => by cases h⟩
theorem good_136 : FnGood Try.prog 136 fn136 := ⟨⟨Try.f136, by kernel_rfl, by kernel_rfl, by kernel_rfl, fun _ => ⟨by kernel_rfl, by kernel_rfl, by kernel_rfl, by kernel_rfl⟩⟩, fun _ _ h => by cases h⟩
theorem good_137 : FnGood Try.prog 137 fn137 := ⟨⟨Try.f137, by kernel_rfl, by kernel_rfl, by kernel_rfl, fun _ => ⟨by kernel_rfl, by kernel_rfl, by kernel_rfl, by kernel_rfl⟩⟩, fun _ _ h => by cases h⟩
theorem good_159 : FnGood Try.prog 159 fn159 := ⟨⟨Try.f159, by kernel_rfl, by kernel_rfl, by kernel_rfl, fun h => by cases h⟩, fun _ _ h => by cases h; exact clone_ok tok mixed_ T_69 rfl T_9 (by decide) (fc := Try.f159) (by kernel_rfl) (by kernel_rfl) (by kernel_rfl) (by kernel_rfl)⟩
theorem good_168 : FnGood Try.prog 168 fn168 := ⟨⟨Try.f168, by kernel_rfl, by kernel_rfl, by kernel_rfl, fun _ => ⟨by kernel_rfl, by kernel_rfl, by kernel_rfl, by kernel_rfl⟩⟩, fun _ _ h => by cases h⟩
theorem good_169 : FnGood Try.prog 169 fn169 := ⟨⟨Try.f169, by kernel_rfl, by kernel_rfl, by kernel_rfl, fun _ => ⟨by kernel_rfl, by kernel_rfl, by kernel_rfl, by kernel_rfl⟩⟩, fun _ _ h => by cases h⟩
theorem good_170 : FnGood Try.prog 170 fn170 := ⟨⟨Try.f170, by kernel_rfl, by kernel_rfl, by kernel_rfl, fun _ => ⟨by kernel_rfl, by kernel_rfl, by kernel_rfl, by kernel_rfl⟩⟩, fun _ _ h => by cases h⟩
theorem good_171 : FnGood Try.prog 171 fn171 := ⟨⟨Try.f171, by kernel_rfl, by kernel_rfl, by kernel_rfl, fun _ => ⟨by kernel_rfl, by kernel_rfl, by kernel_rfl, by kernel_rfl⟩⟩, fun _ _ h => by cases h⟩
theorem good_172 : FnGood Try.prog 172 fn172 := ⟨⟨Try.f172, by kernel_rfl, by kernel_rfl, by kernel_rfl, fun _ => ⟨by kernel_rfl, by kernel_rfl, by kernel_rfl, by kernel_rfl⟩⟩, fun _ _ h => by cases h⟩
theorem good_173 : FnGood Try.prog 173 fn173 := ⟨⟨Try.f173, by kernel_rfl, by kernel_rfl, by kernel_rfl, fun _ => ⟨by kernel_rfl, by kernel_rfl, by kernel_rfl, by kernel_rfl⟩⟩, fun _ _ h => by cases h⟩
theorem good_174 : FnGood Try.prog 174 fn174 := ⟨⟨Try.f174, by kernel_rfl, by kernel_rfl, by kernel_rfl, fun h => by cases h⟩, fun _ _ h => by cases h; exact clone_ok tok mixed_ T_76 rfl T_42 (by decide) (fc := Try.f174) (by kernel_rfl) (by kernel_rfl) (by kernel_rfl) (by kernel_rfl)⟩
theorem good_175 : FnGood Try.prog 175 fn175 := ⟨⟨Try.f175, by kernel_rfl, by kernel_rfl, by kernel_rfl, fun _ => ⟨by kernel_rfl, by kernel_rfl, by kernel_rfl, by kernel_rfl⟩⟩, fun _ _ h => by cases h⟩
theorem good_176 : FnGood Try.prog 176 fn176 := ⟨⟨Try.f176, by kernel_rfl, by kernel_rfl, by kernel_rfl, fun _ => ⟨by kernel_rfl, by kernel_rfl, by kernel_rfl, by kernel_rfl⟩⟩, fun _ _ h => by cases h⟩
theorem good_177 : FnGood Try.prog 177 fn177 := ⟨⟨Try.f177, by kernel_rfl, by kernel_rfl, by kernel_rfl, fun _ => ⟨by kernel_rfl, by kernel_rfl, by kernel_rfl, by kernel_rfl⟩⟩, fun _ _ h => by cases h⟩
theorem good_178 : FnGood Try.prog 178 fn178 := ⟨⟨Try.f178, by kernel_rfl, by kernel_rfl, by kernel_rfl, fun _ => ⟨by kernel_rfl, by kernel_rfl, by kernel_rfl, by kernel_rfl⟩⟩, fun _ _ h => by cases h⟩
theorem good_179 : FnGood Try.prog 179 fn179 := ⟨⟨Try.f179, by kernel_rfl, by kernel_rfl, by kernel_rfl, fun _ => ⟨by kernel_rfl, by kernel_rfl, by kernel_rfl, by kernel_rfl⟩⟩, fun _ _ h => by cases h⟩
theorem good_180 : FnGood Try.prog 180 fn180 := ⟨⟨Try.f180, by kernel_rfl, by kernel_rfl, by kernel_rfl, fun _ => ⟨by kernel_rfl, by kernel_rfl, by kernel_rfl, by kernel_rfl⟩⟩, fun _ _ h => by cases h⟩
theorem good_181 : FnGood Try.prog 181 fn181 := ⟨⟨Try.f181, by kernel_rfl, by kernel_rfl, by kernel_rfl, fun _ => ⟨by kernel_rfl, by kernel_rfl, by kernel_rfl, by kernel_rfl⟩⟩, fun _ _ h => by cases h⟩
theorem good_182 : FnGood Try.prog 182 fn182 := ⟨⟨Try.f182, by kernel_rfl, by kernel_rfl, by kernel_rfl, fun _ => ⟨by kernel_rfl, by kernel_rfl, by kernel_rfl, by kernel_rfl⟩⟩, fun _ _ h => by cases h⟩
theorem good_183 : FnGood Try.prog 183 fn183 := ⟨⟨Try.f183, by kernel_rfl, by kernel_rfl, by kernel_rfl, fun _ => ⟨by kernel_rfl, by kernel_rfl, by kernel_rfl, by kernel_rfl⟩⟩, fun _ _ h => by cases h⟩
theorem good_184 : FnGood Try.prog 184 fn184 := ⟨⟨Try.f184, by kernel_rfl, by kernel_rfl, by kernel_rfl, fun _ => ⟨by kernel_rfl, by kernel_rfl, by kernel_rfl, by kernel_rfl⟩⟩, fun _ _ h => by cases h⟩
theorem good_185 : FnGood Try.prog 185 fn185 := ⟨⟨Try.f185, by kernel_rfl, by kernel_rfl, by kernel_rfl, fun _ => ⟨by kernel_rfl, by kernel_rfl, by kernel_rfl, by kernel_rfl⟩⟩, fun _ _ h => by cases h⟩
theorem good_186 : FnGood Try.prog 186 fn186 := ⟨⟨Try.f186, by kernel_rfl, by kernel_rfl, by kernel_rfl, fun _ => ⟨by kernel_rfl, by kernel_rfl, by kernel_rfl, by kernel_rfl⟩⟩, fun _ _ h => by cases h⟩
theorem good_187 : FnGood Try.prog 187 fn187 := ⟨⟨Try.f187, by kernel_rfl, by kernel_rfl, by kernel_rfl, fun _ => ⟨by kernel_rfl, by kernel_rfl, by kernel_rfl, by kernel_rfl⟩⟩, fun _ _ h => by cases h⟩
theorem good_188 : FnGood Try.prog 188 fn188 := ⟨⟨Try.f188, by kernel_rfl, by kernel_rfl, by kernel_rfl, fun h => by cases h⟩, fun _ _ h => by cases h; exact clone_ok tok mixed_ T_51 rfl T_145 (by decide) (fc := Try.f188) (by kernel_rfl) (by kernel_rfl) (by kernel_rfl) (by kernel_rfl)⟩
theorem good_189 : FnGood Try.prog 189 fn189 := ⟨⟨Try.f189, by kernel_rfl, by kernel_rfl, by kernel_rfl, fun h => by cases h⟩, fun _ _ h => by cases h; exact clone_ok tok mixed_ T_90 rfl T_100 (by decide) (fc := Try.f189) (by kernel_rfl) (by kernel_rfl) (by kernel_rfl) (by kernel_rfl)⟩
theorem good_190 : FnGood Try.prog 190 fn190 := ⟨⟨Try.f190, by kernel_rfl, by kernel_rfl, by kernel_rfl, fun h => by cases h⟩, fun _ _ h => by cases h; exact clone_ok tok mixed_ T_91 rfl T_121 (by decide) (fc := Try.f190) (by kernel_rfl) (by kernel_rfl) (by kernel_rfl) (by kernel_rfl)⟩
theorem good_203 : FnGood Try.prog 203 fn203 := ⟨⟨Try.f203, by kernel_rfl, by kernel_rfl, by kernel_rfl, fun _ => ⟨by kernel_rfl, by kernel_rfl, by kernel_rfl, by kernel_rfl⟩⟩, fun _ _ h => by cases h⟩
theorem good_204 : FnGood Try.prog 204 fn204 := ⟨⟨Try.f204, by kernel_rfl, by kernel_rfl, by kernel_rfl, fun _ => ⟨by kernel_rfl, by kernel_rfl, by kernel_rfl, by kernel_rfl⟩⟩, fun _ _ h => by cases h⟩
theorem good_205 : FnGood Try.prog 205 fn205 := ⟨⟨Try.f205, by kernel_rfl, by kernel_rfl, by kernel_rfl, fun _ => ⟨by kernel_rfl, by kernel_rfl, by kernel_rfl, by kernel_rfl⟩⟩, fun _ _ h => by cases h⟩
theorem good_206 : FnGood Try.prog 206 fn206 := ⟨⟨Try.f206, by kernel_rfl, by kernel_rfl, by kernel_rfl, fun _ => ⟨by kernel_rfl, by kernel_rfl, by kernel_rfl, by kernel_rfl⟩⟩, fun _ _ h => by cases h⟩
theorem good_207 : FnGood Try.prog 207 fn207 := ⟨⟨Try.f207, by kernel_rfl, by kernel_rfl, by kernel_rfl, fun _ => ⟨by kernel_rfl, by kernel_rfl, by kernel_rfl, by kernel_rfl⟩⟩, fun _ _ h => by cases h⟩
theorem good_208 : FnGood Try.prog 208 fn208 := ⟨⟨Try.f208, by kernel_rfl, by kernel_rfl, by kernel_rfl, fun _ => ⟨by kernel_rfl, by kernel_rfl, by kernel_rfl, by kernel_rfl⟩⟩, fun _ _ h => by cases h⟩
theorem good_209 : FnGood Try.prog 209 fn209 := ⟨⟨Try.f209, by kernel_rfl, by kernel_rfl, by kernel_rfl, fun _ => ⟨by kernel_rfl, by kernel_rfl, by kernel_rfl, by kernel_rfl⟩⟩, fun _ _ h => by cases h⟩
theorem good_210 : FnGood Try.prog 210 fn210 := ⟨⟨Try.f210, by kernel_rfl, by kernel_rfl, by kernel_rfl, fun _ => ⟨by kernel_rfl, by kernel_rfl, by kernel_rfl, by kernel_rfl⟩⟩, fun _ _ h => by cases h⟩
theorem good_211 : FnGood Try.prog 211 fn211 := ⟨⟨Try.f211, by kernel_rfl, by kernel_rfl, by kernel_rfl, fun _ => ⟨by kernel_rfl, by kernel_rfl, by kernel_rfl, by kernel_rfl⟩⟩, fun _ _ h => by cases h⟩
theorem good_212 : FnGood Try.prog 212 fn212 := ⟨⟨Try.f212, by kernel_rfl, by kernel_rfl, by kernel_rfl, fun _ => ⟨by kernel_rfl, by kernel_rfl, by kernel_rfl, by kernel_rfl⟩⟩, fun _ _ h => by cases h⟩
theorem good_213 : FnGood Try.prog 213 fn213 := ⟨⟨Try.f213, by kernel_rfl, by kernel_rfl, by kernel_rfl, fun _ => ⟨by kernel_rfl, by kernel_rfl, by kernel_rfl, by kernel_rfl⟩⟩, fun _ _ h => by cases h⟩
theorem good_214 : FnGood Try.prog 214 fn214 := ⟨⟨Try.f214, by kernel_rfl, by kernel_rfl, by kernel_rfl, fun _ => ⟨by kernel_rfl, by kernel_rfl, by kernel_rfl, by kernel_rfl⟩⟩, fun _ _ h => by cases h⟩
theorem good_215 : FnGood Try.prog 215 fn215 := ⟨⟨Try.f215, by kernel_rfl, by kernel_rfl, by kernel_rfl, fun _ => ⟨by kernel_rfl, by kernel_rfl, by kernel_rfl, by kernel_rfl⟩⟩, fun _ _ h => by cases h⟩
theorem good_216 : FnGood Try.prog 216 fn216 := ⟨⟨Try.f216, by kernel_rfl, by kernel_rfl, by kernel_rfl, fun _ => ⟨by kernel_rfl, by kernel_rfl, by kernel_rfl, by kernel_rfl⟩⟩, fun _ _ h => by cases h⟩
theorem good_217 : FnGood Try.prog 217 fn217 := ⟨⟨Try.f217, by kernel_rfl, by kernel_rfl, by kernel_rfl, fun _ => ⟨by kernel_rfl, by kernel_rfl, by kernel_rfl, by kernel_rfl⟩⟩, fun _ _ h => by cases h⟩
theorem good_218 : FnGood Try.prog 218 fn218 := ⟨⟨Try.f218, by kernel_rfl, by kernel_rfl, by kernel_rfl, fun _ => ⟨by kernel_rfl, by kernel_rfl, by kernel_rfl, by kernel_rfl⟩⟩, fun _ _ h => by cases h⟩
theorem good_219 : FnGood Try.prog 219 fn219 := ⟨⟨Try.f219, by kernel_rfl, by kernel_rfl, by kernel_rfl, fun _ => ⟨by kernel_rfl, by kernel_rfl, by kernel_rfl, by kernel_rfl⟩⟩, fun _ _ h => by cases h⟩
theorem good_220 : FnGood Try.prog 220 fn220 := ⟨⟨Try.f220, by kernel_rfl, by kernel_rfl, by kernel_rfl, fun _ => ⟨by kernel_rfl, by kernel_rfl, by kernel_rfl, by kernel_rfl⟩⟩, fun _ _ h => by cases h⟩
theorem good_221 : FnGood Try.prog 221 fn221 := ⟨⟨Try.f221, by kernel_rfl, by kernel_rfl, by kernel_rfl, fun _ => ⟨by kernel_rfl, by kernel_rfl, by kernel_rfl, by kernel_rfl⟩⟩, fun _ _ h => by cases h⟩
theorem good_222 : FnGood Try.prog 222 fn222 := ⟨⟨Try.f222, by kernel_rfl, by kernel_rfl, by kernel_rfl, fun _ => ⟨by kernel_rfl, by kernel_rfl, by kernel_rfl, by kernel_rfl⟩⟩, fun _ _ h => by cases h⟩
theorem good_228 : FnGood Try.prog 228 fn228 := ⟨⟨Try.f228, by kernel_rfl, by kernel_rfl, by kernel_rfl, fun _ => ⟨by kernel_rfl, by kernel_rfl, by kernel_rfl, by kernel_rfl⟩⟩, fun _ _ h => by cases h⟩
theorem good_229 : FnGood Try.prog 229 fn229 := ⟨⟨Try.f229, by kernel_rfl, by kernel_rfl, by kernel_rfl, fun _ => ⟨by kernel_rfl, by kernel_rfl, by kernel_rfl, by kernel_rfl⟩⟩, fun _ _ h => by cases h⟩
theorem good_230 : FnGood Try.prog 230 fn230 := ⟨⟨Try.f230, by kernel_rfl, by kernel_rfl, by kernel_rfl, fun _ => ⟨by kernel_rfl, by kernel_rfl, by kernel_rfl, by kernel_rfl⟩⟩, fun _ _ h => by cases h⟩
theorem good_231 : FnGood Try.prog 231 fn231 := ⟨⟨Try.f231, by kernel_rfl, by kernel_rfl, by kernel_rfl, fun _ => ⟨by kernel_rfl, by kernel_rfl, by kernel_rfl, by kernel_rfl⟩⟩, fun _ _ h => by cases h⟩
theorem good_232 : FnGood Try.prog 232 fn232 := ⟨⟨Try.f232, by kernel_rfl, by kernel_rfl, by kernel_rfl, fun _ => ⟨by kernel_rfl, by kernel_rfl, by kernel_rfl, by kernel_rfl⟩⟩, fun _ _ h => by cases h⟩
theorem good_234 : FnGood Try.prog 234 fn234 := ⟨⟨Try.f234, by kernel_rfl, by kernel_rfl, by kernel_rfl, fun _ => ⟨by kernel_rfl, by kernel_rfl, by kernel_rfl, by kernel_rfl⟩⟩, fun _ _ h => by cases h⟩
theorem good_235 : FnGood Try.prog 235 fn235 := ⟨⟨Try.f235, by kernel_rfl, by kernel_rfl, by kernel_rfl, fun _ => ⟨by kernel_rfl, by kernel_rfl, by kernel_rfl, by kernel_rfl⟩⟩, fun _ _ h => by cases h⟩
theorem good_236 : FnGood Try.prog 236 fn236 := ⟨⟨Try.f236, by kernel_rfl, by kernel_rfl, by kernel_rfl, fun _ => ⟨by kernel_rfl, by kernel_rfl, by kernel_rfl, by kernel_rfl⟩⟩, fun _ _ h => by cases h⟩
theorem good_240 : FnGood Try.prog 240 fn240 := ⟨⟨Try.f240, by kernel_rfl, by kernel_rfl, by kernel_rfl, fun _ => ⟨by kernel_rfl, by kernel_rfl, by kernel_rfl, by kernel_rfl⟩⟩, fun _ _ h => by cases h⟩
theorem good_241 : FnGood Try.prog 241 fn241 := ⟨⟨Try.f241, by kernel_rfl, by kernel_rfl, by kernel_rfl, fun _ => ⟨by kernel_rfl, by kernel_rfl, by kernel_rfl, by kernel_rfl⟩⟩, fun _ _ h => by cases h⟩
theorem good_242 : FnGood Try.prog 242 fn242 := ⟨⟨Try.f242, by kernel_rfl, by kernel_rfl, by kernel_rfl, fun _ => ⟨by kernel_rfl, by kernel_rfl, by kernel_rfl, by kernel_rfl⟩⟩, fun _ _ h => by cases h⟩
theorem good : ∀ g fn, fns g = some fn → FnGood Try.prog g fn := by
  intro g fn h
  unfold fns at h
  split at h <;> first | (cases h; done) | (cases h; first | exact good_3 | exact good_4 | exact good_12 | exact good_13 | exact good_14 | exact good_15 | exact good_16 | exact good_17 | exact good_18 | exact good_19 | exact good_34 | exact good_44 | exact good_50 | exact good_51 | exact good_52 | exact good_53 | exact good_54 | exact good_55 | exact good_56 | exact good_57 | exact good_58 | exact good_59 | exact good_60 | exact good_61 | exact good_62 | exact good_63 | exact good_64 | exact good_65 | exact good_66 | exact good_67 | exact good_68 | exact good_69 | exact good_70 | exact good_71 | exact good_90 | exact good_111 | exact good_112 | exact good_113 | exact good_114 | exact good_115 | exact good_116 | exact good_117 | exact good_118 | exact good_119 | exact good_120 | exact good_121 | exact good_122 | exact good_123 | exact good_124 | exact good_125 | exact good_126 | exact good_127 | exact good_128 | exact good_129 | exact good_130 | exact good_131 | exact good_132 | exact good_133 | exact good_134 | exact good_135 | exact good_136 | exact good_137 | exact good_159 | exact good_168 | exact good_169 | exact good_170 | exact good_171 | exact good_172 | exact good_173 | exact good_174 | exact good_175 | exact good_176 | exact good_177 | exact good_178 | exact good_179 | exact good_180 | exact good_181 | exact good_182 | exact good_183 | exact good_184 | exact good_185 | exact good_186 | exact good_187 | exact good_188 | exact good_189 | exact good_190 | exact good_203 | exact good_204 | exact good_205 | exact good_206 | exact good_207 | exact good_208 | exact good_209 | exact good_210 | exact good_211 | exact good_212 | exact good_213 | exact good_214 | exact good_215 | exact good_216 | exact good_217 | exact good_218 | exact good_219 | exact good_220 | exact good_221 | exact good_222 | exact good_228 | exact good_229 | exact good_230 | exact good_231 | exact good_232 | exact good_234 | exact good_235 | exact good_236 | exact good_240 | exact good_241 | exact good_242)
theorem called (R d : Nat) (g : FuncId) : FunOK Try.prog g (acall T fns R d g) := acall_ok tok mixed_ good d g
end Go.Proofs.Ytfdemnefkfkghaa.R
/- What a call's arguments read as, as the machine's values: whatever the row reads as data of a type is a Lean value, well formed, and no greater than the row's weights and bulk allow. -/
namespace Go.Proofs.Ytfdemnefkfkghaa.R
set_option linter.unusedVariables false
set_option linter.unusedSimpArgs false
open Go Go.RowKit
open Go.Proofs.Ytfdemnefkfkghaa.Rows (uptoBulk uptoBulkAll)

/-- A Lean value as cells of the machine. -/
structure Cd (α : Type) where
  sz : Nat
  enc : α → List V
  len : ∀ x, (enc x).length = sz
  cell : ∀ x, ∀ v ∈ enc x, v.isCell = true ∧ v.hasIds = false

def Cd.int (k : IntKind) : Cd Int := ⟨1, fun n => [.int k n], fun _ => rfl, fun _ v hv => by simp at hv; subst hv; exact ⟨rfl, rfl⟩⟩
def Cd.bool : Cd Bool := ⟨1, fun b => [.bool b], fun _ => rfl, fun _ v hv => by simp at hv; subst hv; exact ⟨rfl, rfl⟩⟩
def Cd.str : Cd ByteArray := ⟨1, fun s => [.str s], fun _ => rfl, fun _ v hv => by simp at hv; subst hv; exact ⟨rfl, rfl⟩⟩
def Cd.slice {α : Type} (d : Cd α) : Cd (List α) := ⟨1, fun xs => [.fz (xs.map d.enc)], fun _ => rfl, fun _ v hv => by simp at hv; subst hv; exact ⟨rfl, rfl⟩⟩
def Cd.pair {α β : Type} (d : Cd α) (d' : Cd β) : Cd (α × β) := ⟨d.sz + d'.sz, fun x => d.enc x.1 ++ d'.enc x.2, fun x => by simp [d.len, d'.len], fun x v hv => by
  rcases List.mem_append.1 hv with h | h
  · exact d.cell _ v h
  · exact d'.cell _ v h⟩
def Cd.iso {α β : Type} (d : Cd α) (f : β → α) : Cd β := ⟨d.sz, fun x => d.enc (f x), fun x => d.len _, fun x => d.cell _⟩

theorem all_enc {α : Type} (d : Cd α) (l : List α) : ((l.map d.enc).all fun r => r.length == d.sz) = true := by
  rw [List.all_eq_true]
  intro r hr
  obtain ⟨x, _, rfl⟩ := List.mem_map.1 hr
  simp [d.len]
theorem all_int (k : IntKind) (l : List Int) : ((l.map (Cd.int k).enc).all fun r => r.length == 1) = true := all_enc (Cd.int k) l
theorem all_str (l : List ByteArray) : ((l.map Cd.str.enc).all fun r => r.length == 1) = true := all_enc Cd.str l
theorem int_enc (k : IntKind) (n : Int) : (Cd.int k).enc n = [.int k n] := rfl
theorem str_enc (s : ByteArray) : Cd.str.enc s = [.str s] := rfl
theorem bool_enc (b : Bool) : Cd.bool.enc b = [.bool b] := rfl

/-- What is there. -/
def All (w : World) : Froz := fun b o => (cl w b o).isSome = true

/-- Cells of memory, and the machine's. -/
def KV (w : World) (row : List V) (cs : List Value) : Prop := cs.length = row.length ∧ ∀ (j : Nat) (v : V) (cv : Value), row[j]? = some v → cs[j]? = some cv → Rel (All w) (cl w) none0 v cv

/-- Read as data of the type t: of the kind d, good, and of no more bulk than the data. -/
def Opens {α : Type} (P : Program) (t : TypeId) (d : Cd α) (good : α → Prop) (mes : α → Nat) : Prop :=
  P.cellsOf t = d.sz ∧ ∀ (H : Type) (enc : TypeId × Value → H) (W : World) (fuel : Nat) (cs : List Value) (x : DataW H × List MemPlace),
    DataW.trod enc P W 0 (fun _ => true) true fuel t cs = some x → (∀ n ∈ x.1.weights P t, n ≤ reachBytes) → ∃ a, KV W (d.enc a) cs ∧ good a ∧ mes a ≤ uptoBulk x.1

theorem kv_one {w : World} {v : V} {cv : Value} (h : Rel (All w) (cl w) none0 v cv) : KV w [v] [cv] := ⟨rfl, fun j u cu h1 h2 => by
  cases j with
  | zero => simp at h1 h2; subst h1; subst h2; exact h
  | succ j => simp at h1⟩

theorem opens_int {P : Program} {t : TypeId} {k : IntKind} (hu : P.underlying t = some (.int k)) (hc : P.cellsOf t = 1) : Opens P t (Cd.int k) (fun n => (Lit.int k n).wf = true) (fun _ => 1) := by
  refine ⟨hc, fun H enc W fuel cs x h _ => ?_⟩
  obtain ⟨n, rfl, rfl, hw⟩ := DataW.trod_int hu h
  exact ⟨n, kv_one (.int _ _ _), hw, by simp [uptoBulk]⟩

theorem opens_bool {P : Program} {t : TypeId} (hu : P.underlying t = some .bool) (hc : P.cellsOf t = 1) : Opens P t Cd.bool (fun _ => True) (fun _ => 1) := by
  refine ⟨hc, fun H enc W fuel cs x h _ => ?_⟩
  obtain ⟨b, rfl, rfl⟩ := DataW.trod_bool hu h
  exact ⟨b, kv_one (.bool _ _), trivial, by simp [uptoBulk]⟩

theorem opens_string {P : Program} {t : TypeId} (hu : P.underlying t = some .string) (hc : P.cellsOf t = 1) : Opens P t Cd.str (fun s => s.size ≤ 140737488351232) (fun s => s.size + 1) := by
  refine ⟨hc, fun H enc W fuel cs x h hz => ?_⟩
  obtain ⟨s, rfl, rfl, hs⟩ := DataW.trod_string hu h
  have h1 := hz s.data.toList.length (by simp [DataW.weights])
  refine ⟨s, kv_one (.str _ _), ?_, ?_⟩
  · simpa [reachBytes] using h1
  · simp [uptoBulk]

theorem bulkAll_append {H : Type} : ∀ (a b : List (DataW H)), uptoBulkAll (a ++ b) = uptoBulkAll a + uptoBulkAll b
  | [], b => by simp [uptoBulkAll]
  | x :: a, b => by simp [uptoBulkAll, bulkAll_append a b]; omega

theorem weights_all {H : Type} {P : Program} {e : TypeId} : ∀ {l : List (DataW H)} {d : DataW H}, d ∈ l → ∀ n ∈ d.weights P e, n ∈ DataW.weightsAll P e l
  | x :: l, d, h, n, hn => by
    simp only [DataW.weightsAll, List.mem_append]
    rcases List.mem_cons.1 h with rfl | h
    · exact .inl hn
    · exact .inr (weights_all h n hn)

/-- Element by element. -/
theorem all_open {α : Type} {P : Program} {e : TypeId} {d : Cd α} {good : α → Prop} {mes : α → Nat} (h : Opens P e d good mes) {H : Type} {enc : TypeId × Value → H} {W : World} {n : Nat} :
    ∀ (elems : List (DataW H × List MemPlace)) (cells : Nat → List Value),
      (∀ i y, elems[i]? = some y → DataW.trod enc P W 0 (fun _ => true) true n e (cells i) = some y) →
      (∀ m ∈ DataW.weightsAll P e (elems.map (·.1)), m ≤ reachBytes) →
      ∃ xs : List α, xs.length = elems.length ∧ (∀ i a, xs[i]? = some a → KV W (d.enc a) (cells i)) ∧ (∀ a ∈ xs, good a) ∧ (xs.map mes).sum ≤ uptoBulkAll (elems.map (·.1))
  | [], _, _, _ => ⟨[], rfl, fun i a hi => by simp at hi, fun a ha => by simp at ha, by simp⟩
  | y :: elems, cells, ht, hw => by
    obtain ⟨a, hk, hg, hm⟩ := h.2 H enc W n (cells 0) y (ht 0 y rfl) (fun m hm => hw m (by simp only [List.map_cons, DataW.weightsAll, List.mem_append]; exact .inl hm))
    obtain ⟨xs, hl, hks, hgs, hms⟩ := all_open h elems (fun i => cells (i + 1)) (fun i z hz => ht (i + 1) z hz) (fun m hm => hw m (by simp only [List.map_cons, DataW.weightsAll, List.mem_append]; exact .inr hm))
    refine ⟨a :: xs, by simp [hl], ?_, ?_, ?_⟩
    · intro i b hb
      cases i with
      | zero =>
        have : a = b := by simpa using hb
        subst this
        exact hk
      | succ i => exact hks i b (by simpa using hb)
    · intro b hb
      rcases List.mem_cons.1 hb with rfl | hb
      · exact hg
      · exact hgs b hb
    · simp only [List.map_cons, List.sum_cons, uptoBulkAll]
      omega

theorem cells_at {w : World} {base : Nat} : ∀ {n : Nat} {a : Addr} {c : List Value}, w.cells? base a n = some c → c.length = n ∧ ∀ i u, c[i]? = some u → w.cell? (a.add i) = some u := by
  intro n a c h
  unfold World.cells? at h
  split at h
  · have hl := mapM_some_length h
    refine ⟨by simpa using hl, fun i u hu => ?_⟩
    have hi : i < n := by
      have := (List.getElem?_eq_some_iff.1 hu).1
      simp at hl
      omega
    have hg := mapM_some_get h i i (by simp [hi])
    rw [hu] at hg
    exact hg
  · cases h

theorem opens_slice {α : Type} {P : Program} {t e : TypeId} {d : Cd α} {good : α → Prop} {mes : α → Nat} (hu : P.underlying t = some (.slice e)) (hc : P.cellsOf t = 1) (hsz : d.sz ≠ 0) (h : Opens P e d good mes) :
    Opens P t (Cd.slice d) (fun xs => xs.length * P.bytesOf e ≤ 140737488351232 ∧ ∀ a ∈ xs, good a) (fun xs => (xs.map mes).sum + 1) := by
  refine ⟨hc, fun H enc W fuel cs x ht hz => ?_⟩
  rcases DataW.trod_slice hu ht with ⟨rfl, rfl⟩ | ⟨a, len, cap, elems, rest, n, rfl, rfl, rfl, _, hl, hcap, hlen, he, _, _⟩
  · exact ⟨[], kv_one (.fz0 _ _ _), ⟨by simp, by simp⟩, by simp [uptoBulk]⟩
  · simp only [DataW.weights, hu] at hz
    have hw0 := hz _ (List.mem_cons_self ..)
    have hw1 : ∀ m ∈ DataW.weightsAll P e (elems.map (·.1)), m ≤ reachBytes := fun m hm => hz m (List.mem_cons_of_mem _ (List.mem_append_left _ hm))
    have hex : ∀ i, i < len → ∃ c, W.cells? 0 (a.add (i * P.cellsOf e)) (P.cellsOf e) = some c := by
      intro i hi
      have := he i hi
      rw [List.getElem?_eq_getElem (by omega)] at this
      obtain ⟨c, hc, _⟩ := Option.bind_eq_some_iff.1 this
      exact ⟨c, hc⟩
    obtain ⟨xs, hxl, hxk, hxg, hxm⟩ := all_open h (enc := enc) (W := W) (n := n) elems (fun i => (W.cells? 0 (a.add (i * P.cellsOf e)) (P.cellsOf e)).getD []) (by
      intro i y hy
      have hi : i < len := by
        have := (List.getElem?_eq_some_iff.1 hy).1
        omega
      have hh := he i hi
      rw [hy] at hh
      obtain ⟨c, hc, hr⟩ := Option.bind_eq_some_iff.1 hh
      simp only [hc, Option.getD_some]
      exact hr) hw1
    have hxlen : xs.length = len := by omega
    refine ⟨xs, ?_, ⟨?_, hxg⟩, ?_⟩
    · refine kv_one ?_
      cases hx0 : xs with
      | nil =>
        rw [hx0] at hxlen
        simp only [List.length_nil] at hxlen
        subst hxlen
        exact .fz0 _ _ _
      | cons x0 xr =>
        rw [← hx0]
        have hrel : ∀ (r j : Nat) (row : List V) (v : V), (xs.map d.enc)[r]? = some row → row[j]? = some v → ∃ u, W.cell? (a.add (r * d.sz + j)) = some u ∧ Rel (All W) (cl W) none0 v u := by
          intro r j row v hrow hv
          rw [List.getElem?_map, Option.map_eq_some_iff] at hrow
          obtain ⟨p, hp, rfl⟩ := hrow
          have hj : r < len := by
            have := (List.getElem?_eq_some_iff.1 hp).1
            omega
          obtain ⟨c, hc⟩ := hex r hj
          have hk := hxk r p hp
          simp only [hc, Option.getD_some] at hk
          obtain ⟨hcl, hcc⟩ := cells_at hc
          have hjl : j < c.length := by
            have := (List.getElem?_eq_some_iff.1 hv).1
            rw [hk.1]
            omega
          refine ⟨c[j], ?_, hk.2 j v c[j] hv (by simp [hjl])⟩
          have := hcc j c[j] (by simp [hjl])
          rw [h.1] at this
          rw [← this, Addr.add_add]
        have hlenrow : ∀ row ∈ xs.map d.enc, row.length = d.sz := fun row hm => by
          obtain ⟨p, _, rfl⟩ := List.mem_map.1 hm
          exact d.len p
        · have hspot : a.spot = none := by
            have hlt : 0 < (d.enc x0).length := by rw [d.len]; omega
            obtain ⟨u, hu1, _⟩ := hrel 0 0 (d.enc x0) ((d.enc x0)[0]) (by rw [hx0]; rfl) (by simp [hlt])
            simp only [Nat.zero_mul, Nat.add_zero, Addr.add, if_true] at hu1
            unfold World.cell? at hu1
            split at hu1
            · split at hu1
              · cases hu1
              · rename_i hs
                cases h2 : a.spot with
                | none => rfl
                | some q => simp [h2] at hs
            · cases hu1
          obtain ⟨b, o, sp⟩ := a
          simp only at hspot
          subst hspot
          have hadd : ∀ n, (⟨b, o, none⟩ : Addr).add n = ⟨b, o + n, none⟩ := fun n => by
            unfold Addr.add
            split
            · rename_i e; subst e; rfl
            · rfl
          have hlen2 : len = (xs.map d.enc).length := by simp; omega
          rw [hlen2]
          refine .fz _ (xs.map d.enc) b o d.sz cap (fun r j => (cl W b (o + r * d.sz + j)).getD undef) (by simp; omega) hlenrow (fun row hm v hv => by
            obtain ⟨p, _, rfl⟩ := List.mem_map.1 hm
            exact d.cell p v hv) (fun r j hr hj => ?_) (fun r j row v hrow hv => ?_)
          · have hrow : (xs.map d.enc)[r]? = some ((xs.map d.enc)[r]) := List.getElem?_eq_getElem hr
            have hl2 := hlenrow _ (List.mem_of_getElem? hrow)
            obtain ⟨u, h1, _⟩ := hrel r j _ (((xs.map d.enc)[r])[j]'(by omega)) hrow (List.getElem?_eq_getElem (by omega))
            rw [hadd, ← Nat.add_assoc] at h1
            have h1' : cl W b (o + r * d.sz + j) = some u := h1
            exact ⟨by simp [All, h1'], by rw [h1']; rfl⟩
          · obtain ⟨u, h1, h2⟩ := hrel r j row v hrow hv
            rw [hadd, ← Nat.add_assoc] at h1
            have h1' : cl W b (o + r * d.sz + j) = some u := h1
            rw [h1']
            exact h2
    · rw [hxlen]
      exact Nat.le_trans (Nat.mul_le_mul_right _ (by simp; omega)) hw0
    · simp only [uptoBulk]
      omega

theorem kv_app {w : World} {r r' : List V} {cs : List Value} {n : Nat} (h : KV w r (cs.take n)) (h' : KV w r' (cs.drop n)) : KV w (r ++ r') cs := by
  have h1 := h.1
  have h2 := h'.1
  simp only [List.length_take, List.length_drop] at h1 h2
  refine ⟨by simp; omega, fun j v cv hv hc => ?_⟩
  by_cases hj : j < r.length
  · rw [List.getElem?_append_left hj] at hv
    exact h.2 j v cv hv (by rw [List.getElem?_take, if_pos (by omega)]; exact hc)
  · rw [List.getElem?_append_right (by omega)] at hv
    have hj2 := (List.getElem?_eq_some_iff.1 hv).1
    exact h'.2 (j - r.length) v cv hv (by rw [List.getElem?_drop, ← hc]; congr 1; omega)

/-- The types of fields one behind the other, each where the ones ahead of it end. -/
def offs (P : Program) : Nat → List Field → Bool
  | _, [] => true
  | o, f :: r => f.offset == o && offs P (o + P.cellsOf f.type) r
def cellsAll (P : Program) : List Field → Nat
  | [] => 0
  | f :: r => P.cellsOf f.type + cellsAll P r

/-- Fields in a row. -/
def OpensF {α : Type} (P : Program) (fs : List Field) (d : Cd α) (good : α → Prop) (mes : α → Nat) : Prop :=
  cellsAll P fs = d.sz ∧ ∀ (H : Type) (enc : TypeId × Value → H) (W : World) (fuel : Nat) (cs : List Value) (xs : List (DataW H × List MemPlace)) (o : Nat),
    offs P o fs = true → cs.length = cellsAll P fs → xs.length = fs.length →
    (∀ (i : Nat) (f : Field), fs[i]? = some f → DataW.trod enc P W 0 (fun _ => true) true fuel f.type ((cs.drop (f.offset - o)).take (P.cellsOf f.type)) = xs[i]?) →
    (∀ n ∈ DataW.weightsEach P (fs.map (·.type)) (xs.map (·.1)), n ≤ reachBytes) → ∃ a, KV W (d.enc a) cs ∧ good a ∧ mes a ≤ uptoBulkAll (xs.map (·.1))

theorem offs_le {P : Program} : ∀ {fs : List Field} {o : Nat}, offs P o fs = true → ∀ (i : Nat) (f : Field), fs[i]? = some f → o ≤ f.offset
  | [], _, _, i, f, hf => by simp at hf
  | g :: r, o, h, i, f, hf => by
    simp only [offs, Bool.and_eq_true, beq_iff_eq] at h
    cases i with
    | zero =>
      have : g = f := by simpa using hf
      subst this
      omega
    | succ i =>
      have := offs_le h.2 i f (by simpa using hf)
      omega

theorem opensF_one {α : Type} {P : Program} {f : Field} {d : Cd α} {good : α → Prop} {mes : α → Nat} (h : Opens P f.type d good mes) : OpensF P [f] d good mes := by
  refine ⟨by simp [cellsAll, h.1], fun H enc W fuel cs xs o ho hl hx ht hw => ?_⟩
  obtain ⟨y, rfl⟩ : ∃ y, xs = [y] := by
    match xs, hx with
    | [y], _ => exact ⟨y, rfl⟩
  have h0 := ht 0 f rfl
  simp only [offs, Bool.and_eq_true, beq_iff_eq] at ho
  rw [ho.1, Nat.sub_self, List.drop_zero, List.take_of_length_le (by simp [cellsAll] at hl; omega)] at h0
  obtain ⟨a, hk, hg, hm⟩ := h.2 H enc W fuel cs y h0 (fun n hn => hw n (by simp [DataW.weightsEach]; exact hn))
  exact ⟨a, hk, hg, by simp [uptoBulkAll]; exact hm⟩

theorem opensF_cons {α β : Type} {P : Program} {f : Field} {fs : List Field} {d : Cd α} {d' : Cd β} {good : α → Prop} {good' : β → Prop} {mes : α → Nat} {mes' : β → Nat} (h : Opens P f.type d good mes) (h' : OpensF P fs d' good' mes') :
    OpensF P (f :: fs) (Cd.pair d d') (fun x => good x.1 ∧ good' x.2) (fun x => mes x.1 + mes' x.2) := by
  refine ⟨by simp only [cellsAll, h.1, h'.1]; rfl, fun H enc W fuel cs xs o ho hl hx ht hw => ?_⟩
  obtain ⟨y, ys, rfl⟩ : ∃ y ys, xs = y :: ys := by
    match xs, hx with
    | y :: ys, _ => exact ⟨y, ys, rfl⟩
  simp only [offs, Bool.and_eq_true, beq_iff_eq] at ho
  simp only [cellsAll] at hl
  have h0 := ht 0 f rfl
  rw [ho.1, Nat.sub_self, List.drop_zero] at h0
  obtain ⟨a, hk, hg, hm⟩ := h.2 H enc W fuel _ y h0 (fun n hn => hw n (by simp only [List.map_cons, DataW.weightsEach, List.mem_append]; exact .inl hn))
  obtain ⟨b, hk', hg', hm'⟩ := h'.2 H enc W fuel (cs.drop (P.cellsOf f.type)) ys (o + P.cellsOf f.type) ho.2 (by simp; omega) (by simpa using hx)
    (fun i g hgi => by
      have hle := offs_le ho.2 i g hgi
      have := ht (i + 1) g (by simpa using hgi)
      rw [show g.offset - o = P.cellsOf f.type + (g.offset - (o + P.cellsOf f.type)) by omega, ← List.drop_drop] at this
      simpa using this)
    (fun n hn => hw n (by simp only [List.map_cons, DataW.weightsEach, List.mem_append]; exact .inr hn))
  refine ⟨(a, b), kv_app hk hk', ⟨hg, hg'⟩, ?_⟩
  simp only [List.map_cons, uptoBulkAll]
  omega

theorem opens_struct {α β : Type} {P : Program} {t : TypeId} {fs : Array Field} {d : Cd α} {good : α → Prop} {mes : α → Nat} (f : β → α) (g : α → β) (hfg : ∀ a, f (g a) = a) (hu : P.underlying t = some (.struct fs)) (hc : P.cellsOf t = d.sz) (ho : offs P 0 fs.toList = true)
    (h : OpensF P fs.toList d good mes) : Opens P t (Cd.iso d f) (fun b => good (f b)) (fun b => mes (f b)) := by
  refine ⟨hc, fun H enc W fuel cs x ht hz => ?_⟩
  obtain ⟨xs, n, rfl, rfl, hl, hx, hi⟩ := DataW.trod_struct hu ht
  simp only [DataW.weights, hu] at hz
  obtain ⟨a, hk, hg, hm⟩ := h.2 H enc W n cs xs 0 ho (by rw [hl, hc, h.1]) (by simpa using hx) (fun i fd hfd => by
    have := hi i fd (by simpa using hfd)
    simpa using this) hz
  refine ⟨g a, ?_, ?_, ?_⟩
  · show KV W (d.enc (f (g a))) cs
    rw [hfg]
    exact hk
  · show good (f (g a))
    rw [hfg]
    exact hg
  · show mes (f (g a)) ≤ _
    rw [hfg]
    simp only [uptoBulk]
    omega

/-- What is told of a type by another number of it. -/
theorem opens_imp {α : Type} {P : Program} {t : TypeId} {d : Cd α} {good good' : α → Prop} {mes mes' : α → Nat} (h : Opens P t d good mes) (hg : ∀ a, good a → good' a) (hm : ∀ a, mes' a ≤ mes a) : Opens P t d good' mes' :=
  ⟨h.1, fun H enc W fuel cs x ht hz => by
    obtain ⟨a, hk, hga, hma⟩ := h.2 H enc W fuel cs x ht hz
    exact ⟨a, hk, hg a hga, Nat.le_trans (hm a) hma⟩⟩

/-- One argument of a row. -/
theorem arg_opens {α : Type} {P : Program} {t : TypeId} {d : Cd α} {good : α → Prop} {mes : α → Nat} (h : Opens P t d good mes) {H : Type} {enc : TypeId × Value → H} {W : World} {v : Value} {dat : DataW H} {ps : List MemPlace} (ht : DataW.Trod enc P W 0 (fun _ => true) true t v dat ps)
    {ts : List TypeId} {ds : List (DataW H)} (hsz : (DataW.weightsEach P ts ds).all (· ≤ reachBytes) = true) {j : Nat} (hj : ts[j]? = some t) (hd : ds[j]? = some dat) : ∃ a, KV W (d.enc a) v.cells.toList ∧ good a ∧ mes a ≤ uptoBulk dat := by
  obtain ⟨fuel, hf⟩ := ht
  exact h.2 H enc W fuel _ (dat, ps) hf (fun n hn => by
    have := List.all_eq_true.1 hsz n (DataW.weights_mem_each hj hd n hn)
    simpa using this)

theorem agg_of_struct {P : Program} {t : TypeId} {fs : Array Field} {W : World} {base : Nat} {v : Value} (hu : P.underlying t = some (.struct fs)) (h : Value.okWide P W .any base t v) : ∃ cs, v = .agg cs := by
  unfold Value.okWide at h
  rw [hu] at h
  obtain ⟨cs, rfl, _⟩ := h
  exact ⟨cs, rfl⟩
open Go.ChangeShapes Go.WideShapes in
theorem int_of {P : Program} {H : Type} {enc : TypeId × Value → H} {W : World} {base : Nat} {t : TypeId} {k : IntKind} {v : Value} {d : DataW H} {p : List MemPlace} (hu : P.underlying t = some (.int k)) (hv : Value.okWide P W .any base t v) (h : DataW.Trod enc P W 0 (fun _ => true) true t v d p) : ∃ x, v = .int k x := by
  obtain ⟨x, rfl, _⟩ := open_int hu hv h
  exact ⟨x, rfl⟩
open Go.ChangeShapes Go.WideShapes in
theorem bool_of {P : Program} {H : Type} {enc : TypeId × Value → H} {W : World} {base : Nat} {t : TypeId} {v : Value} {d : DataW H} {p : List MemPlace} (hu : P.underlying t = some .bool) (hv : Value.okWide P W .any base t v) (h : DataW.Trod enc P W 0 (fun _ => true) true t v d p) : ∃ x, v = .bool x := by
  obtain ⟨x, rfl, _⟩ := open_bool hu hv h
  exact ⟨x, rfl⟩
open Go.ChangeShapes Go.WideShapes Go.ChangeMaps in
theorem string_of {P : Program} {H : Type} {enc : TypeId × Value → H} {W : World} {base : Nat} {t : TypeId} {v : Value} {d : DataW H} {p : List MemPlace} (hu : P.underlying t = some .string) (hv : Value.okWide P W .any base t v) (h : DataW.Trod enc P W 0 (fun _ => true) true t v d p) : ∃ x, v = .string x := by
  obtain ⟨x, rfl, _⟩ := open_string hu hv h
  exact ⟨x, rfl⟩
theorem kv_rel {w : World} {v : V} {cv : Value} (h : KV w [v] [cv]) : Rel (All w) (cl w) none0 v cv := h.2 0 v cv rfl rfl
theorem kv_agg {w : World} {row : List V} {cs : Array Value} (h : KV w row cs.toList) : Rel (All w) (cl w) none0 (.agg row) (.agg cs) :=
  .agg _ _ _ (by simpa using h.1) fun j v hv => by
    have hlt := (List.getElem?_eq_some_iff.1 hv).1
    have hs : cs.size = row.length := by simpa using h.1
    rw [Array.getD_eq_getD_getElem?, Array.getElem?_eq_getElem (by omega)]
    exact h.2 j v _ hv (by simp [Array.getElem?_eq_getElem, hs, hlt])

theorem relAll0 {F : Froz} {c : Nat → Nat → Option Value} {β : Place} : RelAll F c β [] #[] := ⟨rfl, by simp⟩
theorem relAll_cons {F : Froz} {c : Nat → Nat → Option Value} {β : Place} {v : V} {cv : Value} {vs : List V} {cvs : List Value} (h : Rel F c β v cv) (hs : RelAll F c β vs cvs.toArray) : RelAll F c β (v :: vs) (cv :: cvs).toArray :=
  ⟨by simpa using hs.size, fun j u hu => by
    cases j with
    | zero => simp at hu; subst hu; simpa [Array.getD] using h
    | succ j =>
      have := hs.at_ j u (by simpa using hu)
      rw [Array.getD_eq_getD_getElem?] at this ⊢
      simpa using this⟩

theorem inv0 (W : World) : Inv ⟨W, KOf none0 W, All W⟩ none0 (All W) [] W := by
  refine { os := rfl, tape := rfl, output := rfl, size := Nat.le_refl _, keep := fun _ _ => rfl, kin := fun _ h => h.1, inj := ?_, fresh := ?_, obs := ?_, froz := ?_, prot := ?_ }
  · intro i j oi oj l l' b h; simp [Heap.at?] at h
  · intro i l b h; simp [none0] at h
  · intro i o h; simp [Heap.at?] at h
  rotate_left
  · intro i b st C st' rows frz pure h; simp [none0] at h
  intro b o h
  refine ⟨?_, fun _ => h⟩
  unfold All cl World.cell? at h
  cases hb : W.heap[b]? with
  | none => simp [hb] at h
  | some x => exact (Array.getElem?_eq_some_iff.1 hb).1

/-- What the machine answers is what the call comes to; nothing that was there has turned. -/
theorem law_ok {P : Program} {g : FuncId} {fn : Fun} (hf : FunOK P g fn) {args : List V} {cargs : Array Value} {W : World} {b : Bool} {h : Heap} (heq : fn args [] = some (.bool b, h)) (hargs : RelAll (All W) (cl W) none0 args cargs) :
    Calls P g cargs W fun e W' => e = .returned (.bool b) ∧ Below W.heap.size W W' := by
  refine (hf args [] _ _ heq none0 (All W) W cargs (inv0 W) (fun _ _ => rfl) hargs).mono ?_
  rintro e w' ⟨cv, β', F', rfl, hp⟩
  have hr := hp.rel
  cases hr
  exact ⟨rfl, hp.inv.os, hp.inv.tape, hp.inv.output, hp.inv.size, fun k hk => hp.inv.keep k ⟨hk, fun i l h => by simp [none0] at h⟩⟩
end Go.Proofs.Ytfdemnefkfkghaa.R
/- The kinds of the laws' arguments: what they read as, as Lean values and as the machine's. -/
namespace Go.Proofs.Ytfdemnefkfkghaa.R
open Go Go.RowKit Go.Proofs
def g42 (x : Int) : Prop := (Lit.int .u32 x).wf = true
def m42 (_ : Int) : Nat := 1
theorem o42 : Opens Try.prog 42 (Cd.int .u32) g42 m42 := opens_int Try.underlying42 (by kernel_rfl)
def g4 (_ : Bool) : Prop := True
def m4 (_ : Bool) : Nat := 1
theorem o4 : Opens Try.prog 4 Cd.bool g4 m4 := opens_bool Try.underlying4 (by kernel_rfl)
def g9 (s : ByteArray) : Prop := s.size ≤ 140737488351232
def m9 (s : ByteArray) : Nat := s.size + 1
theorem o9 : Opens Try.prog 9 Cd.str g9 m9 := opens_string Try.underlying9 (by kernel_rfl)
structure S145 where
  f0 : ByteArray
  f1 : ByteArray
deriving DecidableEq
def k145 : Cd S145 := Cd.iso (Cd.pair Cd.str Cd.str) (fun x : S145 => (x.f0, x.f1))
theorem k145_enc (x : S145) : k145.enc x = [.str x.f0, .str x.f1] := rfl
theorem all145 (l : List S145) : ((l.map k145.enc).all fun r => r.length == 2) = true := all_enc k145 l
def g145 (x : S145) : Prop := g9 x.f0 ∧ g9 x.f1
def m145 (x : S145) : Nat := m9 x.f0 + m9 x.f1
theorem o145 : Opens Try.prog 145 k145 g145 m145 :=
  opens_imp (opens_struct (fun x : S145 => (x.f0, x.f1)) (fun x => ⟨x.1, x.2⟩) (fun _ => rfl) Try.underlying145 (by kernel_rfl) (by kernel_rfl) (opensF_cons o9 (opensF_one o9))) (fun _ h => h) (fun x => by simp only [m145]; omega)
def g51 (xs : List S145) : Prop := xs.length * 32 ≤ 140737488351232 ∧ ∀ a ∈ xs, g145 a
def m51 (xs : List S145) : Nat := (xs.map m145).sum + 1
theorem b51 : Try.prog.bytesOf 145 = 32 := by kernel_rfl
theorem o51 : Opens Try.prog 51 (Cd.slice k145) g51 m51 := by
  refine opens_imp (opens_slice Try.underlying51 (by kernel_rfl) (by decide) o145) (fun a h => ?_) (fun a => Nat.le_refl _)
  rw [b51] at h
  exact h
def g69 (xs : List ByteArray) : Prop := xs.length * 16 ≤ 140737488351232 ∧ ∀ a ∈ xs, g9 a
def m69 (xs : List ByteArray) : Nat := (xs.map m9).sum + 1
theorem b69 : Try.prog.bytesOf 9 = 16 := by kernel_rfl
theorem o69 : Opens Try.prog 69 (Cd.slice Cd.str) g69 m69 := by
  refine opens_imp (opens_slice Try.underlying69 (by kernel_rfl) (by decide) o9) (fun a h => ?_) (fun a => Nat.le_refl _)
  rw [b69] at h
  exact h
def g96 (x : Int) : Prop := (Lit.int .u16 x).wf = true
def m96 (_ : Int) : Nat := 1
theorem o96 : Opens Try.prog 96 (Cd.int .u16) g96 m96 := opens_int Try.underlying96 (by kernel_rfl)
structure S98 where
  f0 : ByteArray
  f1 : ByteArray
deriving DecidableEq
def k98 : Cd S98 := Cd.iso (Cd.pair Cd.str Cd.str) (fun x : S98 => (x.f0, x.f1))
theorem k98_enc (x : S98) : k98.enc x = [.str x.f0, .str x.f1] := rfl
theorem all98 (l : List S98) : ((l.map k98.enc).all fun r => r.length == 2) = true := all_enc k98 l
def g98 (x : S98) : Prop := g9 x.f0 ∧ g9 x.f1
def m98 (x : S98) : Nat := m9 x.f0 + m9 x.f1
theorem o98 : Opens Try.prog 98 k98 g98 m98 :=
  opens_imp (opens_struct (fun x : S98 => (x.f0, x.f1)) (fun x => ⟨x.1, x.2⟩) (fun _ => rfl) Try.underlying98 (by kernel_rfl) (by kernel_rfl) (opensF_cons o9 (opensF_one o9))) (fun _ h => h) (fun x => by simp only [m98]; omega)
structure S100 where
  f0 : Int
  f1 : Int
  f2 : S98
deriving DecidableEq
def k100 : Cd S100 := Cd.iso (Cd.pair (Cd.int .u32) (Cd.pair (Cd.int .u16) k98)) (fun x : S100 => (x.f0, x.f1, x.f2))
theorem k100_enc (x : S100) : k100.enc x = [.int .u32 x.f0, .int .u16 x.f1, .str x.f2.f0, .str x.f2.f1] := rfl
theorem all100 (l : List S100) : ((l.map k100.enc).all fun r => r.length == 4) = true := all_enc k100 l
def g100 (x : S100) : Prop := g42 x.f0 ∧ g96 x.f1 ∧ g98 x.f2
def m100 (x : S100) : Nat := m42 x.f0 + m96 x.f1 + m98 x.f2
theorem o100 : Opens Try.prog 100 k100 g100 m100 :=
  opens_imp (opens_struct (fun x : S100 => (x.f0, x.f1, x.f2)) (fun x => ⟨x.1, x.2.1, x.2.2⟩) (fun _ => rfl) Try.underlying100 (by kernel_rfl) (by kernel_rfl) (opensF_cons o42 (opensF_cons o96 (opensF_one o98)))) (fun _ h => h) (fun x => by simp only [m100]; omega)
def g90 (xs : List S100) : Prop := xs.length * 40 ≤ 140737488351232 ∧ ∀ a ∈ xs, g100 a
def m90 (xs : List S100) : Nat := (xs.map m100).sum + 1
theorem b90 : Try.prog.bytesOf 100 = 40 := by kernel_rfl
theorem o90 : Opens Try.prog 90 (Cd.slice k100) g90 m90 := by
  refine opens_imp (opens_slice Try.underlying90 (by kernel_rfl) (by decide) o100) (fun a h => ?_) (fun a => Nat.le_refl _)
  rw [b90] at h
  exact h
def g5 (x : Int) : Prop := (Lit.int .u8 x).wf = true
def m5 (_ : Int) : Nat := 1
theorem o5 : Opens Try.prog 5 (Cd.int .u8) g5 m5 := opens_int Try.underlying5 (by kernel_rfl)
structure S121 where
  f0 : Int
  f1 : ByteArray
  f2 : ByteArray
  f3 : Int
  f4 : Int
  f5 : ByteArray
deriving DecidableEq
def k121 : Cd S121 := Cd.iso (Cd.pair (Cd.int .u8) (Cd.pair Cd.str (Cd.pair Cd.str (Cd.pair (Cd.int .u32) (Cd.pair (Cd.int .u16) Cd.str))))) (fun x : S121 => (x.f0, x.f1, x.f2, x.f3, x.f4, x.f5))
theorem k121_enc (x : S121) : k121.enc x = [.int .u8 x.f0, .str x.f1, .str x.f2, .int .u32 x.f3, .int .u16 x.f4, .str x.f5] := rfl
theorem all121 (l : List S121) : ((l.map k121.enc).all fun r => r.length == 6) = true := all_enc k121 l
def g121 (x : S121) : Prop := g5 x.f0 ∧ g9 x.f1 ∧ g9 x.f2 ∧ g42 x.f3 ∧ g96 x.f4 ∧ g9 x.f5
def m121 (x : S121) : Nat := m5 x.f0 + m9 x.f1 + m9 x.f2 + m42 x.f3 + m96 x.f4 + m9 x.f5
theorem o121 : Opens Try.prog 121 k121 g121 m121 :=
  opens_imp (opens_struct (fun x : S121 => (x.f0, x.f1, x.f2, x.f3, x.f4, x.f5)) (fun x => ⟨x.1, x.2.1, x.2.2.1, x.2.2.2.1, x.2.2.2.2.1, x.2.2.2.2.2⟩) (fun _ => rfl) Try.underlying121 (by kernel_rfl) (by kernel_rfl) (opensF_cons o5 (opensF_cons o9 (opensF_cons o9 (opensF_cons o42 (opensF_cons o96 (opensF_one o9))))))) (fun _ h => h) (fun x => by simp only [m121]; omega)
def g91 (xs : List S121) : Prop := xs.length * 64 ≤ 140737488351232 ∧ ∀ a ∈ xs, g121 a
def m91 (xs : List S121) : Nat := (xs.map m121).sum + 1
theorem b91 : Try.prog.bytesOf 121 = 64 := by kernel_rfl
theorem o91 : Opens Try.prog 91 (Cd.slice k121) g91 m91 := by
  refine opens_imp (opens_slice Try.underlying91 (by kernel_rfl) (by decide) o121) (fun a h => ?_) (fun a => Nat.le_refl _)
  rw [b91] at h
  exact h
structure S93 where
  f0 : Bool
  f1 : (List S145)
  f2 : (List ByteArray)
  f3 : (List S100)
  f4 : (List S121)
deriving DecidableEq
def k93 : Cd S93 := Cd.iso (Cd.pair Cd.bool (Cd.pair (Cd.slice k145) (Cd.pair (Cd.slice Cd.str) (Cd.pair (Cd.slice k100) (Cd.slice k121))))) (fun x : S93 => (x.f0, x.f1, x.f2, x.f3, x.f4))
theorem k93_enc (x : S93) : k93.enc x = [.bool x.f0, .fz (x.f1.map k145.enc), .fz (x.f2.map Cd.str.enc), .fz (x.f3.map k100.enc), .fz (x.f4.map k121.enc)] := rfl
theorem all93 (l : List S93) : ((l.map k93.enc).all fun r => r.length == 5) = true := all_enc k93 l
def g93 (x : S93) : Prop := g4 x.f0 ∧ g51 x.f1 ∧ g69 x.f2 ∧ g90 x.f3 ∧ g91 x.f4
def m93 (x : S93) : Nat := m4 x.f0 + m51 x.f1 + m69 x.f2 + m90 x.f3 + m91 x.f4
theorem o93 : Opens Try.prog 93 k93 g93 m93 :=
  opens_imp (opens_struct (fun x : S93 => (x.f0, x.f1, x.f2, x.f3, x.f4)) (fun x => ⟨x.1, x.2.1, x.2.2.1, x.2.2.2.1, x.2.2.2.2⟩) (fun _ => rfl) Try.underlying93 (by kernel_rfl) (by kernel_rfl) (opensF_cons o4 (opensF_cons o51 (opensF_cons o69 (opensF_cons o90 (opensF_one o91)))))) (fun _ h => h) (fun x => by simp only [m93]; omega)
structure S95 where
  f0 : Int
  f1 : S93
deriving DecidableEq
def k95 : Cd S95 := Cd.iso (Cd.pair (Cd.int .u32) k93) (fun x : S95 => (x.f0, x.f1))
theorem k95_enc (x : S95) : k95.enc x = [.int .u32 x.f0, .bool x.f1.f0, .fz (x.f1.f1.map k145.enc), .fz (x.f1.f2.map Cd.str.enc), .fz (x.f1.f3.map k100.enc), .fz (x.f1.f4.map k121.enc)] := rfl
theorem all95 (l : List S95) : ((l.map k95.enc).all fun r => r.length == 6) = true := all_enc k95 l
def g95 (x : S95) : Prop := g42 x.f0 ∧ g93 x.f1
def m95 (x : S95) : Nat := m42 x.f0 + m93 x.f1
theorem o95 : Opens Try.prog 95 k95 g95 m95 :=
  opens_imp (opens_struct (fun x : S95 => (x.f0, x.f1)) (fun x => ⟨x.1, x.2⟩) (fun _ => rfl) Try.underlying95 (by kernel_rfl) (by kernel_rfl) (opensF_cons o42 (opensF_one o93))) (fun _ h => h) (fun x => by simp only [m95]; omega)
def g22 (xs : List S95) : Prop := xs.length * 112 ≤ 140737488351232 ∧ ∀ a ∈ xs, g95 a
def m22 (xs : List S95) : Nat := (xs.map m95).sum + 1
theorem b22 : Try.prog.bytesOf 95 = 112 := by kernel_rfl
theorem o22 : Opens Try.prog 22 (Cd.slice k95) g22 m22 := by
  refine opens_imp (opens_slice Try.underlying22 (by kernel_rfl) (by decide) o95) (fun a h => ?_) (fun a => Nat.le_refl _)
  rw [b22] at h
  exact h
def g76 (xs : List Int) : Prop := xs.length * 4 ≤ 140737488351232 ∧ ∀ a ∈ xs, g42 a
def m76 (xs : List Int) : Nat := (xs.map m42).sum + 1
theorem b76 : Try.prog.bytesOf 42 = 4 := by kernel_rfl
theorem o76 : Opens Try.prog 76 (Cd.slice (Cd.int .u32)) g76 m76 := by
  refine opens_imp (opens_slice Try.underlying76 (by kernel_rfl) (by decide) o42) (fun a h => ?_) (fun a => Nat.le_refl _)
  rw [b76] at h
  exact h
structure S184 where
  f0 : Int
  f1 : Int
deriving DecidableEq
def k184 : Cd S184 := Cd.iso (Cd.pair (Cd.int .u32) (Cd.int .u32)) (fun x : S184 => (x.f0, x.f1))
theorem k184_enc (x : S184) : k184.enc x = [.int .u32 x.f0, .int .u32 x.f1] := rfl
theorem all184 (l : List S184) : ((l.map k184.enc).all fun r => r.length == 2) = true := all_enc k184 l
def g184 (x : S184) : Prop := g42 x.f0 ∧ g42 x.f1
def m184 (x : S184) : Nat := m42 x.f0 + m42 x.f1
theorem o184 : Opens Try.prog 184 k184 g184 m184 :=
  opens_imp (opens_struct (fun x : S184 => (x.f0, x.f1)) (fun x => ⟨x.1, x.2⟩) (fun _ => rfl) Try.underlying184 (by kernel_rfl) (by kernel_rfl) (opensF_cons o42 (opensF_one o42))) (fun _ h => h) (fun x => by simp only [m184]; omega)
def g77 (xs : List S184) : Prop := xs.length * 8 ≤ 140737488351232 ∧ ∀ a ∈ xs, g184 a
def m77 (xs : List S184) : Nat := (xs.map m184).sum + 1
theorem b77 : Try.prog.bytesOf 184 = 8 := by kernel_rfl
theorem o77 : Opens Try.prog 77 (Cd.slice k184) g77 m77 := by
  refine opens_imp (opens_slice Try.underlying77 (by kernel_rfl) (by decide) o184) (fun a h => ?_) (fun a => Nat.le_refl _)
  rw [b77] at h
  exact h
structure S179 where
  f0 : ByteArray
  f1 : Int
  f2 : Int
deriving DecidableEq
def k179 : Cd S179 := Cd.iso (Cd.pair Cd.str (Cd.pair (Cd.int .u32) (Cd.int .u16))) (fun x : S179 => (x.f0, x.f1, x.f2))
theorem k179_enc (x : S179) : k179.enc x = [.str x.f0, .int .u32 x.f1, .int .u16 x.f2] := rfl
theorem all179 (l : List S179) : ((l.map k179.enc).all fun r => r.length == 3) = true := all_enc k179 l
def g179 (x : S179) : Prop := g9 x.f0 ∧ g42 x.f1 ∧ g96 x.f2
def m179 (x : S179) : Nat := m9 x.f0 + m42 x.f1 + m96 x.f2
theorem o179 : Opens Try.prog 179 k179 g179 m179 :=
  opens_imp (opens_struct (fun x : S179 => (x.f0, x.f1, x.f2)) (fun x => ⟨x.1, x.2.1, x.2.2⟩) (fun _ => rfl) Try.underlying179 (by kernel_rfl) (by kernel_rfl) (opensF_cons o9 (opensF_cons o42 (opensF_one o96)))) (fun _ h => h) (fun x => by simp only [m179]; omega)
def g78 (xs : List S179) : Prop := xs.length * 24 ≤ 140737488351232 ∧ ∀ a ∈ xs, g179 a
def m78 (xs : List S179) : Nat := (xs.map m179).sum + 1
theorem b78 : Try.prog.bytesOf 179 = 24 := by kernel_rfl
theorem o78 : Opens Try.prog 78 (Cd.slice k179) g78 m78 := by
  refine opens_imp (opens_slice Try.underlying78 (by kernel_rfl) (by decide) o179) (fun a h => ?_) (fun a => Nat.le_refl _)
  rw [b78] at h
  exact h
structure S80 where
  f0 : (List Int)
  f1 : (List S184)
  f2 : (List S179)
deriving DecidableEq
def k80 : Cd S80 := Cd.iso (Cd.pair (Cd.slice (Cd.int .u32)) (Cd.pair (Cd.slice k184) (Cd.slice k179))) (fun x : S80 => (x.f0, x.f1, x.f2))
theorem k80_enc (x : S80) : k80.enc x = [.fz (x.f0.map (Cd.int .u32).enc), .fz (x.f1.map k184.enc), .fz (x.f2.map k179.enc)] := rfl
theorem all80 (l : List S80) : ((l.map k80.enc).all fun r => r.length == 3) = true := all_enc k80 l
def g80 (x : S80) : Prop := g76 x.f0 ∧ g77 x.f1 ∧ g78 x.f2
def m80 (x : S80) : Nat := m76 x.f0 + m77 x.f1 + m78 x.f2
theorem o80 : Opens Try.prog 80 k80 g80 m80 :=
  opens_imp (opens_struct (fun x : S80 => (x.f0, x.f1, x.f2)) (fun x => ⟨x.1, x.2.1, x.2.2⟩) (fun _ => rfl) Try.underlying80 (by kernel_rfl) (by kernel_rfl) (opensF_cons o76 (opensF_cons o77 (opensF_one o78)))) (fun _ h => h) (fun x => by simp only [m80]; omega)
end Go.Proofs.Ytfdemnefkfkghaa.R
/- No bounds any more: what a function answers once the bounds on rounds and depth are great enough. -/
namespace Go.Proofs.Ytfdemnefkfkghaa.R
set_option linter.unusedVariables false
set_option linter.unusedSimpArgs false
open Go

section
variable {α : Type}

/-- What becomes of a slice hangs on nothing that comes behind it. -/
def MsLeaf (H : Heap) (ms : Nat → Nat → Nat → Nat → (V → Upd → Rd α) → Rd α) : Prop := ∀ (i st o n : Nat) (l : List Nat), (∀ k : V → Upd → Rd α, (ms i st o n k).run H l = none) ∨ ∃ x' u l1, ∀ k : V → Upd → Rd α, (ms i st o n k).run H l = (k x' u).run H l1
mutual
theorem frzG_leaf (H : Heap) {ms : Nat → Nat → Nat → Nat → (V → Upd → Rd α) → Rd α} (hms : MsLeaf H ms) : ∀ (x : V) (l : List Nat), (∀ k : V → Upd → Rd α, (frzG ms x k).run H l = none) ∨ ∃ x' u l1, ∀ k : V → Upd → Rd α, (frzG ms x k).run H l = (k x' u).run H l1
  | .ms i st o n c, l => by
    simp only [frzG]
    exact hms i st o n l
  | .nils, l => .inr ⟨_, _, _, fun k => by simp only [frzG]; rfl⟩
  | .agg cs, l => by
    rcases frzGAll_leaf H hms cs l with h | ⟨x', u, l1, h⟩
    · exact .inl fun k => by simp only [frzG]; exact h _
    · exact .inr ⟨.agg x', u, l1, fun k => by simp only [frzG]; exact h _⟩
  | .tup cs, l => by
    rcases frzGAll_leaf H hms cs l with h | ⟨x', u, l1, h⟩
    · exact .inl fun k => by simp only [frzG]; exact h _
    · exact .inr ⟨.tup x', u, l1, fun k => by simp only [frzG]; exact h _⟩
  | .undef, l | .bool _, l | .int _ _, l | .str _, l | .fz _, l | .nilp, l | .ptr _ _ _, l | .el _ _, l | .nilm, l | .map _, l | .nilf, l | .clo _ _, l | .nili, l | .ifc _ _, l => .inr ⟨_, _, _, fun k => by simp only [frzG]; rfl⟩
theorem frzGAll_leaf (H : Heap) {ms : Nat → Nat → Nat → Nat → (V → Upd → Rd α) → Rd α} (hms : MsLeaf H ms) : ∀ (xs : List V) (l : List Nat), (∀ k : List V → Upd → Rd α, (frzGAll ms xs k).run H l = none) ∨ ∃ x' u l1, ∀ k : List V → Upd → Rd α, (frzGAll ms xs k).run H l = (k x' u).run H l1
  | [], l => .inr ⟨_, _, _, fun k => by simp only [frzGAll]; rfl⟩
  | x :: r, l => by
    rcases frzG_leaf H hms x l with h | ⟨x', u, l1, h⟩
    · exact .inl fun k => by simp only [frzGAll]; exact h _
    · rcases frzGAll_leaf H hms r l1 with h2 | ⟨r', u', l2, h2⟩
      · exact .inl fun k => by simp only [frzGAll]; rw [h]; exact h2 _
      · exact .inr ⟨x' :: r', u ++ u', l2, fun k => by simp only [frzGAll]; rw [h]; exact h2 _⟩
end
theorem frzGRows_leaf (H : Heap) {ms : Nat → Nat → Nat → Nat → (V → Upd → Rd α) → Rd α} (hms : MsLeaf H ms) : ∀ (xs : List (List V)) (l : List Nat), (∀ k : List (List V) → Upd → Rd α, (frzGRows ms xs k).run H l = none) ∨ ∃ x' u l1, ∀ k : List (List V) → Upd → Rd α, (frzGRows ms xs k).run H l = (k x' u).run H l1
  | [], l => .inr ⟨_, _, _, fun k => by simp only [frzGRows]; rfl⟩
  | x :: r, l => by
    rcases frzGAll_leaf H hms x l with h | ⟨x', u, l1, h⟩
    · exact .inl fun k => by simp only [frzGRows]; exact h _
    · rcases frzGRows_leaf H hms r l1 with h2 | ⟨r', u', l2, h2⟩
      · exact .inl fun k => by simp only [frzGRows]; rw [h]; exact h2 _
      · exact .inr ⟨x' :: r', u ++ u', l2, fun k => by simp only [frzGRows]; rw [h]; exact h2 _⟩
theorem msUp_leaf (H : Heap) {ms : Nat → Nat → Nat → Nat → (V → Upd → Rd α) → Rd α} (hms : MsLeaf H ms) : MsLeaf H (msUp ms) := fun i st o n l => by
  cases h : H.at? i with
  | none => exact .inl fun k => by simp [msUp, Rd.run, h]
  | some ob =>
    cases ob with
    | mp es p => exact .inl fun k => by simp [msUp, Rd.run, h]
    | buf st' rows f p =>
      cases p with
      | false =>
        by_cases hc : st' = st ∧ o + n ≤ rows.length
        · rcases frzGRows_leaf H hms rows (i :: l) with h2 | ⟨rows', u, l1, h2⟩
          · exact .inl fun k => by simp only [msUp, Rd.run, h, if_pos hc]; exact h2 _
          · by_cases ha : (rows'.all fun r => r.all fun v => v.isCell && !v.hasIds) = true
            · exact .inr ⟨_, _, _, fun k => by simp only [msUp, Rd.run, h, if_pos hc]; rw [h2, if_pos ha]⟩
            · exact .inl fun k => by simp only [msUp, Rd.run, h, if_pos hc]; rw [h2, if_neg ha]; rfl
        · exact .inl fun k => by simp [msUp, Rd.run, h, if_neg hc]
      | true =>
        by_cases hc : st' = st ∧ o + n ≤ rows.length
        · exact .inr ⟨_, _, _, fun k => by simp only [msUp, Rd.run, h, if_pos hc]; rfl⟩
        · exact .inl fun k => by simp [msUp, Rd.run, h, if_neg hc]
theorem ms2_leaf (H : Heap) : MsLeaf (α := α) H ms2 := msUp_leaf H (msUp_leaf H (msUp_leaf H fun _ _ _ _ _ => .inl fun _ => rfl))
theorem frz_leaf (H : Heap) (x : V) (l : List Nat) : (∀ k : V → Upd → Rd α, (frz x k).run H l = none) ∨ ∃ x' u l1, ∀ k : V → Upd → Rd α, (frz x k).run H l = (k x' u).run H l1 := frzG_leaf H (ms2_leaf H) x l

theorem frzArgs_leaf (H : Heap) : ∀ (xs : List V) (m : List Bool) (l : List Nat), (∀ k : List V → Upd → Rd α, (frzArgs xs m k).run H l = none) ∨ ∃ x' u l1, ∀ k : List V → Upd → Rd α, (frzArgs xs m k).run H l = (k x' u).run H l1
  | [], m, l => .inr ⟨_, _, _, fun k => by simp only [frzArgs]; rfl⟩
  | x :: r, m, l => by
    have keep : ∀ m', (∀ k : List V → Upd → Rd α, (frzArgs (x :: r) m k) = frzArgs r m' fun r u' => k (x :: r) u') → (∀ k : List V → Upd → Rd α, (frzArgs (x :: r) m k).run H l = none) ∨ ∃ x' u l1, ∀ k : List V → Upd → Rd α, (frzArgs (x :: r) m k).run H l = (k x' u).run H l1 := by
      intro m' hm
      rcases frzArgs_leaf H r m' l with h2 | ⟨r', u', l2, h2⟩
      · exact .inl fun k => by rw [hm]; exact h2 _
      · exact .inr ⟨x :: r', u', l2, fun k => by rw [hm]; exact h2 _⟩
    cases m with
    | nil => exact keep (List.tail []) fun k => by simp only [frzArgs]
    | cons b m =>
      cases b with
      | false => exact keep (List.tail (false :: m)) fun k => by simp only [frzArgs]
      | true =>
        rcases frz_leaf H x l with h | ⟨x', u, l1, h⟩
        · exact .inl fun k => by simp only [frzArgs]; exact h _
        · rcases frzArgs_leaf H r m l1 with h2 | ⟨r', u', l2, h2⟩
          · exact .inl fun k => by simp only [frzArgs]; rw [h]; exact h2 _
          · exact .inr ⟨x' :: r', u ++ u', l2, fun k => by simp only [frzArgs]; rw [h]; exact h2 _⟩

theorem collect_leaf (H : Heap) : ∀ (n : Nat) (todo : List Nat) (acc : List (Nat × Ob)) (l : List Nat), (∀ k : List (Nat × Ob) → Rd α, (collect n todo acc k).run H l = none) ∨ ∃ obs l1, ∀ k : List (Nat × Ob) → Rd α, (collect n todo acc k).run H l = (k obs).run H l1
  | 0, todo, acc, l => .inl fun k => by simp [collect, Rd.run]
  | n + 1, [], acc, l => .inr ⟨acc, l, fun k => by simp only [collect]⟩
  | n + 1, i :: todo, acc, l => by
    by_cases hc : (acc.map (·.1)).contains i = true
    · rcases collect_leaf H n todo acc l with h | ⟨obs, l1, h⟩
      · exact .inl fun k => by simp only [collect, if_pos hc]; exact h _
      · exact .inr ⟨obs, l1, fun k => by simp only [collect, if_pos hc]; exact h _⟩
    · cases ho : H.at? i with
      | none => exact .inl fun k => by simp [collect, if_neg hc, Rd.run, ho]
      | some o =>
        rcases collect_leaf H n (o.ids ++ todo) (acc ++ [(i, o)]) (i :: l) with h | ⟨obs, l1, h⟩
        · exact .inl fun k => by simp only [collect, if_neg hc, Rd.run, ho]; exact h _
        · exact .inr ⟨obs, l1, fun k => by simp only [collect, if_neg hc, Rd.run, ho]; exact h _⟩
end

/-- A call's answer hangs on what the function answers at one place. -/
theorem with_leaf (H : Heap) (n : Nat) (args : List V) (u : Upd) (obs : List (Nat × Ob)) (l : List Nat) : (∀ fn : Fun, (withR fn n args u obs).run H l = none) ∨ ∃ a hs, ∃ K : V × Heap → Option ((V × Upd) × List Nat), ∀ fn : Fun, (withR fn n args u obs).run H l = (fn a hs).bind K := by
  unfold withR
  simp only
  split
  · split
    · rename_i a hs _ _
      refine .inr ⟨a, hs, fun r => (if (obs.map (·.1)).length ≤ r.2.length then afterR n (obs.map (·.1)) u r.1 r.2 else .fail).run H l, fun fn => ?_⟩
      cases fn a hs with
      | none => rfl
      | some r => rfl
    · exact .inl fun _ => rfl
  · exact .inl fun _ => rfl

theorem callR_leaf (H : Heap) (pfz : List Bool) (n : Nat) (args : List V) (l : List Nat) : (∀ fn : Fun, (callR fn pfz n args).run H l = none) ∨ ∃ a hs, ∃ K : V × Heap → Option ((V × Upd) × List Nat), ∀ fn : Fun, (callR fn pfz n args).run H l = (fn a hs).bind K := by
  unfold callR
  rcases frzArgs_leaf (α := V × Upd) H args pfz l with h | ⟨a1, u, l1, h⟩
  · exact .inl fun fn => h _
  · rcases collect_leaf (α := V × Upd) H 4096 (V.allIds a1) [] l1 with h2 | ⟨obs, l2, h2⟩
    · exact .inl fun fn => by rw [h]; exact h2 _
    · rcases with_leaf H n a1 u obs l2 with h3 | ⟨a, hs, K, h3⟩
      · exact .inl fun fn => by rw [h, h2]; exact h3 fn
      · exact .inr ⟨a, hs, K, fun fn => by rw [h, h2]; exact h3 fn⟩

section
variable (T : TT) (fns : FuncId → Option AFn)

theorem aop_leaf (H : Heap) (n : Nat) (e : Env) (o : Oper) (l : List Nat) : (∃ r, ∀ call, (aop { T, fns, call } n e o).run H l = r) ∨ ∃ g a hs, ∃ K : V × Heap → Option ((V × Upd) × List Nat), ∀ call : FuncId → Fun, (aop { T, fns, call } n e o).run H l = (call g a hs).bind K := by
  have one : ∀ {x : Option ((V × Upd) × List Nat)}, (∀ call, (aop { T, fns, call } n e o).run H l = x) → (∃ r, ∀ call, (aop { T, fns, call } n e o).run H l = r) ∨ ∃ g a hs, ∃ K : V × Heap → Option ((V × Upd) × List Nat), ∀ call : FuncId → Fun, (aop { T, fns, call } n e o).run H l = (call g a hs).bind K := fun h => .inl ⟨_, h⟩
  let w : Option ((V × Upd) × List Nat) := (aop { T, fns, call := fun _ _ _ => none } n e o).run H l
  obtain ⟨dst, op, ty, pos, after, guard⟩ := o
  cases op with
  | call c =>
    obtain ⟨callee, ars, ats⟩ := c
    cases callee with
    | builtin b => exact one (x := w) fun call => rfl
    | value f =>
      show (∃ r, ∀ call, (callV { T, fns, call } n (ev e f) (evs e ars.toList)).run H l = r) ∨ ∃ g a hs, ∃ K : V × Heap → Option ((V × Upd) × List Nat), ∀ call : FuncId → Fun, (callV { T, fns, call } n (ev e f) (evs e ars.toList)).run H l = (call g a hs).bind K
      unfold callV
      cases ev e f with
      | clo g caps =>
        simp only
        cases fns g with
        | none => exact .inl ⟨none, fun call => rfl⟩
        | some fn =>
          simp only
          rcases callR_leaf H fn.pfz n (evs e ars.toList ++ caps) l with h | ⟨a, hs, K, h⟩
          · exact .inl ⟨none, fun call => h _⟩
          · exact .inr ⟨g, a, hs, K, fun call => h _⟩
      | _ => exact .inl ⟨none, fun call => rfl⟩
    | invoke _ _ => exact one (x := w) fun call => rfl
  | makeFunc f first caps => cases f <;> exact one (x := w) fun call => rfl
  | makeMap t x => cases x <;> exact one (x := w) fun call => rfl
  | _ => exact one (x := w) fun call => rfl

/-- Bounds great enough. -/
def Evt (g : FuncId) (a : List V) (h : List Ob) (r : V × Heap) : Prop := ∃ i, ∀ R d, i ≤ R → i ≤ d → acall T fns R d g a h = some r

open Classical in
/-- What a function answers, whatever the bounds, once they are great enough. -/
noncomputable def lim : FuncId → Fun := fun g a h => if hx : ∃ r, Evt T fns g a h r then some hx.choose else none

theorem lim_evt {g : FuncId} {a : List V} {h : List Ob} {r : V × Heap} (hl : lim T fns g a h = some r) : Evt T fns g a h r := by
  unfold lim at hl
  split at hl
  · rename_i hx
    cases hl
    exact hx.choose_spec
  · cases hl

theorem lim_of {g : FuncId} {a : List V} {h : List Ob} {r : V × Heap} (he : Evt T fns g a h r) : lim T fns g a h = some r := by
  unfold lim
  have hx : ∃ r, Evt T fns g a h r := ⟨r, he⟩
  rw [dif_pos hx]
  obtain ⟨i, hi⟩ := he
  obtain ⟨j, hj⟩ := hx.choose_spec
  have h1 := hi (max i j) (max i j) (by omega) (by omega)
  have h2 := hj (max i j) (max i j) (by omega) (by omega)
  rw [h1] at h2
  exact h2.symm

/-- The machine without bounds on depth. -/
noncomputable abbrev LX : Cx := { T, fns, call := lim T fns }
abbrev AX (R d : Nat) : Cx := { T, fns, call := acall T fns R d }

theorem aop_lim {H : Heap} {n : Nat} {e : Env} {o : Oper} {l : List Nat} {r : (V × Upd) × List Nat} (h : (aop (LX T fns) n e o).run H l = some r) : ∃ i, ∀ R d, i ≤ R → i ≤ d → (aop (AX T fns R d) n e o).run H l = some r := by
  rcases aop_leaf T fns H n e o l with ⟨x, hx⟩ | ⟨g, a, hs, K, hx⟩
  · exact ⟨0, fun R d _ _ => by rw [hx] at h ⊢; exact h⟩
  · rw [hx, Option.bind_eq_some_iff] at h
    obtain ⟨p, h1, h2⟩ := h
    obtain ⟨i, hi⟩ := lim_evt T fns h1
    exact ⟨i, fun R d hR hd => by rw [hx]; simp only [hi R d hR hd]; exact h2⟩

theorem ops_lim {ntmps : Nat} {ops : Array Oper} : ∀ {rest : List Oper} {s s' : St}, runOps (LX T fns) ntmps ops rest s = some s' → ∃ i, ∀ R d, i ≤ R → i ≤ d → runOps (AX T fns R d) ntmps ops rest s = some s'
  | [], s, s', h => ⟨0, fun R d _ _ => h⟩
  | o :: r, s, s', h => by
    simp only [runOps] at h ⊢
    split at h
    · cases h
    · simp only [Option.bind_eq_some_iff] at h ⊢
      obtain ⟨e, h1, h2⟩ := h
      obtain ⟨i, hi⟩ := ops_lim h2
      exact ⟨i, fun R d hR hd => ⟨e, h1, hi R d hR hd⟩⟩
    · split at h
      · cases h
      · rename_i v u l hrun
        simp only [Option.bind_eq_some_iff] at h
        obtain ⟨e, h1, h2⟩ := h
        obtain ⟨i, hi⟩ := aop_lim T fns hrun
        obtain ⟨j, hj⟩ := ops_lim h2
        exact ⟨max i j, fun R d hR hd => by
          rw [hi R d (by omega) (by omega)]
          simp only [Option.bind_eq_some_iff]
          exact ⟨e, h1, hj R d (by omega) (by omega)⟩⟩

theorem draw_lim {ntmps : Nat} {ops : Array Oper} {bef : Array Nat} : ∀ {rest : List Oper} {j : Nat} {s s' : St} {done : List Did}, runDraw (LX T fns) ntmps ops bef rest j s done = some s' → ∃ i, ∀ R d, i ≤ R → i ≤ d → runDraw (AX T fns R d) ntmps ops bef rest j s done = some s'
  | [], j, s, s', done, h => ⟨0, fun R d _ _ => h⟩
  | o :: r, j, s, s', done, h => by
    simp only [runDraw] at h ⊢
    split at h
    · cases h
    · simp only [Option.bind_eq_some_iff] at h ⊢
      obtain ⟨e, h1, h2⟩ := h
      obtain ⟨i, hi⟩ := draw_lim h2
      exact ⟨i, fun R d hR hd => ⟨e, h1, hi R d hR hd⟩⟩
    · split at h
      · cases h
      · rename_i v u l hrun
        split at h
        · rename_i hap
          simp only [Option.bind_eq_some_iff] at h
          obtain ⟨e, h1, h2⟩ := h
          obtain ⟨i, hi⟩ := aop_lim T fns hrun
          obtain ⟨k, hk⟩ := draw_lim h2
          exact ⟨max i k, fun R d hR hd => by
            rw [hi R d (by omega) (by omega)]
            simp only [if_pos hap, Option.bind_eq_some_iff]
            exact ⟨e, h1, hk R d (by omega) (by omega)⟩⟩
        · cases h

theorem iops_lim {cb : CB} {cbs : Nat → Nat → CB} (hcb : ∀ args h x, cb args h = some x → ∃ i, ∀ R d, i ≤ R → i ≤ d → cbs R d args h = some x) {nt : Nat} {ops : Array Oper} : ∀ {rest : List Oper} {s s' : ISt}, iOps (LX T fns) nt cb ops rest s = some s' → ∃ i, ∀ R d, i ≤ R → i ≤ d → iOps (AX T fns R d) nt (cbs R d) ops rest s = some s'
  | [], s, s', h => ⟨0, fun R d _ _ => h⟩
  | o :: r, s, s', h => by
    simp only [iOps] at h ⊢
    cases hw : wants ops s.env o with
    | none => simp [hw] at h
    | some b =>
      cases b with
      | false =>
        simp only [hw, Option.bind_eq_some_iff] at h ⊢
        obtain ⟨e, h1, h2⟩ := h
        obtain ⟨i, hi⟩ := iops_lim hcb h2
        exact ⟨i, fun R d hR hd => ⟨e, h1, hi R d hR hd⟩⟩
      | true =>
        simp only [hw] at h ⊢
        cases hy : yArgs o s.y with
        | some ars =>
          simp only [hy] at h ⊢
          cases hst : s.stop with
          | some x => simp [hst] at h
          | none =>
            simp only [hst] at h ⊢
            cases hcbr : cb (evs s.env ars) s.heap with
            | none => simp [hcbr] at h
            | some x =>
              obtain ⟨st, h'⟩ := x
              simp only [hcbr, Option.bind_eq_some_iff] at h
              obtain ⟨e, h1, h2⟩ := h
              obtain ⟨i, hi⟩ := hcb _ _ _ hcbr
              obtain ⟨j, hj⟩ := iops_lim hcb h2
              refine ⟨max i j, fun R d hR hd => ?_⟩
              simp only [hi R d (by omega) (by omega), Option.bind_eq_some_iff]
              exact ⟨e, h1, hj R d (by omega) (by omega)⟩
        | none =>
          simp only [hy] at h ⊢
          cases hrun : (aop (LX T fns) s.heap.length s.env o).run s.heap [] with
          | none => simp [hrun] at h
          | some x =>
            obtain ⟨⟨v, u⟩, l⟩ := x
            simp only [hrun, Option.bind_eq_some_iff] at h
            obtain ⟨e, h1, h2⟩ := h
            obtain ⟨i, hi⟩ := aop_lim T fns hrun
            obtain ⟨j, hj⟩ := iops_lim hcb h2
            refine ⟨max i j, fun R d hR hd => ?_⟩
            simp only [hi R d (by omega) (by omega), Option.bind_eq_some_iff]
            exact ⟨e, h1, hj R d (by omega) (by omega)⟩

theorem icode_lim {cb : CB} {cbs : Nat → Nat → CB} (hcb : ∀ args h x, cb args h = some x → ∃ i, ∀ R d, i ≤ R → i ≤ d → cbs R d args h = some x) {ntmps keep : Nat} {gcs : List AGc} {R0 : Nat} : ∀ {c : Code} {id : Option Nat} {s : ISt} {r : Ex × ISt}, icode (LX T fns) ntmps keep R0 gcs cb c id s = some r → ∃ i, ∀ R d, i ≤ R → i ≤ d → icode (AX T fns R d) ntmps keep R gcs (cbs R d) c id s = some r
  | .skip, id, s, r, h => ⟨0, fun R d _ _ => h⟩
  | .region rid ops draw, id, s, r, h => by
    simp only [icode] at h ⊢
    cases draw with
    | false =>
      simp only [Bool.false_eq_true, if_false, Option.map_eq_some_iff] at h ⊢
      obtain ⟨s1, h1, h2⟩ := h
      obtain ⟨i, hi⟩ := iops_lim T fns hcb h1
      exact ⟨i, fun R d hR hd => ⟨s1, hi R d hR hd, h2⟩⟩
    | true =>
      simp only [if_true] at h ⊢
      split at h
      · rename_i hall
        simp only [if_pos hall]
        simp only [Option.map_eq_some_iff] at h ⊢
        obtain ⟨s1, h1, h2⟩ := h
        obtain ⟨i, hi⟩ := draw_lim T fns h1
        exact ⟨i, fun R d hR hd => ⟨s1, hi R d hR hd, h2⟩⟩
      · cases h
  | .seq x y, id, s, r, h => by
    simp only [icode, Option.bind_eq_some_iff] at h ⊢
    obtain ⟨⟨ex, s1⟩, h1, h2⟩ := h
    obtain ⟨i, hi⟩ := icode_lim hcb h1
    cases ex with
    | normal =>
      obtain ⟨j, hj⟩ := icode_lim hcb h2
      exact ⟨max i j, fun R d hR hd => ⟨_, hi R d (by omega) (by omega), hj R d (by omega) (by omega)⟩⟩
    | exit k => exact ⟨i, fun R d hR hd => ⟨_, hi R d hR hd, h2⟩⟩
    | ret => exact ⟨i, fun R d hR hd => ⟨_, hi R d hR hd, h2⟩⟩
  | .cond c x y, id, s, r, h => by
    simp only [icode] at h ⊢
    split at h
    · exact icode_lim hcb h
    · exact icode_lim hcb h
    · cases h
  | .block b c, id, s, r, h => by
    simp only [icode, Option.map_eq_some_iff] at h ⊢
    obtain ⟨r1, h1, h2⟩ := h
    obtain ⟨i, hi⟩ := icode_lim hcb h1
    exact ⟨i, fun R d hR hd => ⟨r1, hi R d hR hd, h2⟩⟩
  | .loop c, id, s, r, h => by
    simp only [icode] at h ⊢
    have key : ∀ (n : Nat) (s : ISt), iRounds (fun s => (head keep (gcOf gcs id) { env := s.env, heap := s.heap }).bind fun t => icode (LX T fns) ntmps keep R0 gcs cb c none { env := t.env, heap := t.heap, y := yHead (gcOf gcs id) s.y, stop := s.stop }) n s = some r →
        ∃ i, ∀ R d m, i ≤ R → i ≤ d → n ≤ m → iRounds (fun s => (head keep (gcOf gcs id) { env := s.env, heap := s.heap }).bind fun t => icode (AX T fns R d) ntmps keep R gcs (cbs R d) c none { env := t.env, heap := t.heap, y := yHead (gcOf gcs id) s.y, stop := s.stop }) m s = some r := by
      intro n
      induction n with
      | zero => intro s h; simp [iRounds] at h
      | succ n ih =>
        intro s h
        unfold iRounds at h
        cases hb : (head keep (gcOf gcs id) { env := s.env, heap := s.heap }).bind fun t => icode (LX T fns) ntmps keep R0 gcs cb c none { env := t.env, heap := t.heap, y := yHead (gcOf gcs id) s.y, stop := s.stop } with
        | none => simp [hb] at h
        | some r1 =>
          simp only [hb] at h
          rw [Option.bind_eq_some_iff] at hb
          obtain ⟨s0, h1, h2⟩ := hb
          obtain ⟨i, hi⟩ := icode_lim hcb h2
          have hb2 : ∀ R d, i ≤ R → i ≤ d → ((head keep (gcOf gcs id) { env := s.env, heap := s.heap }).bind fun t => icode (AX T fns R d) ntmps keep R gcs (cbs R d) c none { env := t.env, heap := t.heap, y := yHead (gcOf gcs id) s.y, stop := s.stop }) = some r1 := fun R d hR hd => by
            rw [Option.bind_eq_some_iff]
            exact ⟨s0, h1, hi R d hR hd⟩
          obtain ⟨ex, s1⟩ := r1
          cases ex with
          | normal =>
            obtain ⟨j, hj⟩ := ih s1 h
            refine ⟨max i j, fun R d m hR hd hm => ?_⟩
            obtain ⟨m, rfl⟩ : ∃ m', m = m' + 1 := ⟨m - 1, by omega⟩
            unfold iRounds
            simp only [hb2 R d (by omega) (by omega)]
            exact hj R d m (by omega) (by omega) (by omega)
          | exit k =>
            refine ⟨i, fun R d m hR hd hm => ?_⟩
            obtain ⟨m, rfl⟩ : ∃ m', m = m' + 1 := ⟨m - 1, by omega⟩
            unfold iRounds
            simp only [hb2 R d (by omega) (by omega)]
            exact h
          | ret =>
            refine ⟨i, fun R d m hR hd hm => ?_⟩
            obtain ⟨m, rfl⟩ : ∃ m', m = m' + 1 := ⟨m - 1, by omega⟩
            unfold iRounds
            simp only [hb2 R d (by omega) (by omega)]
            exact h
    obtain ⟨i, hi⟩ := key R0 s h
    exact ⟨max i R0, fun R d hR hd => hi R d R (by omega) (by omega) (by omega)⟩
  | .exit i, id, s, r, h => ⟨0, fun R d _ _ => h⟩
  | .ret, id, s, r, h => ⟨0, fun R d _ _ => h⟩
  | .rangeFunc .., id, s, r, h | .scope .., id, s, r, h | .label .., id, s, r, h | .goto .., id, s, r, h | .refuse .., id, s, r, h => by simp [icode] at h

theorem code_lim {ntmps : Nat} {gcs : List AGc} {R0 : Nat} : ∀ {c : Code} {keep : Nat} {id : Option Nat} {s : St} {r : Ex × St}, acode (LX T fns) ntmps keep R0 gcs c id s = some r → ∃ i, ∀ R d, i ≤ R → i ≤ d → acode (AX T fns R d) ntmps keep R gcs c id s = some r
  | .skip, keep, id, s, r, h => ⟨0, fun R d _ _ => h⟩
  | .region rid ops draw, keep, id, s, r, h => by
    simp only [acode, aregion, Option.map_eq_some_iff] at h ⊢
    obtain ⟨s1, h1, h2⟩ := h
    cases draw with
    | false =>
      simp only [Bool.false_eq_true, if_false] at h1 ⊢
      obtain ⟨i, hi⟩ := ops_lim T fns h1
      exact ⟨i, fun R d hR hd => ⟨s1, hi R d hR hd, h2⟩⟩
    | true =>
      simp only [if_true] at h1 ⊢
      obtain ⟨i, hi⟩ := draw_lim T fns h1
      exact ⟨i, fun R d hR hd => ⟨s1, hi R d hR hd, h2⟩⟩
  | .seq x y, keep, id, s, r, h => by
    simp only [acode, Option.bind_eq_some_iff] at h ⊢
    obtain ⟨⟨ex, s1⟩, h1, h2⟩ := h
    obtain ⟨i, hi⟩ := code_lim h1
    cases ex with
    | normal =>
      obtain ⟨j, hj⟩ := code_lim h2
      exact ⟨max i j, fun R d hR hd => ⟨_, hi R d (by omega) (by omega), hj R d (by omega) (by omega)⟩⟩
    | exit k => exact ⟨i, fun R d hR hd => ⟨_, hi R d hR hd, h2⟩⟩
    | ret => exact ⟨i, fun R d hR hd => ⟨_, hi R d hR hd, h2⟩⟩
  | .cond c x y, keep, id, s, r, h => by
    simp only [acode] at h ⊢
    split at h
    · exact code_lim h
    · exact code_lim h
    · cases h
  | .block b c, keep, id, s, r, h => by
    simp only [acode, Option.map_eq_some_iff] at h ⊢
    obtain ⟨r1, h1, h2⟩ := h
    obtain ⟨i, hi⟩ := code_lim h1
    exact ⟨i, fun R d hR hd => ⟨r1, hi R d hR hd, h2⟩⟩
  | .loop c, keep, id, s, r, h => by
    simp only [acode] at h ⊢
    have key : ∀ (n : Nat) (s : St), rounds (fun s => (head keep (gcOf gcs id) s).bind fun s => acode (LX T fns) ntmps keep R0 gcs c none s) n s = some r →
        ∃ i, ∀ R d m, i ≤ R → i ≤ d → n ≤ m → rounds (fun s => (head keep (gcOf gcs id) s).bind fun s => acode (AX T fns R d) ntmps keep R gcs c none s) m s = some r := by
      intro n
      induction n with
      | zero => intro s h; simp [rounds] at h
      | succ n ih =>
        intro s h
        unfold rounds at h
        cases hb : (head keep (gcOf gcs id) s).bind fun s => acode (LX T fns) ntmps keep R0 gcs c none s with
        | none => simp [hb] at h
        | some r1 =>
          simp only [hb] at h
          rw [Option.bind_eq_some_iff] at hb
          obtain ⟨s0, h1, h2⟩ := hb
          obtain ⟨i, hi⟩ := code_lim h2
          have hb2 : ∀ R d, i ≤ R → i ≤ d → ((head keep (gcOf gcs id) s).bind fun s => acode (AX T fns R d) ntmps keep R gcs c none s) = some r1 := fun R d hR hd => by
            rw [Option.bind_eq_some_iff]
            exact ⟨s0, h1, hi R d hR hd⟩
          obtain ⟨ex, s1⟩ := r1
          cases ex with
          | normal =>
            obtain ⟨j, hj⟩ := ih s1 h
            refine ⟨max i j, fun R d m hR hd hm => ?_⟩
            obtain ⟨m, rfl⟩ : ∃ m', m = m' + 1 := ⟨m - 1, by omega⟩
            unfold rounds
            simp only [hb2 R d (by omega) (by omega)]
            exact hj R d m (by omega) (by omega) (by omega)
          | exit k =>
            refine ⟨i, fun R d m hR hd hm => ?_⟩
            obtain ⟨m, rfl⟩ : ∃ m', m = m' + 1 := ⟨m - 1, by omega⟩
            unfold rounds
            simp only [hb2 R d (by omega) (by omega)]
            exact h
          | ret =>
            refine ⟨i, fun R d m hR hd hm => ?_⟩
            obtain ⟨m, rfl⟩ : ∃ m', m = m' + 1 := ⟨m - 1, by omega⟩
            unfold rounds
            simp only [hb2 R d (by omega) (by omega)]
            exact h
    obtain ⟨i, hi⟩ := key R0 s h
    exact ⟨max i R0, fun R d hR hd => hi R d R (by omega) (by omega) (by omega)⟩
  | .exit i, keep, id, s, r, h => ⟨0, fun R d _ _ => h⟩
  | .ret, keep, id, s, r, h => ⟨0, fun R d _ _ => h⟩
  | .rangeFunc g ps assign body, keep, id, s, r, h => by
    simp only [acode] at h ⊢
    cases hev : ev s.env g with
    | clo gf caps =>
      simp only [hev] at h ⊢
      cases hf : fns gf with
      | none => simp [hf] at h
      | some fn =>
        simp only [hf] at h ⊢
        split at h
        · cases h
        · rename_i hno
          simp only [if_neg hno]
          rw [Option.bind_eq_some_iff] at h
          obtain ⟨x, h1, h2⟩ := h
          obtain ⟨i, hi⟩ := icode_lim T fns (cbs := fun R d => roundOf ntmps ps.toList s.env (fun k s1 => acode (AX T fns R d) ntmps k R gcs assign none s1) (fun k s1 => acode (AX T fns R d) ntmps k R gcs body none s1)) (fun args h0 y hy => by
            unfold roundOf at hy ⊢
            split at hy
            · rename_i hl
              simp only [if_pos hl]
              cases ha : acode (LX T fns) ntmps h0.length R0 gcs assign none { env := bindPs ps.toList args s.env, heap := h0 } with
              | none => simp [ha] at hy
              | some z =>
                obtain ⟨ex, s1⟩ := z
                obtain ⟨i, hi⟩ := code_lim ha
                cases ex with
                | normal =>
                  simp only [ha, Option.map_eq_some_iff] at hy
                  obtain ⟨z, hz1, hz2⟩ := hy
                  obtain ⟨j, hj⟩ := code_lim hz1
                  refine ⟨max i j, fun R d hR hd => ?_⟩
                  simp only [hi R d (by omega) (by omega), Option.map_eq_some_iff]
                  exact ⟨z, hj R d (by omega) (by omega), hz2⟩
                | exit k => simp [ha] at hy
                | ret => simp [ha] at hy
            · cases hy) h1
          exact ⟨i, fun R d hR hd => by
            rw [Option.bind_eq_some_iff]
            exact ⟨x, hi R d hR hd, h2⟩⟩
    | _ => simp [hev] at h
  | .scope .., keep, id, s, r, h | .label .., keep, id, s, r, h | .goto .., keep, id, s, r, h | .refuse .., keep, id, s, r, h => by simp [acode] at h

/-- A function's answer out of its body's run. -/
theorem lim_run {g : FuncId} {fn : AFn} (hfn : fns g = some fn) (hi : fn.intr = none) {R0 : Nat} {args : List V} {hs : List Ob} {r : V × Heap} (h : runFn (LX T fns) fn R0 args hs = some r) : lim T fns g args hs = some r := by
  refine lim_of T fns ?_
  unfold runFn at h
  split at h
  · cases h
  · rename_i hl
    rw [Option.bind_eq_some_iff] at h
    obtain ⟨x, h1, h2⟩ := h
    obtain ⟨i, hi'⟩ := code_lim T fns h1
    refine ⟨i + 1, fun R d hR hd => ?_⟩
    obtain ⟨d, rfl⟩ : ∃ d', d = d' + 1 := ⟨d - 1, by omega⟩
    simp only [acall, hfn, hi]
    unfold runFn
    rw [if_neg hl, Option.bind_eq_some_iff]
    exact ⟨x, hi' R d (by omega) (by omega), h2⟩

theorem lim_clone {g : FuncId} {fn : AFn} (hfn : fns g = some fn) {st bytes : Nat} (hi : fn.intr = some (st, bytes)) {args : List V} {hs : List Ob} {r : V × Heap} (h : cloneFn st bytes args hs = some r) : lim T fns g args hs = some r := by
  refine lim_of T fns ⟨1, fun R d hR hd => ?_⟩
  obtain ⟨d, rfl⟩ : ∃ d', d = d' + 1 := ⟨d - 1, by omega⟩
  simp only [acall, hfn, hi]
  exact h

theorem lim_ok {P : Program} (h : ∀ R d g, FunOK P g (acall T fns R d g)) (g : FuncId) : FunOK P g (lim T fns g) := fun args hs r hp heq => by
  obtain ⟨i, hi⟩ := lim_evt T fns heq
  exact h i i g args hs r hp (hi i i (Nat.le_refl _) (Nat.le_refl _))
end

end Go.Proofs.Ytfdemnefkfkghaa.R
/- More calls answered, more rounds: nothing that was answered is answered otherwise. -/
namespace Go.Proofs.Ytfdemnefkfkghaa.R
set_option linter.unusedVariables false
set_option linter.unusedSimpArgs false
open Go

theorem rounds_mono {b b' : St → Option (Ex × St)} (hb : ∀ s r, b s = some r → b' s = some r) : ∀ {n m : Nat} {s : St} {r : Ex × St}, n ≤ m → rounds b n s = some r → rounds b' m s = some r
  | 0, m, s, r, _, h => by simp [rounds] at h
  | n + 1, m, s, r, hm, h => by
    obtain ⟨m, rfl⟩ : ∃ m', m = m' + 1 := ⟨m - 1, by omega⟩
    unfold rounds at h ⊢
    cases h1 : b s with
    | none => simp [h1] at h
    | some x =>
      simp only [h1] at h
      simp only [hb s x h1]
      obtain ⟨ex, s1⟩ := x
      cases ex with
      | normal => exact rounds_mono hb (by omega) h
      | exit i => exact h
      | ret => exact h

theorem iRounds_mono {b b' : ISt → Option (Ex × ISt)} (hb : ∀ s r, b s = some r → b' s = some r) : ∀ {n m : Nat} {s : ISt} {r : Ex × ISt}, n ≤ m → iRounds b n s = some r → iRounds b' m s = some r
  | 0, m, s, r, _, h => by simp [iRounds] at h
  | n + 1, m, s, r, hm, h => by
    obtain ⟨m, rfl⟩ : ∃ m', m = m' + 1 := ⟨m - 1, by omega⟩
    unfold iRounds at h ⊢
    cases h1 : b s with
    | none => simp [h1] at h
    | some x =>
      simp only [h1] at h
      simp only [hb s x h1]
      obtain ⟨ex, s1⟩ := x
      cases ex with
      | normal => exact iRounds_mono hb (by omega) h
      | exit i => exact h
      | ret => exact h

section
variable (T : TT) (fns : FuncId → Option AFn) {c c' : FuncId → Fun} (hc : ∀ g a h r, c g a h = some r → c' g a h = some r)
include hc

theorem aop_imp {H : Heap} {n : Nat} {e : Env} {o : Oper} {l : List Nat} {r : (V × Upd) × List Nat} (h : (aop { T, fns, call := c } n e o).run H l = some r) : (aop { T, fns, call := c' } n e o).run H l = some r := by
  rcases aop_leaf T fns H n e o l with ⟨x, hx⟩ | ⟨g, a, hs, K, hx⟩
  · rw [hx] at h ⊢
    exact h
  · rw [hx, Option.bind_eq_some_iff] at h
    obtain ⟨p, h1, h2⟩ := h
    rw [hx, hc _ _ _ _ h1]
    exact h2

theorem ops_imp {ntmps : Nat} {ops : Array Oper} : ∀ {rest : List Oper} {s s' : St}, runOps { T, fns, call := c } ntmps ops rest s = some s' → runOps { T, fns, call := c' } ntmps ops rest s = some s'
  | [], s, s', h => h
  | o :: r, s, s', h => by
    simp only [runOps] at h ⊢
    split at h
    · cases h
    · simp only [Option.bind_eq_some_iff] at h ⊢
      obtain ⟨e, h1, h2⟩ := h
      exact ⟨e, h1, ops_imp h2⟩
    · split at h
      · cases h
      · rename_i v u l hrun
        simp only [Option.bind_eq_some_iff] at h
        obtain ⟨e, h1, h2⟩ := h
        rw [aop_imp T fns hc hrun]
        simp only [Option.bind_eq_some_iff]
        exact ⟨e, h1, ops_imp h2⟩

theorem draw_imp {ntmps : Nat} {ops : Array Oper} {bef : Array Nat} : ∀ {rest : List Oper} {j : Nat} {s s' : St} {done : List Did}, runDraw { T, fns, call := c } ntmps ops bef rest j s done = some s' → runDraw { T, fns, call := c' } ntmps ops bef rest j s done = some s'
  | [], j, s, s', done, h => h
  | o :: r, j, s, s', done, h => by
    simp only [runDraw] at h ⊢
    split at h
    · cases h
    · simp only [Option.bind_eq_some_iff] at h ⊢
      obtain ⟨e, h1, h2⟩ := h
      exact ⟨e, h1, draw_imp h2⟩
    · split at h
      · cases h
      · rename_i v u l hrun
        split at h
        · rename_i hap
          simp only [Option.bind_eq_some_iff] at h
          obtain ⟨e, h1, h2⟩ := h
          rw [aop_imp T fns hc hrun]
          simp only [if_pos hap, Option.bind_eq_some_iff]
          exact ⟨e, h1, draw_imp h2⟩
        · cases h

theorem iops_le {cb cb' : CB} (hcb : ∀ args h x, cb args h = some x → cb' args h = some x) {nt : Nat} {ops : Array Oper} : ∀ {rest : List Oper} {s s' : ISt}, iOps { T, fns, call := c } nt cb ops rest s = some s' → iOps { T, fns, call := c' } nt cb' ops rest s = some s'
  | [], s, s', h => h
  | o :: r, s, s', h => by
    simp only [iOps] at h ⊢
    cases hw : wants ops s.env o with
    | none => simp [hw] at h
    | some b =>
      cases b with
      | false =>
        simp only [hw, Option.bind_eq_some_iff] at h ⊢
        obtain ⟨e, h1, h2⟩ := h
        exact ⟨e, h1, iops_le hcb h2⟩
      | true =>
        simp only [hw] at h ⊢
        cases hy : yArgs o s.y with
        | some ars =>
          simp only [hy] at h ⊢
          cases hst : s.stop with
          | some x => simp [hst] at h
          | none =>
            simp only [hst] at h ⊢
            cases hcbr : cb (evs s.env ars) s.heap with
            | none => simp [hcbr] at h
            | some x =>
              obtain ⟨st, h'⟩ := x
              simp only [hcbr, hcb _ _ _ hcbr, Option.bind_eq_some_iff] at h ⊢
              obtain ⟨e, h1, h2⟩ := h
              exact ⟨e, h1, iops_le hcb h2⟩
        | none =>
          simp only [hy] at h ⊢
          cases hrun : (aop { T, fns, call := c } s.heap.length s.env o).run s.heap [] with
          | none => simp [hrun] at h
          | some x =>
            obtain ⟨⟨v, u⟩, l⟩ := x
            simp only [hrun, aop_imp T fns hc hrun, Option.bind_eq_some_iff] at h ⊢
            obtain ⟨e, h1, h2⟩ := h
            exact ⟨e, h1, iops_le hcb h2⟩

theorem icode_le {cb cb' : CB} (hcb : ∀ args h x, cb args h = some x → cb' args h = some x) {nt keep : Nat} {gcs : List AGc} {R R' : Nat} (hR : R ≤ R') : ∀ {k : Code} {id : Option Nat} {s : ISt} {r : Ex × ISt}, icode { T, fns, call := c } nt keep R gcs cb k id s = some r → icode { T, fns, call := c' } nt keep R' gcs cb' k id s = some r
  | .skip, id, s, r, h => h
  | .region rid ops draw, id, s, r, h => by
    simp only [icode] at h ⊢
    cases draw with
    | false =>
      simp only [Bool.false_eq_true, if_false, Option.map_eq_some_iff] at h ⊢
      obtain ⟨s1, h1, h2⟩ := h
      exact ⟨s1, iops_le T fns hc hcb h1, h2⟩
    | true =>
      simp only [if_true] at h ⊢
      split at h
      · rename_i hall
        rw [if_pos hall]
        simp only [Option.map_eq_some_iff] at h ⊢
        obtain ⟨s1, h1, h2⟩ := h
        exact ⟨s1, draw_imp T fns hc h1, h2⟩
      · cases h
  | .seq x y, id, s, r, h => by
    simp only [icode, Option.bind_eq_some_iff] at h ⊢
    obtain ⟨⟨ex, s1⟩, h1, h2⟩ := h
    cases ex with
    | normal => exact ⟨_, icode_le hcb hR h1, icode_le hcb hR h2⟩
    | exit k => exact ⟨_, icode_le hcb hR h1, h2⟩
    | ret => exact ⟨_, icode_le hcb hR h1, h2⟩
  | .cond x a b, id, s, r, h => by
    simp only [icode] at h ⊢
    split at h
    · exact icode_le hcb hR h
    · exact icode_le hcb hR h
    · cases h
  | .block b x, id, s, r, h => by
    simp only [icode, Option.map_eq_some_iff] at h ⊢
    obtain ⟨r1, h1, h2⟩ := h
    exact ⟨r1, icode_le hcb hR h1, h2⟩
  | .loop x, id, s, r, h => by
    simp only [icode] at h ⊢
    refine iRounds_mono (fun s r hb => ?_) hR h
    rw [Option.bind_eq_some_iff] at hb ⊢
    obtain ⟨s0, h1, h2⟩ := hb
    exact ⟨s0, h1, icode_le hcb hR h2⟩
  | .exit i, id, s, r, h => h
  | .ret, id, s, r, h => h
  | .rangeFunc .., id, s, r, h | .scope .., id, s, r, h | .label .., id, s, r, h | .goto .., id, s, r, h | .refuse .., id, s, r, h => by simp [icode] at h

theorem acode_le {nt : Nat} {gcs : List AGc} {R R' : Nat} (hR : R ≤ R') : ∀ {k : Code} {keep : Nat} {id : Option Nat} {s : St} {r : Ex × St}, acode { T, fns, call := c } nt keep R gcs k id s = some r → acode { T, fns, call := c' } nt keep R' gcs k id s = some r
  | .skip, keep, id, s, r, h => h
  | .region rid ops draw, keep, id, s, r, h => by
    simp only [acode, aregion, Option.map_eq_some_iff] at h ⊢
    obtain ⟨s1, h1, h2⟩ := h
    cases draw with
    | false =>
      simp only [Bool.false_eq_true, if_false] at h1 ⊢
      exact ⟨s1, ops_imp T fns hc h1, h2⟩
    | true =>
      simp only [if_true] at h1 ⊢
      exact ⟨s1, draw_imp T fns hc h1, h2⟩
  | .seq x y, keep, id, s, r, h => by
    simp only [acode, Option.bind_eq_some_iff] at h ⊢
    obtain ⟨⟨ex, s1⟩, h1, h2⟩ := h
    cases ex with
    | normal => exact ⟨_, acode_le hR h1, acode_le hR h2⟩
    | exit k => exact ⟨_, acode_le hR h1, h2⟩
    | ret => exact ⟨_, acode_le hR h1, h2⟩
  | .cond x a b, keep, id, s, r, h => by
    simp only [acode] at h ⊢
    split at h
    · exact acode_le hR h
    · exact acode_le hR h
    · cases h
  | .block b x, keep, id, s, r, h => by
    simp only [acode, Option.map_eq_some_iff] at h ⊢
    obtain ⟨r1, h1, h2⟩ := h
    exact ⟨r1, acode_le hR h1, h2⟩
  | .loop x, keep, id, s, r, h => by
    simp only [acode] at h ⊢
    refine rounds_mono (fun s r hb => ?_) hR h
    rw [Option.bind_eq_some_iff] at hb ⊢
    obtain ⟨s0, h1, h2⟩ := hb
    exact ⟨s0, h1, acode_le hR h2⟩
  | .exit i, keep, id, s, r, h => h
  | .ret, keep, id, s, r, h => h
  | .rangeFunc g ps assign body, keep, id, s, r, h => by
    simp only [acode] at h ⊢
    cases hev : ev s.env g with
    | clo gf caps =>
      simp only [hev] at h ⊢
      cases hf : fns gf with
      | none => simp [hf] at h
      | some fn =>
        simp only [hf] at h ⊢
        split at h
        · cases h
        · rename_i hno
          rw [if_neg hno]
          rw [Option.bind_eq_some_iff] at h ⊢
          obtain ⟨x, h1, h2⟩ := h
          refine ⟨x, icode_le T fns hc (fun args h0 y hy => ?_) hR h1, h2⟩
          unfold roundOf at hy ⊢
          split at hy
          · rename_i hl
            rw [if_pos hl]
            cases ha : acode { T, fns, call := c } nt h0.length R gcs assign none { env := bindPs ps.toList args s.env, heap := h0 } with
            | none => simp [ha] at hy
            | some z =>
              obtain ⟨ex, s1⟩ := z
              simp only [ha, acode_le hR ha] at hy ⊢
              cases ex with
              | normal =>
                simp only [Option.map_eq_some_iff] at hy ⊢
                obtain ⟨z, hz1, hz2⟩ := hy
                exact ⟨z, acode_le hR hz1, hz2⟩
              | exit k => cases hy
              | ret => cases hy
          · cases hy
    | _ => simp [hev] at h
  | .scope .., keep, id, s, r, h | .label .., keep, id, s, r, h | .goto .., keep, id, s, r, h | .refuse .., keep, id, s, r, h => by simp [acode] at h
end

theorem acode_mono {cx : Cx} {nt keep R R' : Nat} {gcs : List AGc} (hR : R ≤ R') {c : Code} {id : Option Nat} {s : St} {r : Ex × St} (h : acode cx nt keep R gcs c id s = some r) : acode cx nt keep R' gcs c id s = some r :=
  acode_le cx.T cx.fns (c := cx.call) (fun _ _ _ _ h => h) hR h
end Go.Proofs.Ytfdemnefkfkghaa.R
/- Stepping: what is to be shown of a run, from its beginning to its end. -/
namespace Go.Proofs.Ytfdemnefkfkghaa.R
set_option linter.unusedVariables false
set_option linter.unusedSimpArgs false
open Go

/-- How a function is run: slots, objects that came in, what stays at loops' heads. -/
structure Fr where
  nt : Nat
  keep : Nat
  gcs : List AGc

abbrev Aft := Ex → St → Prop

/-- Code, run from 's' on, ends as 'Q' says. -/
def W (cx : Cx) (fr : Fr) (c : Code) (id : Option Nat) (s : St) (Q : Aft) : Prop := ∃ R ex s', acode cx fr.nt fr.keep R fr.gcs c id s = some (ex, s') ∧ Q ex s'
/-- And then other code. -/
def SQ (cx : Cx) (fr : Fr) (b : Code) (Q : Aft) : Aft := fun ex s => match ex with
  | .normal => W cx fr b none s Q
  | ex => Q ex s
/-- Out of a block. -/
def BQ (i : Nat) (Q : Aft) : Aft := fun ex s => match ex with
  | .exit j => if j = i then Q .normal s else Q (.exit j) s
  | ex => Q ex s
def WC (cx : Cx) (fr : Fr) (v : V) (a b : Code) (s : St) (Q : Aft) : Prop := match v with
  | .bool x => if x = true then W cx fr a none s Q else W cx fr b none s Q
  | _ => False
/-- Operations, in the text's order. -/
def WO (cx : Cx) (nt : Nat) (ops : Array Oper) (rest : List Oper) (s : St) (Q : Aft) : Prop := ∃ s', runOps cx nt ops rest s = some s' ∧ Q .normal s'
/-- One operation's answer. -/
def WA (cx : Cx) (nt : Nat) (ops : Array Oper) (x : Option ((V × Upd) × List Nat)) (d : Option Tmp) (rest : List Oper) (e : Env) (h : Heap) (Q : Aft) : Prop := match x with
  | none => False
  | some ((v, u), _) => match d with
    | none => WO cx nt ops rest ⟨e, h.puts u⟩ Q
    | some d => d < nt ∧ WO cx nt ops rest ⟨(d, v) :: e, h.puts u⟩ Q
def WG (cx : Cx) (nt : Nat) (ops : Array Oper) (w : Option Bool) (o : Oper) (rest : List Oper) (s : St) (Q : Aft) : Prop := match w with
  | none => False
  | some true => WA cx nt ops ((aop cx s.heap.length s.env o).run s.heap []) o.dst rest s.env s.heap Q
  | some false => match o.dst with
    | none => WO cx nt ops rest s Q
    | some d => d < nt ∧ WO cx nt ops rest ⟨(d, .tup []) :: s.env, s.heap⟩ Q
/-- Operations in an order that is drawn. -/
def WD (cx : Cx) (nt : Nat) (ops : Array Oper) (bef : Array Nat) (rest : List Oper) (j : Nat) (s : St) (done : List Did) (Q : Aft) : Prop := ∃ s', runDraw cx nt ops bef rest j s done = some s' ∧ Q .normal s'

section
variable {cx : Cx} {fr : Fr} {nt : Nat} {ops : Array Oper} {a b c : Code} {id : Option Nat} {s : St} {Q : Aft}

theorem W_skip : W cx fr .skip id s Q ↔ Q .normal s := ⟨fun ⟨R, ex, s', h, q⟩ => by cases h; exact q, fun q => ⟨0, _, _, rfl, q⟩⟩
theorem W_exit {i : Nat} : W cx fr (.exit i) id s Q ↔ Q (.exit i) s := ⟨fun ⟨R, ex, s', h, q⟩ => by cases h; exact q, fun q => ⟨0, _, _, rfl, q⟩⟩
theorem W_ret : W cx fr .ret id s Q ↔ Q .ret s := ⟨fun ⟨R, ex, s', h, q⟩ => by cases h; exact q, fun q => ⟨0, _, _, rfl, q⟩⟩

theorem W_seq : W cx fr (.seq a b) id s Q ↔ W cx fr a none s (SQ cx fr b Q) := by
  constructor
  · rintro ⟨R, ex, s', h, q⟩
    simp only [acode, Option.bind_eq_some_iff] at h
    obtain ⟨⟨ex1, s1⟩, h1, h2⟩ := h
    refine ⟨R, ex1, s1, h1, ?_⟩
    cases ex1 with
    | normal => exact ⟨R, ex, s', h2, q⟩
    | exit k => cases h2; exact q
    | ret => cases h2; exact q
  · rintro ⟨R, ex, s', h, q⟩
    cases ex with
    | normal =>
      obtain ⟨R2, ex2, s2, h2, q2⟩ := q
      refine ⟨max R R2, ex2, s2, ?_, q2⟩
      simp only [acode, Option.bind_eq_some_iff]
      exact ⟨_, acode_mono (Nat.le_max_left _ _) h, acode_mono (Nat.le_max_right _ _) h2⟩
    | exit k => exact ⟨R, _, _, by simp only [acode, h]; rfl, q⟩
    | ret => exact ⟨R, _, _, by simp only [acode, h]; rfl, q⟩
theorem SQ_normal : SQ cx fr b Q .normal s ↔ W cx fr b none s Q := Iff.rfl
theorem SQ_exit {i : Nat} : SQ cx fr b Q (.exit i) s ↔ Q (.exit i) s := Iff.rfl
theorem SQ_ret : SQ cx fr b Q .ret s ↔ Q .ret s := Iff.rfl

theorem W_block {i : Nat} : W cx fr (.block i c) id s Q ↔ W cx fr c (some i) s (BQ i Q) := by
  constructor
  · rintro ⟨R, ex, s', h, q⟩
    simp only [acode, Option.map_eq_some_iff] at h
    obtain ⟨⟨ex1, s1⟩, h1, h2⟩ := h
    refine ⟨R, ex1, s1, h1, ?_⟩
    cases ex1 with
    | normal => cases h2; exact q
    | exit k =>
      simp only at h2
      show if k = i then _ else _
      split
      · rename_i e; rw [if_pos e] at h2; cases h2; exact q
      · rename_i e; rw [if_neg e] at h2; cases h2; exact q
    | ret => cases h2; exact q
  · rintro ⟨R, ex, s', h, q⟩
    cases ex with
    | normal => exact ⟨R, _, _, by simp only [acode, h]; rfl, q⟩
    | exit k =>
      by_cases e : k = i
      · have q' : Q .normal s' := by
          have : (if k = i then Q .normal s' else Q (.exit k) s') := q
          rwa [if_pos e] at this
        exact ⟨R, .normal, s', by simp only [acode, h, Option.map_some, if_pos e], q'⟩
      · have q' : Q (.exit k) s' := by
          have : (if k = i then Q .normal s' else Q (.exit k) s') := q
          rwa [if_neg e] at this
        exact ⟨R, .exit k, s', by simp only [acode, h, Option.map_some, if_neg e], q'⟩
    | ret => exact ⟨R, _, _, by simp only [acode, h]; rfl, q⟩
theorem BQ_normal {i : Nat} : BQ i Q .normal s ↔ Q .normal s := Iff.rfl
theorem BQ_exit {i j : Nat} : BQ i Q (.exit j) s ↔ if j = i then Q .normal s else Q (.exit j) s := Iff.rfl
theorem BQ_ret {i : Nat} : BQ i Q .ret s ↔ Q .ret s := Iff.rfl

theorem W_cond {x : Operand} : W cx fr (.cond x a b) id s Q ↔ WC cx fr (ev s.env x) a b s Q := by
  unfold W WC
  simp only [acode]
  generalize ev s.env x = v
  cases v with
  | bool y =>
    cases y with
    | true => rfl
    | false => simp [W]
  | _ => simp
theorem WC_bool {x : Bool} : WC cx fr (.bool x) a b s Q ↔ if x = true then W cx fr a none s Q else W cx fr b none s Q := Iff.rfl

theorem W_region {i : Nat} : W cx fr (.region i ops false) id s Q ↔ WO cx fr.nt ops ops.toList s Q := by
  constructor
  · rintro ⟨R, ex, s', h, q⟩
    simp only [acode, aregion, Bool.false_eq_true, if_false, Option.map_eq_some_iff, Prod.mk.injEq] at h
    obtain ⟨s1, h1, rfl, rfl⟩ := h
    exact ⟨s1, h1, q⟩
  · rintro ⟨s', h, q⟩
    exact ⟨0, _, _, by simp only [acode, aregion, Bool.false_eq_true, if_false, h]; rfl, q⟩
theorem W_draw {i : Nat} : W cx fr (.region i ops true) id s Q ↔ WD cx fr.nt ops (Region.before ops) ops.toList 0 s [] Q := by
  constructor
  · rintro ⟨R, ex, s', h, q⟩
    simp only [acode, aregion, if_true, Option.map_eq_some_iff, Prod.mk.injEq] at h
    obtain ⟨s1, h1, rfl, rfl⟩ := h
    exact ⟨s1, h1, q⟩
  · rintro ⟨s', h, q⟩
    exact ⟨0, _, _, by simp only [acode, aregion, if_true, h]; rfl, q⟩

theorem WO_nil : WO cx nt ops [] s Q ↔ Q .normal s := ⟨fun ⟨s', h, q⟩ => by cases h; exact q, fun q => ⟨s, rfl, q⟩⟩
theorem WO_any {o : Oper} {r : List Oper} : WO cx nt ops (o :: r) s Q ↔ WG cx nt ops (wants ops s.env o) o r s Q := by
  unfold WO WG
  simp only [runOps]
  cases hw : wants ops s.env o with
  | none => simp
  | some w =>
    cases w with
    | false =>
      simp only [putDst]
      cases o.dst with
      | none => rfl
      | some d =>
        simp only
        by_cases hd : d < nt
        · simp [hd, WO]
        · simp [hd]
    | true =>
      simp only [WA]
      cases (aop cx s.heap.length s.env o).run s.heap [] with
      | none => simp
      | some x =>
        obtain ⟨⟨v, u⟩, l⟩ := x
        simp only [putDst]
        cases o.dst with
        | none => rfl
        | some d =>
          simp only
          by_cases hd : d < nt
          · simp [hd, WO]
          · simp [hd]

/-- No guard. -/
theorem WO_cons {d : Option Tmp} {op : Op} {t : TypeId} {p : String} {af : Array Edge} {r : List Oper} {e : Env} {h : Heap} : WO cx nt ops ({ dst := d, op, type := t, pos := p, after := af, guard := none } :: r) ⟨e, h⟩ Q ↔
    WA cx nt ops ((aop cx h.length e { dst := d, op, type := t, pos := p, after := af, guard := none }).run h []) d r e h Q := WO_any
theorem WO_guard {d : Option Tmp} {op : Op} {t : TypeId} {p : String} {af : Array Edge} {j : Nat} {b : Bool} {r : List Oper} {e : Env} {h : Heap} : WO cx nt ops ({ dst := d, op, type := t, pos := p, after := af, guard := some (j, b) } :: r) ⟨e, h⟩ Q ↔
    WG cx nt ops (if skipped ops e j then some false else (yields ops e j).map (· == b)) { dst := d, op, type := t, pos := p, after := af, guard := some (j, b) } r ⟨e, h⟩ Q := WO_any
theorem WG_true {o : Oper} {r : List Oper} {e : Env} {h : Heap} : WG cx nt ops (some true) o r ⟨e, h⟩ Q ↔ WA cx nt ops ((aop cx h.length e o).run h []) o.dst r e h Q := Iff.rfl
theorem WG_false {op : Op} {d t : Nat} {p : String} {af : Array Edge} {g : Option (Nat × Bool)} {r : List Oper} {e : Env} {h : Heap} : WG cx nt ops (some false) { dst := some d, op, type := t, pos := p, after := af, guard := g } r ⟨e, h⟩ Q ↔ d < nt ∧ WO cx nt ops r ⟨(d, .tup []) :: e, h⟩ Q := Iff.rfl
theorem WG_ite {o : Oper} {r : List Oper} {p : Prop} [Decidable p] {x : Bool} : WG cx nt ops (some (decide p == x)) o r s Q ↔ if (decide p == x) = true then WG cx nt ops (some true) o r s Q else WG cx nt ops (some false) o r s Q := by
  cases h : (decide p == x) <;> simp
theorem WA_some {v : V} {u : Upd} {l : List Nat} {d : Nat} {r : List Oper} {e : Env} {h : Heap} : WA cx nt ops (some ((v, u), l)) (some d) r e h Q ↔ d < nt ∧ WO cx nt ops r ⟨(d, v) :: e, h.puts u⟩ Q := Iff.rfl
theorem WA_none {v : V} {u : Upd} {l : List Nat} {r : List Oper} {e : Env} {h : Heap} : WA cx nt ops (some ((v, u), l)) none r e h Q ↔ WO cx nt ops r ⟨e, h.puts u⟩ Q := Iff.rfl
theorem WO_move {d : Nat} {x : Operand} {t : TypeId} {p : String} {af : Array Edge} {r : List Oper} {e : Env} {h : Heap} : WO cx nt ops ({ dst := some d, op := .move x, type := t, pos := p, after := af, guard := none } :: r) ⟨e, h⟩ Q ↔ d < nt ∧ WO cx nt ops r ⟨(d, ev e x) :: e, h⟩ Q := WO_any
theorem WO_assign {d : Nat} {x : Operand} {t : TypeId} {p : String} {af : Array Edge} {r : List Oper} {e : Env} {h : Heap} : WO cx nt ops ({ dst := some d, op := .assign x, type := t, pos := p, after := af, guard := none } :: r) ⟨e, h⟩ Q ↔ d < nt ∧ WO cx nt ops r ⟨(d, ev e x) :: e, h⟩ Q := WO_any

/-- What was done so far, none of which turned an object. -/
structure QD where
  l : List Did
  q : ∀ c ∈ l, c.upd = []
def QD.nil : QD := ⟨[], by simp⟩
def QD.snoc (d : QD) (w : Bool) (v : V) (r : List Nat) : QD := ⟨d.l ++ [⟨w, v, [], r⟩], fun c hc => by
  rcases List.mem_append.1 hc with h | h
  · exact d.q c h
  · simp at h; subst h; rfl⟩
def WQ (cx : Cx) (nt : Nat) (ops : Array Oper) (bef : Array Nat) (rest : List Oper) (j : Nat) (s : St) (q : QD) (Q : Aft) : Prop := WD cx nt ops bef rest j s q.l Q
/-- One operation's answer, in an order that is drawn. -/
def QA (cx : Cx) (nt : Nat) (ops : Array Oper) (bef : Array Nat) (x : Option ((V × Upd) × List Nat)) (d : Option Tmp) (rest : List Oper) (j : Nat) (e : Env) (h : Heap) (q : QD) (Q : Aft) : Prop := match x with
  | none => False
  | some ((v, []), l) => (match d with
    | none => WQ cx nt ops bef rest (j + 1) ⟨e, Heap.pad (h.length + 1) h⟩ (q.snoc true v l) Q
    | some d => d < nt ∧ WQ cx nt ops bef rest (j + 1) ⟨(d, v) :: e, Heap.pad (h.length + 1) h⟩ (q.snoc true v l) Q)
  | some ((v, u), l) => apart bef q.l j ⟨true, v, u, l⟩ = true ∧ (match d with
    | none => WD cx nt ops bef rest (j + 1) ⟨e, Heap.pad (h.length + 1) (h.puts u)⟩ (q.l ++ [⟨true, v, u, l⟩]) Q
    | some d => d < nt ∧ WD cx nt ops bef rest (j + 1) ⟨(d, v) :: e, Heap.pad (h.length + 1) (h.puts u)⟩ (q.l ++ [⟨true, v, u, l⟩]) Q)
def QG (cx : Cx) (nt : Nat) (ops : Array Oper) (bef : Array Nat) (w : Option Bool) (o : Oper) (rest : List Oper) (j : Nat) (s : St) (q : QD) (Q : Aft) : Prop := match w with
  | none => False
  | some true => QA cx nt ops bef ((aop cx s.heap.length s.env o).run s.heap []) o.dst rest j s.env s.heap q Q
  | some false => match o.dst with
    | none => WQ cx nt ops bef rest (j + 1) s (q.snoc false (.tup []) []) Q
    | some d => d < nt ∧ WQ cx nt ops bef rest (j + 1) ⟨(d, .tup []) :: s.env, s.heap⟩ (q.snoc false (.tup []) []) Q

theorem W_draw_q {i : Nat} : W cx fr (.region i ops true) id s Q ↔ WQ cx fr.nt ops (Region.before ops) ops.toList 0 s QD.nil Q := W_draw
theorem WQ_nil {bef : Array Nat} {j : Nat} {q : QD} : WQ cx nt ops bef [] j s q Q ↔ Q .normal s := ⟨fun ⟨s', h, q⟩ => by cases h; exact q, fun q => ⟨s, rfl, q⟩⟩
theorem apart_quiet (bef : Array Nat) (q : QD) (j : Nat) (v : V) (l : List Nat) : apart bef q.l j ⟨true, v, [], l⟩ = true := by
  unfold apart
  rw [List.all_eq_true]
  rintro ⟨c, i⟩ hm
  have hc : c ∈ q.l := by
    obtain ⟨k, hk⟩ := List.mem_iff_getElem?.1 hm
    rw [List.getElem?_zipIdx, Option.map_eq_some_iff] at hk
    obtain ⟨c', h1, h2⟩ := hk
    cases h2
    exact List.mem_of_getElem? h1
  simp [clash, Did.touches, q.q c hc]
theorem WQ_any {bef : Array Nat} {o : Oper} {r : List Oper} {j : Nat} {q : QD} : WQ cx nt ops bef (o :: r) j s q Q ↔ QG cx nt ops bef (wants ops s.env o) o r j s q Q := by
  unfold WQ WD QG
  simp only [runDraw]
  cases hw : wants ops s.env o with
  | none => simp
  | some w =>
    cases w with
    | false =>
      simp only [putDst]
      cases o.dst with
      | none => rfl
      | some d =>
        simp only
        by_cases hd : d < nt
        · simp [hd, WQ, WD, QD.snoc]
        · simp [hd]
    | true =>
      simp only [QA]
      cases (aop cx s.heap.length s.env o).run s.heap [] with
      | none => simp
      | some x =>
        obtain ⟨⟨v, u⟩, l⟩ := x
        cases u with
        | nil =>
          simp only [apart_quiet, if_true, putDst, Heap.puts]
          cases o.dst with
          | none => rfl
          | some d =>
            simp only
            by_cases hd : d < nt
            · simp [hd, WQ, WD, QD.snoc]
            · simp [hd]
        | cons p u =>
          simp only
          by_cases ha : apart bef q.l j ⟨true, v, p :: u, l⟩ = true
          · rw [if_pos ha]
            simp only [ha, true_and, putDst]
            cases o.dst with
            | none => rfl
            | some d =>
              simp only
              by_cases hd : d < nt
              · simp [hd, WD]
              · simp [hd]
          · rw [if_neg ha]
            simp [ha]
theorem WQ_cons {bef : Array Nat} {d : Option Tmp} {op : Op} {t : TypeId} {p : String} {af : Array Edge} {r : List Oper} {j : Nat} {e : Env} {h : Heap} {q : QD} : WQ cx nt ops bef ({ dst := d, op, type := t, pos := p, after := af, guard := none } :: r) j ⟨e, h⟩ q Q ↔
    QA cx nt ops bef ((aop cx h.length e { dst := d, op, type := t, pos := p, after := af, guard := none }).run h []) d r j e h q Q := WQ_any
theorem WQ_guard {bef : Array Nat} {d : Option Tmp} {op : Op} {t : TypeId} {p : String} {af : Array Edge} {i : Nat} {b : Bool} {r : List Oper} {j : Nat} {e : Env} {h : Heap} {q : QD} : WQ cx nt ops bef ({ dst := d, op, type := t, pos := p, after := af, guard := some (i, b) } :: r) j ⟨e, h⟩ q Q ↔
    QG cx nt ops bef (if skipped ops e i then some false else (yields ops e i).map (· == b)) { dst := d, op, type := t, pos := p, after := af, guard := some (i, b) } r j ⟨e, h⟩ q Q := WQ_any
theorem QG_true {bef : Array Nat} {o : Oper} {r : List Oper} {j : Nat} {e : Env} {h : Heap} {q : QD} : QG cx nt ops bef (some true) o r j ⟨e, h⟩ q Q ↔ QA cx nt ops bef ((aop cx h.length e o).run h []) o.dst r j e h q Q := Iff.rfl
theorem QG_false {bef : Array Nat} {op : Op} {d t : Nat} {p : String} {af : Array Edge} {g : Option (Nat × Bool)} {r : List Oper} {j : Nat} {e : Env} {h : Heap} {q : QD} : QG cx nt ops bef (some false) { dst := some d, op, type := t, pos := p, after := af, guard := g } r j ⟨e, h⟩ q Q ↔
    d < nt ∧ WQ cx nt ops bef r (j + 1) ⟨(d, .tup []) :: e, h⟩ (q.snoc false (.tup []) []) Q := Iff.rfl
theorem QA_quiet {bef : Array Nat} {v : V} {l : List Nat} {d : Nat} {r : List Oper} {j : Nat} {e : Env} {h : Heap} {q : QD} : QA cx nt ops bef (some ((v, []), l)) (some d) r j e h q Q ↔ d < nt ∧ WQ cx nt ops bef r (j + 1) ⟨(d, v) :: e, Heap.pad (h.length + 1) h⟩ (q.snoc true v l) Q := Iff.rfl

/-- A loop: what stands at its head, and that each round leads on or out. -/
def LP (fr : Fr) (id : Option Nat) {ι : Type} (S : ι → St) (m : ι → Nat) (I : ι → Prop) (Q : Aft) (n : Nat) : Aft := fun ex s => match ex with
  | .normal => ∃ y, I y ∧ m y < n ∧ head fr.keep (gcOf fr.gcs id) s = some (S y)
  | ex => Q ex s
theorem LP_exit {ι : Type} {S : ι → St} {m : ι → Nat} {I : ι → Prop} {n i : Nat} : LP fr id S m I Q n (.exit i) s ↔ Q (.exit i) s := Iff.rfl
theorem LP_ret {ι : Type} {S : ι → St} {m : ι → Nat} {I : ι → Prop} {n : Nat} : LP fr id S m I Q n .ret s ↔ Q .ret s := Iff.rfl

theorem loop_rule {ι : Type} (S : ι → St) (m : ι → Nat) (I : ι → Prop) (step : ∀ x, I x → W cx fr c none (S x) (LP fr id S m I Q (m x))) : ∀ (x : ι) (s : St), I x → head fr.keep (gcOf fr.gcs id) s = some (S x) → W cx fr (.loop c) id s Q := by
  have key : ∀ (n : Nat) (x : ι) (s : St), m x < n → I x → head fr.keep (gcOf fr.gcs id) s = some (S x) → W cx fr (.loop c) id s Q := by
    intro n
    induction n with
    | zero => intro x s h; omega
    | succ n ih =>
      intro x s hm hI hs
      obtain ⟨R, ex, s', h, q⟩ := step x hI
      cases ex with
      | normal =>
        obtain ⟨y, hy, hlt, hh⟩ := q
        obtain ⟨R2, ex2, s2, h2, q2⟩ := ih y s' (by omega) hy hh
        refine ⟨max R R2 + 1, ex2, s2, ?_, q2⟩
        simp only [acode] at h2 ⊢
        unfold rounds
        rw [hs]
        simp only [Option.bind_some, acode_mono (show R ≤ max R R2 + 1 by omega) h]
        refine rounds_mono (fun s r hb => ?_) (show R2 ≤ max R R2 by omega) h2
        rw [Option.bind_eq_some_iff] at hb ⊢
        obtain ⟨s0, h3, h4⟩ := hb
        exact ⟨s0, h3, acode_mono (by omega) h4⟩
      | exit i =>
        refine ⟨R + 1, _, _, ?_, q⟩
        simp only [acode]
        unfold rounds
        rw [hs]
        simp only [Option.bind_some, acode_mono (show R ≤ R + 1 by omega) h]
      | ret =>
        refine ⟨R + 1, _, _, ?_, q⟩
        simp only [acode]
        unfold rounds
        rw [hs]
        simp only [Option.bind_some, acode_mono (show R ≤ R + 1 by omega) h]
  exact fun x s hI hs => key _ x s (Nat.lt_succ_self _) hI hs

theorem W_mono {Q' : Aft} (h : ∀ ex s, Q ex s → Q' ex s) : W cx fr c id s Q → W cx fr c id s Q' := fun ⟨R, ex, s', h1, q⟩ => ⟨R, ex, s', h1, h _ _ q⟩
end

/-- A function's end. -/
def FQ (T : TT) (res : List ResultVar) (rfz : Bool) (keep : Nat) (r : V × Heap) : Aft := fun ex s => match ex with
  | .normal | .ret => ((resAll T s res).bind fun vs => finish keep rfz (oneOf vs) s.heap) = some r
  | _ => False

theorem fn_rule {T : TT} {fns : FuncId → Option AFn} {g : FuncId} {fn : AFn} (hfn : fns g = some fn) (hi : fn.intr = none) {args : List V} {hs : List Ob} {r : V × Heap} (hl : args.length ≤ fn.ntmps)
    (h : W (LX T fns) ⟨fn.ntmps, hs.length, fn.gcs⟩ fn.body none ⟨argEnv 0 args, hs.map some⟩ (FQ T fn.res fn.rfz hs.length r)) : lim T fns g args hs = some r := by
  obtain ⟨R, ex, s', h1, q⟩ := h
  refine lim_run T fns hfn hi (R0 := R) ?_
  unfold runFn
  rw [if_neg (by omega), Option.bind_eq_some_iff]
  refine ⟨_, h1, ?_⟩
  cases ex with
  | normal => exact q
  | ret => exact q
  | exit i => exact q.elim

mutual
/-- A value that leads to no object, and isn't frozen into another one. -/
def V.plain : V → Bool
  | .undef | .bool _ | .int .. | .str _ | .fz _ | .nilp | .el .. | .nilm | .nilf | .nili => true
  | .clo _ cs => V.allPlain cs
  | .agg cs => V.allPlain cs
  | .tup vs => V.allPlain vs
  | .ifc _ v => V.plain v
  | _ => false
def V.allPlain : List V → Bool
  | [] => true
  | v :: r => V.plain v && V.allPlain r
end

mutual
theorem plain_re (f : Nat → Option Nat) : ∀ v : V, v.plain = true → V.re f v = some v
  | .clo g cs, h => by simp only [V.plain] at h; simp [V.re, plainAll_re f cs h]
  | .agg cs, h => by simp only [V.plain] at h; simp [V.re, plainAll_re f cs h]
  | .tup cs, h => by simp only [V.plain] at h; simp [V.re, plainAll_re f cs h]
  | .ifc t v, h => by simp only [V.plain] at h; simp [V.re, plain_re f v h]
  | .undef, _ | .bool _, _ | .int _ _, _ | .str _, _ | .fz _, _ | .nilp, _ | .el _ _, _ | .nilm, _ | .nilf, _ | .nili, _ => rfl
theorem plainAll_re (f : Nat → Option Nat) : ∀ l : List V, V.allPlain l = true → V.reAll f l = some l
  | [], _ => rfl
  | v :: r, h => by
    simp only [V.allPlain, Bool.and_eq_true] at h
    simp [V.reAll, plain_re f v h.1, plainAll_re f r h.2]
end

mutual
theorem plain_ids : ∀ v : V, v.plain = true → V.ids v = []
  | .clo g cs, h => by simp only [V.plain] at h; simp [V.ids, plainAll_ids cs h]
  | .agg cs, h => by simp only [V.plain] at h; simp [V.ids, plainAll_ids cs h]
  | .tup cs, h => by simp only [V.plain] at h; simp [V.ids, plainAll_ids cs h]
  | .ifc t v, h => by simp only [V.plain] at h; simp [V.ids, plain_ids v h]
  | .undef, _ | .bool _, _ | .int _ _, _ | .str _, _ | .fz _, _ | .nilp, _ | .el _ _, _ | .nilm, _ | .nilf, _ | .nili, _ => rfl
theorem plainAll_ids : ∀ l : List V, V.allPlain l = true → V.allIds l = []
  | [], _ => rfl
  | v :: r, h => by
    simp only [V.allPlain, Bool.and_eq_true] at h
    simp [V.allIds, plain_ids v h.1, plainAll_ids r h.2]
end

section
variable {α : Type} {ms : Nat → Nat → Nat → Nat → (V → Upd → Rd α) → Rd α}
mutual
theorem plain_frzG (k : V → Upd → Rd α) : ∀ v : V, v.plain = true → frzG ms v k = k v []
  | .agg cs, h => by simp only [V.plain] at h; simp only [frzG]; rw [plainAll_frzG (fun cs u => k (.agg cs) u) cs h]
  | .tup cs, h => by simp only [V.plain] at h; simp only [frzG]; rw [plainAll_frzG (fun cs u => k (.tup cs) u) cs h]
  | .clo g cs, h => by simp only [frzG]
  | .ifc t v, h => by simp only [frzG]
  | .undef, _ | .bool _, _ | .int _ _, _ | .str _, _ | .fz _, _ | .nilp, _ | .el _ _, _ | .nilm, _ | .nilf, _ | .nili, _ => by simp only [frzG]
theorem plainAll_frzG (k : List V → Upd → Rd α) : ∀ l : List V, V.allPlain l = true → frzGAll ms l k = k l []
  | [], _ => by simp only [frzGAll]
  | v :: r, h => by
    simp only [V.allPlain, Bool.and_eq_true] at h
    simp only [frzGAll]
    rw [plain_frzG _ v h.1, plainAll_frzG _ r h.2]
    rfl
end
end
theorem plain_frz {α : Type} (k : V → Upd → Rd α) (v : V) (h : v.plain = true) : frz v k = k v [] := plain_frzG k v h
theorem plainAll_frz {α : Type} (k : List V → Upd → Rd α) (l : List V) (h : V.allPlain l = true) : frzAll l k = k l [] := plainAll_frzG k l h
theorem plainArgs_frz {α : Type} : ∀ (l : List V) (m : List Bool) (k : List V → Upd → Rd α), V.allPlain l = true → frzArgs l m k = k l []
  | [], m, k, _ => by simp only [frzArgs]
  | v :: r, m, k, h => by
    simp only [V.allPlain, Bool.and_eq_true] at h
    cases m with
    | nil => simp only [frzArgs]; exact plainArgs_frz r _ _ h.2
    | cons b m =>
      cases b with
      | false => simp only [frzArgs]; exact plainArgs_frz r _ _ h.2
      | true =>
        simp only [frzArgs]
        rw [plain_frz _ v h.1, plainArgs_frz r _ _ h.2]
        rfl

theorem allPlain_append : ∀ (a b : List V), V.allPlain (a ++ b) = (V.allPlain a && V.allPlain b)
  | [], b => rfl
  | v :: r, b => by simp [V.allPlain, allPlain_append r b, Bool.and_assoc]

/-- A call with arguments that lead to no object, and such an answer. -/
theorem callV_plain {T : TT} {fns : FuncId → Option AFn} {g : FuncId} {fn : AFn} (hfn : fns g = some fn) {args caps : List V} {r : V} (ha : V.allPlain (args ++ caps) = true) (hr : r.plain = true) (h : lim T fns g (args ++ caps) [] = some (r, [])) (n : Nat) :
    callV (LX T fns) n (.clo g caps) args = .pure (r, []) := by
  unfold callV
  simp only [hfn]
  unfold callR
  rw [plainArgs_frz _ _ _ ha, plainAll_ids _ ha]
  show withR (lim T fns g) n (args ++ caps) [] [] = _
  unfold withR
  simp only [List.map_nil, upd1, List.all_nil, Bool.and_self, if_true, plainAll_re _ _ ha, pullObs, h, List.length_nil, Nat.le_refl]
  unfold afterR
  simp [plain_re _ _ hr, pushObs]

/-! A function's end, where its answer leads to no object. -/
theorem FQ_ret {T : TT} {res : List ResultVar} {rfz : Bool} {keep : Nat} {r : V × Heap} {s : St} : FQ T res rfz keep r .ret s ↔ ((resAll T s res).bind fun vs => finish keep rfz (oneOf vs) s.heap) = some r := Iff.rfl
theorem FQ_normal {T : TT} {res : List ResultVar} {rfz : Bool} {keep : Nat} {r : V × Heap} {s : St} : FQ T res rfz keep r .normal s ↔ ((resAll T s res).bind fun vs => finish keep rfz (oneOf vs) s.heap) = some r := Iff.rfl

/-- What is left of an answer that is frozen. -/
def FZ (x : Option ((V × Upd) × List Nat)) : Option (V × Heap) := match x with
  | some ((v, _), _) => if v.plain = true then some (v, []) else none
  | none => none
theorem finish_plain {v : V} {h : Heap} {rfz : Bool} (hp : v.plain = true) : finish 0 rfz v h = some (v, []) := by
  have key : ∀ h : Heap, (let l := reach 0 h 4096 (upto 0 (V.ids v)) []
      if begins 0 0 l then (V.re (idx l) v).bind fun v => (pull h (idx l) l).map fun h => (v, h) else none) = some (v, []) := by
    intro h
    rw [plain_ids v hp]
    show (V.re (idx []) v).bind (fun v => (pull h (idx []) []).map fun h => (v, h)) = _
    rw [plain_re _ v hp]
    rfl
  unfold finish
  cases rfz with
  | false => exact key h
  | true =>
    simp only [if_true]
    rw [plain_frz _ v hp]
    exact key _
theorem finish_true {v : V} {h : Heap} {v' : V} {u : Upd} {l : List Nat} (hf : (frz v fun v u => Rd.pure (v, u)).run h [] = some ((v', u), l)) (hp : v'.plain = true) : finish 0 true v h = some (v', []) := by
  have := finish_plain (h := h.puts u) (rfz := false) hp
  unfold finish at this ⊢
  simp only [if_true, hf, Option.map_some, Option.bind_some]
  simpa using this
theorem finish_fz {v : V} {h : Heap} {r : V × Heap} (hf : FZ ((frz v fun v u => Rd.pure (v, u)).run h []) = some r) : finish 0 true v h = some r := by
  unfold FZ at hf
  split at hf
  · rename_i v' u l hx
    split at hf
    · rename_i hp
      rw [finish_true hx hp]
      exact hf
    · cases hf
  · cases hf

theorem natOf_cast (k : IntKind) (n : Nat) : natOf (.int k (n : Int)) = some n := by simp [natOf]
theorem wrap_i64 {n : Int} (h0 : -9223372036854775808 ≤ n) (h1 : n < 9223372036854775808) : IntKind.i64.wrap n = n := by
  simp [IntKind.wrap, IntKind.signed, IntKind.bits]
  omega
theorem wrap_i64s {n : Nat} (h : n < 1000000000000000000) : IntKind.i64.wrap ((n : Int) + 1) = ((n + 1 : Nat) : Int) := by
  rw [wrap_i64 (by omega) (by omega)]
  omega
theorem pl_int (k : IntKind) (n : Int) : V.plain (.int k n) = true := id rfl
theorem pl_bool (b : Bool) : V.plain (.bool b) = true := id rfl
theorem pl_str (s : ByteArray) : V.plain (.str s) = true := id rfl
theorem pl_fz (rows : List (List V)) : V.plain (.fz rows) = true := id rfl
theorem pl_agg (cs : List V) : V.plain (.agg cs) = V.allPlain cs := id rfl
theorem pl_tup (cs : List V) : V.plain (.tup cs) = V.allPlain cs := id rfl
theorem pl_clo (g : FuncId) (cs : List V) : V.plain (.clo g cs) = V.allPlain cs := id rfl
theorem pl_undef : V.plain .undef = true := id rfl
theorem pl_nil : V.allPlain [] = true := id rfl
theorem pl_cons (v : V) (r : List V) : V.allPlain (v :: r) = (V.plain v && V.allPlain r) := id rfl

theorem ba_beq (a b : ByteArray) : (a == b) = decide (a = b) := by
  obtain ⟨a⟩ := a
  obtain ⟨b⟩ := b
  show (a == b) = _
  by_cases h : a = b
  · subst h; simp
  · have : (a == b) = false := by simpa using h
    rw [this]
    simp [h]
theorem ba_toList (a b : ByteArray) : (a.toList == b.toList) = decide (a = b) := by
  rw [ByteArray.toList_eq, ByteArray.toList_eq]
  obtain ⟨a⟩ := a
  obtain ⟨b⟩ := b
  by_cases h : a = b
  · subst h; simp
  · have : ¬ a.toList = b.toList := fun e => h (Array.toList_inj.1 e)
    simp [h, this]

/-- Lists that are as long, and the same so far. -/
theorem take_eq_len {α : Type} {a b : List α} (hl : a.length = b.length) {i : Nat} (h : a.take i = b.take i) (hi : a.length ≤ i) : a = b := by
  rwa [List.take_of_length_le hi, List.take_of_length_le (by omega)] at h
theorem take_eq_step {α : Type} {a b : List α} {i : Nat} (h : a.take i = b.take i) (ha : i < a.length) (hb : i < b.length) (he : a[i] = b[i]) : a.take (i + 1) = b.take (i + 1) := by
  rw [List.take_succ_eq_append_getElem ha, List.take_succ_eq_append_getElem hb, h, he]
end Go.Proofs.Ytfdemnefkfkghaa.R
/- Stepping through an order that is drawn, where objects are turned: what was done so far is kept as the objects that were turned, and looked at. -/
namespace Go.Proofs.Ytfdemnefkfkghaa.R
set_option linter.unusedVariables false
set_option linter.unusedSimpArgs false
open Go

def hasN (x : Nat) : List Nat → Bool
  | [] => false
  | y :: r => Nat.beq x y || hasN x r
def hits : List Nat → List Nat → Bool
  | [], _ => false
  | x :: r, b => hasN x b || hits r b
def bitN (bef : Array Nat) (j i : Nat) : Bool := (bef.getD j 0).testBit i
abbrev Book := List (List Nat × List Nat)
/-- Operation j, which turns and looks at so much, clashes with those alone that are told to be ahead of it. -/
def apB (bef : Array Nat) (j : Nat) (ids rds : List Nat) : Nat → Book → Bool
  | _, [] => true
  | i, (a, b) :: r => (!(hits a rds || hits a ids || hits ids b) || bitN bef j i) && apB bef j ids rds (i + 1) r

def ids1 : Upd → List Nat
  | [] => []
  | p :: u => p.1 :: ids1 u
def sigD (d : Did) : List Nat × List Nat := (ids1 d.upd, d.reads)
def ofB (p : List Nat × List Nat) : Did := ⟨true, .undef, p.1.map fun i => (i, none), p.2⟩

theorem nbeq (x y : Nat) : Nat.beq x y = decide (x = y) := by
  rw [Bool.eq_iff_iff, decide_eq_true_eq, Nat.beq_eq]
theorem hasN_iff {x : Nat} : ∀ {l : List Nat}, hasN x l = l.contains x
  | [] => rfl
  | y :: r => by
    simp only [hasN, List.contains_cons, hasN_iff, nbeq]
    rfl
theorem hits_any {b : List Nat} : ∀ {u : Upd}, hits (ids1 u) b = u.any fun p => b.contains p.1
  | [] => rfl
  | p :: u => by simp only [ids1, hits, List.any_cons, hasN_iff, hits_any]
theorem ids_has {x : Nat} : ∀ {u : Upd}, hasN x (ids1 u) = u.any fun q => q.1 == x
  | [] => rfl
  | p :: u => by
    have h : Nat.beq x p.1 = (p.1 == x) := by
      rw [nbeq, Bool.eq_iff_iff, decide_eq_true_eq, beq_iff_eq]
      exact ⟨fun h => h.symm, fun h => h.symm⟩
    simp only [ids1, hasN, List.any_cons, ids_has, h]
theorem hits_upd {v : Upd} : ∀ {u : Upd}, hits (ids1 u) (ids1 v) = u.any fun p => v.any fun q => q.1 == p.1
  | [] => rfl
  | p :: u => by simp only [ids1, hits, List.any_cons, ids_has, hits_upd]
theorem any_or {α : Type} {f g : α → Bool} : ∀ {l : List α}, (l.any fun x => f x || g x) = (l.any f || l.any g)
  | [] => rfl
  | x :: l => by
    have ih := any_or (f := f) (g := g) (l := l)
    simp only [List.any_cons, ih]
    cases f x <;> cases g x <;> cases l.any f <;> cases l.any g <;> rfl
theorem touches_hits (a b : Did) : a.touches b = (hits (ids1 a.upd) b.reads || hits (ids1 a.upd) (ids1 b.upd)) := by
  unfold Did.touches
  rw [any_or, hits_any, hits_upd]
theorem hits_comm {u v : Upd} : hits (ids1 u) (ids1 v) = hits (ids1 v) (ids1 u) := by
  rw [hits_upd, hits_upd, Bool.eq_iff_iff]
  simp only [List.any_eq_true, beq_iff_eq]
  constructor
  · rintro ⟨p, hp, q, hq, e⟩
    exact ⟨q, hq, p, hp, e.symm⟩
  · rintro ⟨p, hp, q, hq, e⟩
    exact ⟨q, hq, p, hp, e.symm⟩
theorem clash_sig (a b : Did) : clash a b = (hits (sigD a).1 (sigD b).2 || hits (sigD a).1 (sigD b).1 || hits (sigD b).1 (sigD a).2) := by
  unfold clash sigD
  rw [touches_hits, touches_hits]
  rw [hits_comm (u := b.upd) (v := a.upd)]
  cases hits (ids1 a.upd) b.reads <;> cases hits (ids1 a.upd) (ids1 b.upd) <;> cases hits (ids1 b.upd) a.reads <;> rfl
theorem apart_sig (bef : Array Nat) (j : Nat) (d : Did) : ∀ (done : List Did) (i : Nat), ((done.zipIdx i).all fun (c, i) => !clash c d || (bef.getD j 0).testBit i) = apB bef j (sigD d).1 (sigD d).2 i (done.map sigD)
  | [], i => rfl
  | c :: r, i => by
    simp only [List.zipIdx_cons, List.all_cons, List.map_cons, apB, ← apart_sig bef j d r (i + 1), clash_sig]
    rfl
theorem apart_eq (bef : Array Nat) (done : List Did) (j : Nat) (d : Did) : apart bef done j d = apB bef j (sigD d).1 (sigD d).2 0 (done.map sigD) := apart_sig bef j d done 0
theorem sig_of (p : List Nat × List Nat) : sigD (ofB p) = p := by
  obtain ⟨a, b⟩ := p
  unfold sigD ofB
  have : ∀ a : List Nat, ids1 (a.map fun i => (i, (none : Option Ob))) = a := by
    intro a
    induction a with
    | nil => rfl
    | cons x r ih => simp only [List.map_cons, ids1, ih]
  simp only [this]

variable {cx : Cx} {nt : Nat} {ops : Array Oper} {bef : Array Nat} {Q : Aft}
theorem draw_sig : ∀ {rest : List Oper} {j : Nat} {s : St} {done done' : List Did}, done.map sigD = done'.map sigD → runDraw cx nt ops bef rest j s done = runDraw cx nt ops bef rest j s done'
  | [], j, s, done, done', h => rfl
  | o :: r, j, s, done, done', h => by
    simp only [runDraw]
    cases wants ops s.env o with
    | none => rfl
    | some w =>
      cases w with
      | false =>
        simp only
        cases putDst nt s.env o.dst (.tup []) with
        | none => rfl
        | some e => exact draw_sig (by simp [h])
      | true =>
        simp only
        cases (aop cx s.heap.length s.env o).run s.heap [] with
        | none => rfl
        | some x =>
          obtain ⟨⟨v, u⟩, l⟩ := x
          simp only [apart_eq, h]
          split
          · cases putDst nt s.env o.dst v with
            | none => rfl
            | some e => exact draw_sig (by simp [h])
          · rfl

/-- With what was done so far as a book. -/
def WB (cx : Cx) (nt : Nat) (ops : Array Oper) (bef : Array Nat) (rest : List Oper) (j : Nat) (s : St) (b : Book) (Q : Aft) : Prop := WD cx nt ops bef rest j s (b.map ofB) Q
theorem WD_book {rest : List Oper} {j : Nat} {s : St} {done : List Did} {b : Book} (h : done.map sigD = b) : WD cx nt ops bef rest j s done Q ↔ WB cx nt ops bef rest j s b Q := by
  unfold WB WD
  rw [draw_sig (done' := b.map ofB)]
  subst h
  rw [List.map_map, List.map_map]
  exact List.map_congr_left fun d _ => (sig_of _).symm
/-- One operation's answer. -/
def BA (cx : Cx) (nt : Nat) (ops : Array Oper) (bef : Array Nat) (x : Option ((V × Upd) × List Nat)) (d : Option Tmp) (rest : List Oper) (j : Nat) (e : Env) (h : Heap) (b : Book) (Q : Aft) : Prop := match x with
  | none => False
  | some ((v, u), l) => apB bef j (ids1 u) l 0 b = true ∧ (match d with
    | none => WB cx nt ops bef rest (j + 1) ⟨e, Heap.pad (h.length + 1) (h.puts u)⟩ (b ++ [(ids1 u, l)]) Q
    | some d => d < nt ∧ WB cx nt ops bef rest (j + 1) ⟨(d, v) :: e, Heap.pad (h.length + 1) (h.puts u)⟩ (b ++ [(ids1 u, l)]) Q)
def BG (cx : Cx) (nt : Nat) (ops : Array Oper) (bef : Array Nat) (w : Option Bool) (o : Oper) (rest : List Oper) (j : Nat) (s : St) (b : Book) (Q : Aft) : Prop := match w with
  | none => False
  | some true => BA cx nt ops bef ((aop cx s.heap.length s.env o).run s.heap []) o.dst rest j s.env s.heap b Q
  | some false => match o.dst with
    | none => WB cx nt ops bef rest (j + 1) s (b ++ [([], [])]) Q
    | some d => d < nt ∧ WB cx nt ops bef rest (j + 1) ⟨(d, .tup []) :: s.env, s.heap⟩ (b ++ [([], [])]) Q
theorem book_map (b : Book) : (b.map ofB).map sigD = b := by
  rw [List.map_map]
  exact (List.map_congr_left fun p _ => sig_of p).trans (List.map_id b)
theorem WB_any {o : Oper} {r : List Oper} {j : Nat} {s : St} {b : Book} : WB cx nt ops bef (o :: r) j s b Q ↔ BG cx nt ops bef (wants ops s.env o) o r j s b Q := by
  unfold WB WD BG
  simp only [runDraw]
  cases hw : wants ops s.env o with
  | none => simp
  | some w =>
    cases w with
    | false =>
      simp only [putDst]
      cases o.dst with
      | none =>
        simp only [Option.bind_some]
        exact WD_book (by simp only [List.map_append, book_map]; rfl)
      | some d =>
        simp only
        by_cases hd : d < nt
        · simp only [hd, if_true, Option.bind_some, true_and]
          exact WD_book (by simp only [List.map_append, book_map]; rfl)
        · simp [hd]
    | true =>
      simp only [BA]
      cases (aop cx s.heap.length s.env o).run s.heap [] with
      | none => simp
      | some x =>
        obtain ⟨⟨v, u⟩, l⟩ := x
        simp only [apart_eq, book_map]
        have hs : sigD (⟨true, v, u, l⟩ : Did) = (ids1 u, l) := rfl
        simp only [hs]
        by_cases ha : apB bef j (ids1 u) l 0 b = true
        · rw [if_pos ha]
          simp only [ha, true_and, putDst]
          cases o.dst with
          | none =>
            simp only [Option.bind_some]
            exact WD_book (by simp only [List.map_append, book_map]; rfl)
          | some d =>
            simp only
            by_cases hd : d < nt
            · simp only [hd, if_true, Option.bind_some, true_and]
              exact WD_book (by simp only [List.map_append, book_map]; rfl)
            · simp [hd]
        · rw [if_neg ha]
          simp [ha]
theorem WB_cons {d : Option Tmp} {op : Op} {t : TypeId} {p : String} {af : Array Edge} {r : List Oper} {j : Nat} {e : Env} {h : Heap} {b : Book} : WB cx nt ops bef ({ dst := d, op, type := t, pos := p, after := af, guard := none } :: r) j ⟨e, h⟩ b Q ↔
    BA cx nt ops bef ((aop cx h.length e { dst := d, op, type := t, pos := p, after := af, guard := none }).run h []) d r j e h b Q := WB_any
theorem WB_guard {d : Option Tmp} {op : Op} {t : TypeId} {p : String} {af : Array Edge} {i : Nat} {w : Bool} {r : List Oper} {j : Nat} {e : Env} {h : Heap} {b : Book} : WB cx nt ops bef ({ dst := d, op, type := t, pos := p, after := af, guard := some (i, w) } :: r) j ⟨e, h⟩ b Q ↔
    BG cx nt ops bef (if skipped ops e i then some false else (yields ops e i).map (· == w)) { dst := d, op, type := t, pos := p, after := af, guard := some (i, w) } r j ⟨e, h⟩ b Q := WB_any
theorem WB_nil {j : Nat} {s : St} {b : Book} : WB cx nt ops bef [] j s b Q ↔ Q .normal s := ⟨fun ⟨s', h, q⟩ => by cases h; exact q, fun q => ⟨s, rfl, q⟩⟩
theorem BG_true {o : Oper} {r : List Oper} {j : Nat} {e : Env} {h : Heap} {b : Book} : BG cx nt ops bef (some true) o r j ⟨e, h⟩ b Q ↔ BA cx nt ops bef ((aop cx h.length e o).run h []) o.dst r j e h b Q := Iff.rfl
theorem BG_false {op : Op} {d t : Nat} {p : String} {af : Array Edge} {g : Option (Nat × Bool)} {r : List Oper} {j : Nat} {e : Env} {h : Heap} {b : Book} : BG cx nt ops bef (some false) { dst := some d, op, type := t, pos := p, after := af, guard := g } r j ⟨e, h⟩ b Q ↔
    d < nt ∧ WB cx nt ops bef r (j + 1) ⟨(d, .tup []) :: e, h⟩ (b ++ [([], [])]) Q := Iff.rfl
theorem BG_false_none {op : Op} {t : Nat} {p : String} {af : Array Edge} {g : Option (Nat × Bool)} {r : List Oper} {j : Nat} {e : Env} {h : Heap} {b : Book} : BG cx nt ops bef (some false) { dst := none, op, type := t, pos := p, after := af, guard := g } r j ⟨e, h⟩ b Q ↔
    WB cx nt ops bef r (j + 1) ⟨e, h⟩ (b ++ [([], [])]) Q := Iff.rfl
theorem BA_some {v : V} {u : Upd} {l : List Nat} {d : Nat} {r : List Oper} {j : Nat} {e : Env} {h : Heap} {b : Book} : BA cx nt ops bef (some ((v, u), l)) (some d) r j e h b Q ↔ apB bef j (ids1 u) l 0 b = true ∧ d < nt ∧ WB cx nt ops bef r (j + 1) ⟨(d, v) :: e, Heap.pad (h.length + 1) (h.puts u)⟩ (b ++ [(ids1 u, l)]) Q := Iff.rfl
theorem BA_none {v : V} {u : Upd} {l : List Nat} {r : List Oper} {j : Nat} {e : Env} {h : Heap} {b : Book} : BA cx nt ops bef (some ((v, u), l)) none r j e h b Q ↔ apB bef j (ids1 u) l 0 b = true ∧ WB cx nt ops bef r (j + 1) ⟨e, Heap.pad (h.length + 1) (h.puts u)⟩ (b ++ [(ids1 u, l)]) Q := Iff.rfl

/-! Out of what was quiet so far. -/
def sigQ (q : QD) : Book := q.l.map sigD
theorem sigQ_nil : sigQ QD.nil = [] := rfl
theorem sigQ_snoc {q : QD} {w : Bool} {v : V} {l : List Nat} : sigQ (q.snoc w v l) = sigQ q ++ [([], l)] := by
  unfold sigQ QD.snoc
  simp only [List.map_append]
  rfl
theorem QA_noise {p : Nat × Option Ob} {v : V} {u : Upd} {l : List Nat} {d : Nat} {r : List Oper} {j : Nat} {e : Env} {h : Heap} {q : QD} : QA cx nt ops bef (some ((v, p :: u), l)) (some d) r j e h q Q ↔
    apB bef j (ids1 (p :: u)) l 0 (sigQ q) = true ∧ d < nt ∧ WB cx nt ops bef r (j + 1) ⟨(d, v) :: e, Heap.pad (h.length + 1) (h.puts (p :: u))⟩ (sigQ q ++ [(ids1 (p :: u), l)]) Q := by
  unfold QA
  simp only [apart_eq]
  refine and_congr Iff.rfl (and_congr Iff.rfl ?_)
  exact WD_book (by simp only [List.map_append]; rfl)
theorem QA_noise_none {p : Nat × Option Ob} {v : V} {u : Upd} {l : List Nat} {r : List Oper} {j : Nat} {e : Env} {h : Heap} {q : QD} : QA cx nt ops bef (some ((v, p :: u), l)) none r j e h q Q ↔
    apB bef j (ids1 (p :: u)) l 0 (sigQ q) = true ∧ WB cx nt ops bef r (j + 1) ⟨e, Heap.pad (h.length + 1) (h.puts (p :: u))⟩ (sigQ q ++ [(ids1 (p :: u), l)]) Q := by
  unfold QA
  simp only [apart_eq]
  refine and_congr Iff.rfl ?_
  exact WD_book (by simp only [List.map_append]; rfl)

/-! A call's answer that is a new object. -/
theorem callV_clone {T : TT} {fns : FuncId → Option AFn} {g : FuncId} {fn : AFn} (hfn : fns g = some fn) {st bytes : Nat} (hi : fn.intr = some (st, bytes)) (hst : st ≠ 0) {rows : List (List V)} (hr : rows.all (fun r => r.length == st) = true) (hb : rows.length * bytes ≤ 140737488355328) (n : Nat) :
    callV (LX T fns) n (.clo g []) [.fz rows] = .pure (.ms n st 0 rows.length none, [(n, some (.buf st rows false true))]) := by
  have h : lim T fns g [.fz rows] [] = some (.ms 0 st 0 rows.length none, [some (.buf st rows false true)]) := lim_of T fns ⟨1, fun R d hR hd => by
    obtain ⟨d, rfl⟩ : ∃ d', d = d' + 1 := ⟨d - 1, by omega⟩
    simp only [acall, hfn, hi, cloneFn]
    rw [if_pos ⟨hst, hr, hb⟩]⟩
  unfold callV
  simp only [hfn]
  unfold callR
  rw [plainArgs_frz _ _ _ (by rfl), plainAll_ids _ (by rfl)]
  show withR (lim T fns g) n [.fz rows] [] [] = _
  unfold withR
  simp only [List.map_nil, upd1, List.all_nil, Bool.and_self, if_true, plainAll_re _ [.fz rows] (by rfl), pullObs, h, List.length_nil, Nat.zero_le]
  unfold afterR
  simp only [List.length_cons, List.length_nil, Nat.zero_add, V.re, back, nth, Nat.lt_one_iff, if_true, Option.map_some, pushObs, Ob.re, Option.bind_some, List.isEmpty_cons, Bool.and_false, Bool.false_and, Bool.false_eq_true, if_false, Nat.sub_self, Nat.add_zero, List.append_nil]
end Go.Proofs.Ytfdemnefkfkghaa.R
/- What a run within bounds answers is answered without bounds. -/
namespace Go.Proofs.Ytfdemnefkfkghaa.R
set_option linter.unusedVariables false
set_option linter.unusedSimpArgs false
open Go

section
variable (T : TT) (fns : FuncId → Option AFn) {c c' : FuncId → Fun} (hc : ∀ g a h r, c g a h = some r → c' g a h = some r)
include hc

theorem code_imp {ntmps keep : Nat} {gcs : List AGc} {R : Nat} {k : Code} {id : Option Nat} {s : St} {r : Ex × St} (h : acode { T, fns, call := c } ntmps keep R gcs k id s = some r) : acode { T, fns, call := c' } ntmps keep R gcs k id s = some r :=
  acode_le T fns hc (Nat.le_refl _) h

theorem runFn_imp {fn : AFn} {R : Nat} {args : List V} {hs : List Ob} {r : V × Heap} (h : runFn { T, fns, call := c } fn R args hs = some r) : runFn { T, fns, call := c' } fn R args hs = some r := by
  unfold runFn at h ⊢
  split at h
  · cases h
  · rename_i hl
    rw [if_neg hl]
    rw [Option.bind_eq_some_iff] at h ⊢
    obtain ⟨x, h1, h2⟩ := h
    exact ⟨x, code_imp T fns hc h1, h2⟩
end

theorem acall_lim {T : TT} {fns : FuncId → Option AFn} {R : Nat} : ∀ {d : Nat} {g : FuncId} {a : List V} {h : List Ob} {r : V × Heap}, acall T fns R d g a h = some r → lim T fns g a h = some r
  | 0, g, a, h, r, hx => by simp [acall] at hx
  | d + 1, g, a, h, r, hx => by
    unfold acall at hx
    cases hf : fns g with
    | none => simp [hf] at hx
    | some fn =>
      simp only [hf] at hx
      cases hi : fn.intr with
      | some p =>
        simp only [hi] at hx
        refine lim_of T fns ⟨1, fun R' d' _ hd => ?_⟩
        obtain ⟨d', rfl⟩ : ∃ d'', d' = d'' + 1 := ⟨d' - 1, by omega⟩
        simp only [acall, hf, hi]
        exact hx
      | none =>
        simp only [hi] at hx
        exact lim_run T fns hf hi (runFn_imp T fns (fun g a h r hx => acall_lim hx) hx)
/-- An answer without bounds is one within some. -/
theorem lim_acall {T : TT} {fns : FuncId → Option AFn} {g : FuncId} {a : List V} {h : List Ob} {r : V × Heap} (hx : lim T fns g a h = some r) : ∃ R d, acall T fns R d g a h = some r := by
  obtain ⟨i, hi⟩ := lim_evt T fns hx
  exact ⟨i, i, hi i i (Nat.le_refl _) (Nat.le_refl _)⟩

/-! An answer that is told of, not named. -/
def PF (P : V × Heap → Prop) (x : Option (V × Heap)) : Prop := ∃ r, x = some r ∧ P r
def EQ (T : TT) (res : List ResultVar) (rfz : Bool) (keep : Nat) (P : V × Heap → Prop) : Aft := fun ex s => match ex with
  | .normal | .ret => PF P ((resAll T s res).bind fun vs => finish keep rfz (oneOf vs) s.heap)
  | _ => False
theorem EQ_ret {T : TT} {res : List ResultVar} {rfz : Bool} {keep : Nat} {P : V × Heap → Prop} {s : St} : EQ T res rfz keep P .ret s ↔ PF P ((resAll T s res).bind fun vs => finish keep rfz (oneOf vs) s.heap) := Iff.rfl
theorem EQ_normal {T : TT} {res : List ResultVar} {rfz : Bool} {keep : Nat} {P : V × Heap → Prop} {s : St} : EQ T res rfz keep P .normal s ↔ PF P ((resAll T s res).bind fun vs => finish keep rfz (oneOf vs) s.heap) := Iff.rfl
theorem fn_rule_ex {T : TT} {fns : FuncId → Option AFn} {g : FuncId} {fn : AFn} (hfn : fns g = some fn) (hi : fn.intr = none) {args : List V} {hs : List Ob} {P : V × Heap → Prop} (hl : args.length ≤ fn.ntmps)
    (h : W (LX T fns) ⟨fn.ntmps, hs.length, fn.gcs⟩ fn.body none ⟨argEnv 0 args, hs.map some⟩ (EQ T fn.res fn.rfz hs.length P)) : ∃ r, lim T fns g args hs = some r ∧ P r := by
  obtain ⟨R, ex, s', h1, q⟩ := h
  have key : ∀ r, ((resAll T s' fn.res).bind fun vs => finish hs.length fn.rfz (oneOf vs) s'.heap) = some r → (ex = .normal ∨ ex = .ret) → lim T fns g args hs = some r := by
    intro r hr he
    refine lim_run T fns hfn hi (R0 := R) ?_
    unfold runFn
    rw [if_neg (by omega), Option.bind_eq_some_iff]
    refine ⟨_, h1, ?_⟩
    rcases he with rfl | rfl <;> exact hr
  cases ex with
  | normal =>
    obtain ⟨r, hr, hP⟩ := q
    exact ⟨r, key r hr (.inl rfl), hP⟩
  | ret =>
    obtain ⟨r, hr, hP⟩ := q
    exact ⟨r, key r hr (.inr rfl), hP⟩
  | exit i => exact q.elim
end Go.Proofs.Ytfdemnefkfkghaa.R
/- Stepping: lists that grow. -/
namespace Go.Proofs.Ytfdemnefkfkghaa.R
set_option linter.unusedVariables false
set_option linter.unusedSimpArgs false
open Go

theorem append_one {ti : TI} {n i st l : Nat} {row : List V} {np : Bool} {h : Heap} {tr : List Nat} {st' : Nat} {rows : List (List V)} {frz pure : Bool} (hat : h.at? i = some (.buf st' rows frz pure))
    (h1 : st = ti.size) (h2 : st' = ti.size) (h3 : l = rows.length) (h4 : (l + 1) * ti.bytes ≤ 140737488355328) (h5 : l + 1 ≤ 140737488355328) :
    (appendR ti n (.ms i st 0 l none) [row] np).run h tr = some ((.ms n st 0 (l + 1) none, [(i, none), (n, some (.buf st (rows ++ [row]) frz (pure && np)))]), i :: tr) := by
  subst h1
  subst h2
  subst h3
  unfold appendR
  simp only [List.length_cons, List.length_nil, Nat.zero_add, Nat.add_one_ne_zero, if_false, if_true, Rd.run, hat]
  rw [if_pos ⟨trivial, Nat.le_refl _, h4, h5⟩]
  unfold appendM
  simp only [List.length_cons, List.length_nil, Nat.zero_add]
  rw [if_neg (by omega), if_pos (by simp)]
  simp [Rd.run]

/-- As simp sees it: the object first, then one element behind it. -/
def appL (ti : TI) (n i st l : Nat) (row : List V) (np : Bool) (h : Heap) (tr : List Nat) (x : Option Ob) : Option ((V × Upd) × List Nat) := match x with
  | some o => (appendR ti n (.ms i st 0 l none) [row] np).run (Heap.put [] i (some o)) tr
  | none => none
theorem append_look {ti : TI} {n i st l : Nat} {row : List V} {np : Bool} {h : Heap} {tr : List Nat} : (appendR ti n (.ms i st 0 l none) [row] np).run h tr = appL ti n i st l row np h tr (h.at? i) := by
  unfold appL
  by_cases hst : st = ti.size
  · cases ho : h.at? i with
    | none =>
      unfold appendR
      simp [hst, Rd.run, ho]
    | some o =>
      have hp : Heap.at? (Heap.put [] i (some o)) i = some o := by rw [at?_put, if_pos rfl]
      unfold appendR
      simp only [List.length_cons, List.length_nil, Nat.zero_add, Nat.add_one_ne_zero, if_false, hst, if_true, Rd.run, ho, hp]
      cases o with
      | mp es p => rfl
      | buf st' rows frz pure =>
        simp only
        split
        · unfold appendM
          simp only
          split
          · split <;> rfl
          · split <;> rfl
        · rfl
  · unfold appendR
    cases h.at? i with
    | none => simp [hst, Rd.run]
    | some o => simp [hst, Rd.run]
theorem appL_some {ti : TI} {n i st l : Nat} {row : List V} {np : Bool} {h : Heap} {tr : List Nat} {st' : Nat} {rows : List (List V)} {frz pure : Bool} 
    (h1 : st = ti.size) (h2 : st' = ti.size) (h3 : l = rows.length) (h4 : (l + 1) * ti.bytes ≤ 140737488355328) (h5 : l + 1 ≤ 140737488355328) :
    appL ti n i st l row np h tr (some (.buf st' rows frz pure)) = some ((.ms n st 0 (l + 1) none, [(i, none), (n, some (.buf st (rows ++ [row]) frz (pure && np)))]), i :: tr) :=
  append_one (by rw [at?_put, if_pos rfl]) h1 h2 h3 h4 h5

/-- The answer is a whole list of an object of the call's own. -/
theorem finish_ms {h : Heap} {i st n : Nat} {c : Option Nat} {rows : List (List V)} {f : Bool} (hat : h.at? i = some (.buf st rows f true)) (hl : n = rows.length) : finish 0 true (.ms i st 0 n c) h = some (.fz rows, []) := by
  refine finish_true (u := [(i, some (.buf st rows true true))]) (l := [i]) ?_ rfl
  simp only [frz, frzAll, frzG, frzGAll, ms2, msUp, Rd.run, hat]
  rw [if_pos ⟨trivial, by omega⟩, hl]
  simp [Rd.run]

/-! Many elements. -/
theorem append_more {ti : TI} {n i st l : Nat} {new : List (List V)} {np : Bool} {h : Heap} {tr : List Nat} {st' : Nat} {rows : List (List V)} {frz pure : Bool} (hat : h.at? i = some (.buf st' rows frz pure)) (h0 : new.length ≠ 0)
    (h1 : st = ti.size) (h2 : st' = ti.size) (h3 : l = rows.length) (h4 : (l + new.length) * ti.bytes ≤ 140737488355328) (h5 : l + new.length ≤ 140737488355328) :
    (appendR ti n (.ms i st 0 l none) new np).run h tr = some ((.ms n st 0 (l + new.length) none, [(i, none), (n, some (.buf st (rows ++ new) frz (pure && np)))]), i :: tr) := by
  subst h1
  subst h2
  subst h3
  unfold appendR
  simp only [h0, if_false, if_true, Rd.run, hat]
  rw [if_pos ⟨trivial, by omega, h4, h5⟩]
  unfold appendM
  simp only
  rw [if_neg (by omega), if_pos (by simp)]
  simp [Rd.run]
def appN (ti : TI) (n i st l : Nat) (new : List (List V)) (np : Bool) (h : Heap) (tr : List Nat) (x : Option Ob) : Option ((V × Upd) × List Nat) := match x with
  | some o => (appendR ti n (.ms i st 0 l none) new np).run (Heap.put [] i (some o)) tr
  | none => none
theorem append_many {ti : TI} {n i st l : Nat} {new : List (List V)} {np : Bool} {h : Heap} {tr : List Nat} (h0 : new.length ≠ 0) : (appendR ti n (.ms i st 0 l none) new np).run h tr = appN ti n i st l new np h tr (h.at? i) := by
  unfold appN
  by_cases hst : st = ti.size
  · cases ho : h.at? i with
    | none =>
      unfold appendR
      simp only [h0, if_false, hst, if_true, Rd.run, ho]
    | some o =>
      have hp : Heap.at? (Heap.put [] i (some o)) i = some o := by rw [at?_put, if_pos rfl]
      unfold appendR
      simp only [h0, if_false, hst, if_true, Rd.run, ho, hp]
      cases o with
      | mp es p => rfl
      | buf st' rows frz pure =>
        simp only
        split
        · unfold appendM
          simp only
          split
          · split <;> rfl
          · split <;> rfl
        · rfl
  · unfold appendR
    simp only [h0, if_false, hst]
    cases h.at? i with
    | none => simp [Rd.run]
    | some o => simp [Rd.run]
theorem appN_some {ti : TI} {n i st l : Nat} {new : List (List V)} {np : Bool} {h : Heap} {tr : List Nat} {st' : Nat} {rows : List (List V)} {frz pure : Bool} (h0 : new.length ≠ 0)
    (h1 : st = ti.size) (h2 : st' = ti.size) (h3 : l = rows.length) (h4 : (l + new.length) * ti.bytes ≤ 140737488355328) (h5 : l + new.length ≤ 140737488355328) :
    appN ti n i st l new np h tr (some (.buf st' rows frz pure)) = some ((.ms n st 0 (l + new.length) none, [(i, none), (n, some (.buf st (rows ++ new) frz (pure && np)))]), i :: tr) :=
  append_more (by rw [at?_put, if_pos rfl]) h0 h1 h2 h3 h4 h5
theorem append_none {ti : TI} {n i st o l : Nat} {c : Option Nat} {np : Bool} : appendR ti n (.ms i st o l c) [] np = .pure (.ms i st o l c, []) := by
  unfold appendR
  simp
end Go.Proofs.Ytfdemnefkfkghaa.R
/- Structs compared. -/
namespace Go.Proofs.Ytfdemnefkfkghaa.R
open Go
set_option linter.unusedSimpArgs false
theorem eqV4 (x y : Bool) : eqV T 4 (.bool x) (.bool y) = some (x == y) := by simp [eqV, T_4]
theorem eq145 (x y : S145) : eqV T 145 (.agg [.str x.f0, .str x.f1]) (.agg [.str y.f0, .str y.f1]) = some (decide (x = y)) := by
  obtain ⟨a0, a1⟩ := x
  obtain ⟨b0, b1⟩ := y
  by_cases h0 : a0 = b0
  case neg => simp [eqV, eqAgg, eqKind, ba_beq, T_9, T_145, h0]
  by_cases h1 : a1 = b1
  case neg => simp [eqV, eqAgg, eqKind, ba_beq, T_9, T_145, h0, h1]
  simp [eqV, eqAgg, eqKind, ba_beq, T_9, T_145, h0, h1]
theorem eq100 (x y : S100) : eqV T 100 (.agg [.int .u32 x.f0, .int .u16 x.f1, .str x.f2.f0, .str x.f2.f1]) (.agg [.int .u32 y.f0, .int .u16 y.f1, .str y.f2.f0, .str y.f2.f1]) = some (decide (x = y)) := by
  obtain ⟨a0, a1, ⟨a2, a3⟩⟩ := x
  obtain ⟨b0, b1, ⟨b2, b3⟩⟩ := y
  by_cases h0 : a0 = b0
  case neg => simp [eqV, eqAgg, eqKind, ba_beq, T_9, T_42, T_96, T_98, T_100, h0]
  by_cases h1 : a1 = b1
  case neg => simp [eqV, eqAgg, eqKind, ba_beq, T_9, T_42, T_96, T_98, T_100, h0, h1]
  by_cases h2 : a2 = b2
  case neg => simp [eqV, eqAgg, eqKind, ba_beq, T_9, T_42, T_96, T_98, T_100, h0, h1, h2]
  by_cases h3 : a3 = b3
  case neg => simp [eqV, eqAgg, eqKind, ba_beq, T_9, T_42, T_96, T_98, T_100, h0, h1, h2, h3]
  simp [eqV, eqAgg, eqKind, ba_beq, T_9, T_42, T_96, T_98, T_100, h0, h1, h2, h3]
theorem eq98 (x y : S98) : eqV T 98 (.agg [.str x.f0, .str x.f1]) (.agg [.str y.f0, .str y.f1]) = some (decide (x = y)) := by
  obtain ⟨a0, a1⟩ := x
  obtain ⟨b0, b1⟩ := y
  by_cases h0 : a0 = b0
  case neg => simp [eqV, eqAgg, eqKind, ba_beq, T_9, T_98, h0]
  by_cases h1 : a1 = b1
  case neg => simp [eqV, eqAgg, eqKind, ba_beq, T_9, T_98, h0, h1]
  simp [eqV, eqAgg, eqKind, ba_beq, T_9, T_98, h0, h1]
theorem eq121 (x y : S121) : eqV T 121 (.agg [.int .u8 x.f0, .str x.f1, .str x.f2, .int .u32 x.f3, .int .u16 x.f4, .str x.f5]) (.agg [.int .u8 y.f0, .str y.f1, .str y.f2, .int .u32 y.f3, .int .u16 y.f4, .str y.f5]) = some (decide (x = y)) := by
  obtain ⟨a0, a1, a2, a3, a4, a5⟩ := x
  obtain ⟨b0, b1, b2, b3, b4, b5⟩ := y
  by_cases h0 : a0 = b0
  case neg => simp [eqV, eqAgg, eqKind, ba_beq, T_5, T_9, T_42, T_96, T_121, h0]
  by_cases h1 : a1 = b1
  case neg => simp [eqV, eqAgg, eqKind, ba_beq, T_5, T_9, T_42, T_96, T_121, h0, h1]
  by_cases h2 : a2 = b2
  case neg => simp [eqV, eqAgg, eqKind, ba_beq, T_5, T_9, T_42, T_96, T_121, h0, h1, h2]
  by_cases h3 : a3 = b3
  case neg => simp [eqV, eqAgg, eqKind, ba_beq, T_5, T_9, T_42, T_96, T_121, h0, h1, h2, h3]
  by_cases h4 : a4 = b4
  case neg => simp [eqV, eqAgg, eqKind, ba_beq, T_5, T_9, T_42, T_96, T_121, h0, h1, h2, h3, h4]
  by_cases h5 : a5 = b5
  case neg => simp [eqV, eqAgg, eqKind, ba_beq, T_5, T_9, T_42, T_96, T_121, h0, h1, h2, h3, h4, h5]
  simp [eqV, eqAgg, eqKind, ba_beq, T_5, T_9, T_42, T_96, T_121, h0, h1, h2, h3, h4, h5]
theorem eq184 (x y : S184) : eqV T 184 (.agg [.int .u32 x.f0, .int .u32 x.f1]) (.agg [.int .u32 y.f0, .int .u32 y.f1]) = some (decide (x = y)) := by
  obtain ⟨a0, a1⟩ := x
  obtain ⟨b0, b1⟩ := y
  by_cases h0 : a0 = b0
  case neg => simp [eqV, eqAgg, eqKind, ba_beq, T_42, T_184, h0]
  by_cases h1 : a1 = b1
  case neg => simp [eqV, eqAgg, eqKind, ba_beq, T_42, T_184, h0, h1]
  simp [eqV, eqAgg, eqKind, ba_beq, T_42, T_184, h0, h1]
theorem eq179 (x y : S179) : eqV T 179 (.agg [.str x.f0, .int .u32 x.f1, .int .u16 x.f2]) (.agg [.str y.f0, .int .u32 y.f1, .int .u16 y.f2]) = some (decide (x = y)) := by
  obtain ⟨a0, a1, a2⟩ := x
  obtain ⟨b0, b1, b2⟩ := y
  by_cases h0 : a0 = b0
  case neg => simp [eqV, eqAgg, eqKind, ba_beq, T_9, T_42, T_96, T_179, h0]
  by_cases h1 : a1 = b1
  case neg => simp [eqV, eqAgg, eqKind, ba_beq, T_9, T_42, T_96, T_179, h0, h1]
  by_cases h2 : a2 = b2
  case neg => simp [eqV, eqAgg, eqKind, ba_beq, T_9, T_42, T_96, T_179, h0, h1, h2]
  simp [eqV, eqAgg, eqKind, ba_beq, T_9, T_42, T_96, T_179, h0, h1, h2]
end Go.Proofs.Ytfdemnefkfkghaa.R
/- Stepping through loops over iterators. -/
namespace Go.Proofs.Ytfdemnefkfkghaa.R
set_option linter.unusedVariables false
set_option linter.unusedSimpArgs false
open Go

/-- Rounds, by the bound: with more of it there is no other answer. -/
structure CBs where
  f : Nat → CB
  mono : ∀ R R', R ≤ R' → ∀ args h x, f R args h = some x → f R' args h = some x

abbrev AftI := Ex → ISt → Prop
/-- An iterator's code, run from 's' on, ends as 'Q' says. -/
def WI (cx : Cx) (fr : Fr) (cb : CBs) (c : Code) (id : Option Nat) (s : ISt) (Q : AftI) : Prop := ∃ R ex s', icode cx fr.nt fr.keep R fr.gcs (cb.f R) c id s = some (ex, s') ∧ Q ex s'
def SQI (cx : Cx) (fr : Fr) (cb : CBs) (b : Code) (Q : AftI) : AftI := fun ex s => match ex with
  | .normal => WI cx fr cb b none s Q
  | ex => Q ex s
def BQI (i : Nat) (Q : AftI) : AftI := fun ex s => match ex with
  | .exit j => if j = i then Q .normal s else Q (.exit j) s
  | ex => Q ex s
def WCI (cx : Cx) (fr : Fr) (cb : CBs) (v : V) (a b : Code) (s : ISt) (Q : AftI) : Prop := match v with
  | .bool x => if x = true then WI cx fr cb a none s Q else WI cx fr cb b none s Q
  | _ => False
def WIO (cx : Cx) (nt : Nat) (cb : CBs) (ops : Array Oper) (rest : List Oper) (s : ISt) (Q : AftI) : Prop := ∃ R s', iOps cx nt (cb.f R) ops rest s = some s' ∧ Q .normal s'
/-- A round. -/
def CW (cb : CBs) (args : List V) (h : Heap) (K : Option Ex → Heap → Prop) : Prop := ∃ R st h', cb.f R args h = some (st, h') ∧ K st h'
def WIN (cx : Cx) (nt : Nat) (cb : CBs) (ops : Array Oper) (d : Option Tmp) (v : V) (rest : List Oper) (e : Env) (h : Heap) (y : List Nat) (st : Option Ex) (Q : AftI) : Prop := match d with
  | none => WIO cx nt cb ops rest ⟨e, h, y, st⟩ Q
  | some d => d < nt ∧ WIO cx nt cb ops rest ⟨(d, v) :: e, h, y, st⟩ Q
def WIY (cx : Cx) (nt : Nat) (cb : CBs) (ops : Array Oper) (ya : Option (List Operand)) (x : Option ((V × Upd) × List Nat)) (o : Oper) (rest : List Oper) (e : Env) (h : Heap) (y : List Nat) (st : Option Ex) (Q : AftI) : Prop := match ya with
  | some ars => st = none ∧ CW cb (evs e ars) h (fun st' h' => WIN cx nt cb ops o.dst (.bool st'.isNone) rest e h' (yDrop o.dst y) st' Q)
  | none => match x with
    | none => False
    | some ((v, u), _) => WIN cx nt cb ops o.dst v rest e (h.puts u) (yNext o y) st Q
def YQ (ops : Array Oper) (y : List Nat) (st : Option Ex) (Q : AftI) : Aft := fun ex t => Q ex ⟨t.env, t.heap, yDrops ops.toList y, st⟩

section
variable {cx : Cx} {fr : Fr} {nt : Nat} {cb : CBs} {ops : Array Oper} {a b c : Code} {id : Option Nat} {s : ISt} {Q : AftI}

theorem icode_mono {keep R R' : Nat} {gcs : List AGc} (hR : R ≤ R') {r : Ex × ISt} (h : icode cx nt keep R gcs (cb.f R) c id s = some r) : icode cx nt keep R' gcs (cb.f R') c id s = some r :=
  icode_le cx.T cx.fns (c := cx.call) (fun _ _ _ _ h => h) (cb.mono R R' hR) hR h
theorem iops_mono {R R' : Nat} (hR : R ≤ R') {rest : List Oper} {s' : ISt} (h : iOps cx nt (cb.f R) ops rest s = some s') : iOps cx nt (cb.f R') ops rest s = some s' :=
  iops_le cx.T cx.fns (c := cx.call) (fun _ _ _ _ h => h) (cb.mono R R' hR) h

theorem WI_skip : WI cx fr cb .skip id s Q ↔ Q .normal s := ⟨fun ⟨R, ex, s', h, q⟩ => by cases h; exact q, fun q => ⟨0, _, _, rfl, q⟩⟩
theorem WI_exit {i : Nat} : WI cx fr cb (.exit i) id s Q ↔ Q (.exit i) s := ⟨fun ⟨R, ex, s', h, q⟩ => by cases h; exact q, fun q => ⟨0, _, _, rfl, q⟩⟩
theorem WI_ret : WI cx fr cb .ret id s Q ↔ Q .ret s := ⟨fun ⟨R, ex, s', h, q⟩ => by cases h; exact q, fun q => ⟨0, _, _, rfl, q⟩⟩
theorem WI_seq : WI cx fr cb (.seq a b) id s Q ↔ WI cx fr cb a none s (SQI cx fr cb b Q) := by
  constructor
  · rintro ⟨R, ex, s', h, q⟩
    simp only [icode, Option.bind_eq_some_iff] at h
    obtain ⟨⟨ex1, s1⟩, h1, h2⟩ := h
    refine ⟨R, ex1, s1, h1, ?_⟩
    cases ex1 with
    | normal => exact ⟨R, ex, s', h2, q⟩
    | exit k => cases h2; exact q
    | ret => cases h2; exact q
  · rintro ⟨R, ex, s', h, q⟩
    cases ex with
    | normal =>
      obtain ⟨R2, ex2, s2, h2, q2⟩ := q
      refine ⟨max R R2, ex2, s2, ?_, q2⟩
      simp only [icode, Option.bind_eq_some_iff]
      exact ⟨_, icode_mono (Nat.le_max_left _ _) h, icode_mono (Nat.le_max_right _ _) h2⟩
    | exit k => exact ⟨R, _, _, by simp only [icode, h]; rfl, q⟩
    | ret => exact ⟨R, _, _, by simp only [icode, h]; rfl, q⟩
theorem SQI_normal : SQI cx fr cb b Q .normal s ↔ WI cx fr cb b none s Q := Iff.rfl
theorem SQI_exit {i : Nat} : SQI cx fr cb b Q (.exit i) s ↔ Q (.exit i) s := Iff.rfl
theorem SQI_ret : SQI cx fr cb b Q .ret s ↔ Q .ret s := Iff.rfl

theorem WI_block {i : Nat} : WI cx fr cb (.block i c) id s Q ↔ WI cx fr cb c (some i) s (BQI i Q) := by
  constructor
  · rintro ⟨R, ex, s', h, q⟩
    simp only [icode, Option.map_eq_some_iff] at h
    obtain ⟨⟨ex1, s1⟩, h1, h2⟩ := h
    refine ⟨R, ex1, s1, h1, ?_⟩
    cases ex1 with
    | normal => cases h2; exact q
    | exit k =>
      simp only at h2
      show if k = i then _ else _
      split
      · rename_i e; rw [if_pos e] at h2; cases h2; exact q
      · rename_i e; rw [if_neg e] at h2; cases h2; exact q
    | ret => cases h2; exact q
  · rintro ⟨R, ex, s', h, q⟩
    cases ex with
    | normal => exact ⟨R, _, _, by simp only [icode, h]; rfl, q⟩
    | exit k =>
      by_cases e : k = i
      · have q' : Q .normal s' := by
          have : (if k = i then Q .normal s' else Q (.exit k) s') := q
          rwa [if_pos e] at this
        exact ⟨R, .normal, s', by simp only [icode, h, Option.map_some, if_pos e], q'⟩
      · have q' : Q (.exit k) s' := by
          have : (if k = i then Q .normal s' else Q (.exit k) s') := q
          rwa [if_neg e] at this
        exact ⟨R, .exit k, s', by simp only [icode, h, Option.map_some, if_neg e], q'⟩
    | ret => exact ⟨R, _, _, by simp only [icode, h]; rfl, q⟩
theorem BQI_normal {i : Nat} : BQI i Q .normal s ↔ Q .normal s := Iff.rfl
theorem BQI_exit {i j : Nat} : BQI i Q (.exit j) s ↔ if j = i then Q .normal s else Q (.exit j) s := Iff.rfl
theorem BQI_ret {i : Nat} : BQI i Q .ret s ↔ Q .ret s := Iff.rfl

theorem WI_cond {x : Operand} : WI cx fr cb (.cond x a b) id s Q ↔ WCI cx fr cb (ev s.env x) a b s Q := by
  unfold WI WCI
  simp only [icode]
  generalize ev s.env x = v
  cases v with
  | bool y =>
    cases y with
    | true => rfl
    | false => simp [WI]
  | _ => simp
theorem WCI_bool {x : Bool} : WCI cx fr cb (.bool x) a b s Q ↔ if x = true then WI cx fr cb a none s Q else WI cx fr cb b none s Q := Iff.rfl

theorem WI_region {i : Nat} : WI cx fr cb (.region i ops false) id s Q ↔ WIO cx fr.nt cb ops ops.toList s Q := by
  constructor
  · rintro ⟨R, ex, s', h, q⟩
    simp only [icode, Bool.false_eq_true, if_false, Option.map_eq_some_iff, Prod.mk.injEq] at h
    obtain ⟨s1, h1, rfl, rfl⟩ := h
    exact ⟨R, s1, h1, q⟩
  · rintro ⟨R, s', h, q⟩
    exact ⟨R, _, _, by simp only [icode, Bool.false_eq_true, if_false, h]; rfl, q⟩
theorem WI_draw {i : Nat} {e : Env} {h : Heap} {y : List Nat} {st : Option Ex} : WI cx fr cb (.region i ops true) id ⟨e, h, y, st⟩ Q ↔ (ops.toList.all (fun o => (yArgs o y).isNone)) = true ∧ WQ cx fr.nt ops (Region.before ops) ops.toList 0 ⟨e, h⟩ QD.nil (YQ ops y st Q) := by
  constructor
  · rintro ⟨R, ex, s', h, q⟩
    simp only [icode, if_true] at h
    split at h
    · rename_i hall
      simp only [Option.map_eq_some_iff, Prod.mk.injEq] at h
      obtain ⟨t, h1, rfl, rfl⟩ := h
      exact ⟨hall, t, h1, q⟩
    · cases h
  · rintro ⟨hall, t, h1, q⟩
    have h1' : runDraw cx fr.nt ops (Region.before ops) ops.toList 0 ⟨e, h⟩ [] = some t := h1
    exact ⟨0, _, _, by simp only [icode, if_true, if_pos hall, h1']; rfl, q⟩
theorem YQ_normal {y : List Nat} {st : Option Ex} {e : Env} {h : Heap} : YQ ops y st Q .normal ⟨e, h⟩ ↔ Q .normal ⟨e, h, yDrops ops.toList y, st⟩ := Iff.rfl

theorem WIO_nil : WIO cx nt cb ops [] s Q ↔ Q .normal s := ⟨fun ⟨R, s', h, q⟩ => by cases h; exact q, fun q => ⟨0, s, rfl, q⟩⟩
theorem WIN_some {d : Nat} {v : V} {r : List Oper} {e : Env} {h : Heap} {y : List Nat} {st : Option Ex} : WIN cx nt cb ops (some d) v r e h y st Q ↔ d < nt ∧ WIO cx nt cb ops r ⟨(d, v) :: e, h, y, st⟩ Q := Iff.rfl
theorem WIN_none {v : V} {r : List Oper} {e : Env} {h : Heap} {y : List Nat} {st : Option Ex} : WIN cx nt cb ops none v r e h y st Q ↔ WIO cx nt cb ops r ⟨e, h, y, st⟩ Q := Iff.rfl
theorem WIN_iff {d : Option Tmp} {v : V} {r : List Oper} {e : Env} {h : Heap} {y : List Nat} {st : Option Ex} : WIN cx nt cb ops d v r e h y st Q ↔ ∃ e', putDst nt e d v = some e' ∧ WIO cx nt cb ops r ⟨e', h, y, st⟩ Q := by
  cases d with
  | none => simp [WIN, putDst]
  | some d =>
    simp only [WIN, putDst]
    by_cases hd : d < nt
    · simp [hd]
    · simp [hd]
theorem WIO_cons {d : Option Tmp} {op : Op} {t : TypeId} {p : String} {af : Array Edge} {r : List Oper} {e : Env} {h : Heap} {y : List Nat} {st : Option Ex} : WIO cx nt cb ops ({ dst := d, op, type := t, pos := p, after := af, guard := none } :: r) ⟨e, h, y, st⟩ Q ↔
    WIY cx nt cb ops (yArgs { dst := d, op, type := t, pos := p, after := af, guard := none } y) ((aop cx h.length e { dst := d, op, type := t, pos := p, after := af, guard := none }).run h []) { dst := d, op, type := t, pos := p, after := af, guard := none } r e h y st Q := by
  generalize ho : ({ dst := d, op, type := t, pos := p, after := af, guard := none } : Oper) = o
  have hw : wants ops e o = some true := by subst ho; rfl
  unfold WIY
  constructor
  · rintro ⟨R, s', h1, q⟩
    simp only [iOps, hw] at h1
    cases hy : yArgs o y with
    | some ars =>
      simp only [hy] at h1 ⊢
      cases st with
      | some x => simp at h1
      | none =>
        simp only at h1
        cases hc : cb.f R (evs e ars) h with
        | none => simp [hc] at h1
        | some x =>
          obtain ⟨st', h'⟩ := x
          simp only [hc, Option.bind_eq_some_iff] at h1
          obtain ⟨e', h2, h3⟩ := h1
          exact ⟨rfl, R, st', h', hc, WIN_iff.2 ⟨e', h2, R, s', h3, q⟩⟩
    | none =>
      simp only [hy] at h1 ⊢
      cases hrun : (aop cx h.length e o).run h [] with
      | none => simp [hrun] at h1
      | some x =>
        obtain ⟨⟨v, u⟩, l⟩ := x
        simp only [hrun, Option.bind_eq_some_iff] at h1 ⊢
        obtain ⟨e', h2, h3⟩ := h1
        exact WIN_iff.2 ⟨e', h2, R, s', h3, q⟩
  · intro hh
    cases hy : yArgs o y with
    | some ars =>
      simp only [hy] at hh
      obtain ⟨rfl, R, st', h', hc, hk⟩ := hh
      obtain ⟨e', h2, R2, s', h3, q⟩ := WIN_iff.1 hk
      refine ⟨max R R2, s', ?_, q⟩
      simp only [iOps, hw, hy, cb.mono R _ (Nat.le_max_left R R2) _ _ _ hc, Option.bind_eq_some_iff]
      exact ⟨e', h2, iops_mono (Nat.le_max_right _ _) h3⟩
    | none =>
      simp only [hy] at hh
      cases hrun : (aop cx h.length e o).run h [] with
      | none => simp [hrun] at hh
      | some x =>
        obtain ⟨⟨v, u⟩, l⟩ := x
        simp only [hrun] at hh
        obtain ⟨e', h2, R2, s', h3, q⟩ := WIN_iff.1 hh
        refine ⟨R2, s', ?_, q⟩
        simp only [iOps, hw, hy, hrun, Option.bind_eq_some_iff]
        exact ⟨e', h2, h3⟩
theorem WIY_yield {ars : List Operand} {x : Option ((V × Upd) × List Nat)} {o : Oper} {r : List Oper} {e : Env} {h : Heap} {y : List Nat} {st : Option Ex} : WIY cx nt cb ops (some ars) x o r e h y st Q ↔ st = none ∧ CW cb (evs e ars) h (fun st' h' => WIN cx nt cb ops o.dst (.bool st'.isNone) r e h' (yDrop o.dst y) st' Q) := Iff.rfl
theorem WIY_quiet {v : V} {u : Upd} {l : List Nat} {o : Oper} {r : List Oper} {e : Env} {h : Heap} {y : List Nat} {st : Option Ex} : WIY cx nt cb ops none (some ((v, u), l)) o r e h y st Q ↔ WIN cx nt cb ops o.dst v r e (h.puts u) (yNext o y) st Q := Iff.rfl

/-- A loop of an iterator. -/
def LPI (fr : Fr) (id : Option Nat) {ι : Type} (S : ι → ISt) (m : ι → Nat) (I : ι → Prop) (Q : AftI) (n : Nat) : AftI := fun ex s => match ex with
  | .normal => ∃ y, I y ∧ m y < n ∧ head fr.keep (gcOf fr.gcs id) ⟨s.env, s.heap⟩ = some ⟨(S y).env, (S y).heap⟩ ∧ yHead (gcOf fr.gcs id) s.y = (S y).y ∧ s.stop = (S y).stop
  | ex => Q ex s
theorem LPI_exit {ι : Type} {S : ι → ISt} {m : ι → Nat} {I : ι → Prop} {n i : Nat} : LPI fr id S m I Q n (.exit i) s ↔ Q (.exit i) s := Iff.rfl
theorem LPI_ret {ι : Type} {S : ι → ISt} {m : ι → Nat} {I : ι → Prop} {n : Nat} : LPI fr id S m I Q n .ret s ↔ Q .ret s := Iff.rfl

theorem iloop_rule {ι : Type} (S : ι → ISt) (m : ι → Nat) (I : ι → Prop) (step : ∀ x, I x → WI cx fr cb c none (S x) (LPI fr id S m I Q (m x))) : ∀ (x : ι) (s : ISt), I x → head fr.keep (gcOf fr.gcs id) ⟨s.env, s.heap⟩ = some ⟨(S x).env, (S x).heap⟩ → yHead (gcOf fr.gcs id) s.y = (S x).y → s.stop = (S x).stop → WI cx fr cb (.loop c) id s Q := by
  have key : ∀ (n : Nat) (x : ι) (s : ISt), m x < n → I x → head fr.keep (gcOf fr.gcs id) ⟨s.env, s.heap⟩ = some ⟨(S x).env, (S x).heap⟩ → yHead (gcOf fr.gcs id) s.y = (S x).y → s.stop = (S x).stop → WI cx fr cb (.loop c) id s Q := by
    intro n
    induction n with
    | zero => intro x s h; omega
    | succ n ih =>
      intro x s hm hI hs hy hst
      obtain ⟨R, ex, s', h, q⟩ := step x hI
      have e0 : ({ env := (S x).env, heap := (S x).heap, y := yHead (gcOf fr.gcs id) s.y, stop := s.stop } : ISt) = S x := by rw [hy, hst]
      cases ex with
      | normal =>
        obtain ⟨y, hy1, hlt, hh1, hh2, hh3⟩ := q
        obtain ⟨R2, ex2, s2, h2, q2⟩ := ih y s' (by omega) hy1 hh1 hh2 hh3
        refine ⟨max R R2 + 1, ex2, s2, ?_, q2⟩
        simp only [icode] at h2 ⊢
        unfold iRounds
        rw [hs]
        simp only [Option.bind_some, e0, icode_mono (show R ≤ max R R2 + 1 by omega) h]
        refine iRounds_mono (fun s r hb => ?_) (show R2 ≤ max R R2 by omega) h2
        rw [Option.bind_eq_some_iff] at hb ⊢
        obtain ⟨s0, h3, h4⟩ := hb
        exact ⟨s0, h3, icode_mono (by omega) h4⟩
      | exit i =>
        refine ⟨R + 1, _, _, ?_, q⟩
        simp only [icode]
        unfold iRounds
        rw [hs]
        simp only [Option.bind_some, e0, icode_mono (show R ≤ R + 1 by omega) h]
      | ret =>
        refine ⟨R + 1, _, _, ?_, q⟩
        simp only [icode]
        unfold iRounds
        rw [hs]
        simp only [Option.bind_some, e0, icode_mono (show R ≤ R + 1 by omega) h]
  exact fun x s hI hs hy hst => key _ x s (Nat.lt_succ_self _) hI hs hy hst
theorem WI_mono {Q' : AftI} (h : ∀ ex s, Q ex s → Q' ex s) : WI cx fr cb c id s Q → WI cx fr cb c id s Q' := fun ⟨R, ex, s', h1, q⟩ => ⟨R, ex, s', h1, h _ _ q⟩
end

section
variable {cx : Cx} {fr : Fr} {id : Option Nat} {assign body : Code} {env : Env} {ps : List Tmp} {Q : Aft}
/-- The rounds of a loop over an iterator. -/
def rcb (cx : Cx) (nt : Nat) (gcs : List AGc) (ps : List Tmp) (env : Env) (assign body : Code) : CBs where
  f R := roundOf nt ps env (fun k s1 => acode cx nt k R gcs assign none s1) (fun k s1 => acode cx nt k R gcs body none s1)
  mono R R' hR args h x hx := by
    unfold roundOf at hx ⊢
    split at hx
    · rename_i hl
      rw [if_pos hl]
      cases ha : acode cx nt h.length R gcs assign none { env := bindPs ps args env, heap := h } with
      | none => simp [ha] at hx
      | some z =>
        obtain ⟨ex, s1⟩ := z
        simp only [ha, acode_mono hR ha] at hx ⊢
        cases ex with
        | normal =>
          simp only [Option.map_eq_some_iff] at hx ⊢
          obtain ⟨z, hz1, hz2⟩ := hx
          exact ⟨z, acode_mono hR hz1, hz2⟩
        | exit k => cases hx
        | ret => cases hx
    · cases hx
def stopOf : Ex → Option Ex
  | .normal => none
  | ex => some ex
def onlyN (P : St → Prop) : Aft := fun ex s => match ex with
  | .normal => P s
  | _ => False
theorem onlyN_normal {P : St → Prop} {s : St} : onlyN P .normal s ↔ P s := Iff.rfl
def stopped (K : Option Ex → Heap → Prop) : Aft := fun ex s => K (stopOf ex) s.heap
theorem stopped_normal {K : Option Ex → Heap → Prop} {e : Env} {h : Heap} : stopped K .normal ⟨e, h⟩ ↔ K none h := Iff.rfl
theorem stopped_ret {K : Option Ex → Heap → Prop} {e : Env} {h : Heap} : stopped K .ret ⟨e, h⟩ ↔ K (some .ret) h := Iff.rfl
theorem stopped_exit {K : Option Ex → Heap → Prop} {i : Nat} {e : Env} {h : Heap} : stopped K (.exit i) ⟨e, h⟩ ↔ K (some (.exit i)) h := Iff.rfl
theorem CW_round {nt : Nat} {gcs : List AGc} {args : List V} {h : Heap} {K : Option Ex → Heap → Prop} : CW (rcb cx nt gcs ps env assign body) args h K ↔
    (args.length = ps.length ∧ ps.all (· < nt) = true) ∧ W cx ⟨nt, h.length, gcs⟩ assign none ⟨bindPs ps args env, h⟩ (onlyN fun s1 => W cx ⟨nt, h.length, gcs⟩ body none s1 (stopped K)) := by
  constructor
  · rintro ⟨R, st, h', hx, hk⟩
    simp only [rcb] at hx
    unfold roundOf at hx
    split at hx
    · rename_i hl
      refine ⟨by simpa using hl, ?_⟩
      cases ha : acode cx nt h.length R gcs assign none { env := bindPs ps args env, heap := h } with
      | none => simp [ha] at hx
      | some z =>
        obtain ⟨ex, s1⟩ := z
        simp only [ha] at hx
        cases ex with
        | normal =>
          simp only [Option.map_eq_some_iff, Prod.mk.injEq] at hx
          obtain ⟨⟨ex, s2⟩, hz1, rfl, rfl⟩ := hx
          refine ⟨R, .normal, s1, ha, R, ex, s2, hz1, ?_⟩
          cases ex <;> exact hk
        | exit k => cases hx
        | ret => cases hx
    · cases hx
  · rintro ⟨hl, R, ex1, s1, ha, hb⟩
    cases ex1 with
    | normal =>
      obtain ⟨R2, ex, s2, hz, hk⟩ := hb
      refine ⟨max R R2, stopOf ex, s2.heap, ?_, hk⟩
      have ha' : acode cx nt h.length R gcs assign none ⟨bindPs ps args env, h⟩ = some (.normal, s1) := ha
      have hz' : acode cx nt h.length R2 gcs body none s1 = some (ex, s2) := hz
      simp only [rcb]
      unfold roundOf
      rw [if_pos (by simpa using hl)]
      simp only [acode_mono (Nat.le_max_left R R2) ha', acode_mono (Nat.le_max_right R R2) hz', Option.map_some]
      cases ex <;> rfl
    | exit k => exact hb.elim
    | ret => exact hb.elim

/-- Behind a loop over an iterator. -/
def RQ (env : Env) (Q : Aft) : AftI := fun ex t => match ex with
  | .normal | .ret => Q (match t.stop with | none => Ex.normal | some ex => ex) ⟨env, t.heap⟩
  | _ => False
theorem RQ_normal {e : Env} {h : Heap} {y : List Nat} {st : Option Ex} : RQ env Q .normal ⟨e, h, y, st⟩ ↔ Q (match st with | none => Ex.normal | some ex => ex) ⟨env, h⟩ := Iff.rfl
theorem RQ_ret {e : Env} {h : Heap} {y : List Nat} {st : Option Ex} : RQ env Q .ret ⟨e, h, y, st⟩ ↔ Q (match st with | none => Ex.normal | some ex => ex) ⟨env, h⟩ := Iff.rfl
def WR (cx : Cx) (fr : Fr) (v : V) (ps : Array Tmp) (assign body : Code) (s : St) (Q : Aft) : Prop := match v with
  | .clo gf caps => match cx.fns gf with
    | some fn => (fn.intr = none ∧ fn.res.length = 0 ∧ caps.length + 1 ≤ fn.ntmps) ∧ WI cx ⟨fn.ntmps, s.heap.length, fn.gcs⟩ (rcb cx fr.nt fr.gcs ps.toList s.env assign body) fn.body none ⟨argEnv 0 (.undef :: caps), s.heap, [0], none⟩ (RQ s.env Q)
    | none => False
  | _ => False
theorem W_range {g : Operand} {ps : Array Tmp} {s : St} : W cx fr (.rangeFunc g ps assign body) id s Q ↔ WR cx fr (ev s.env g) ps assign body s Q := by
  unfold W WR
  simp only [acode]
  generalize ev s.env g = v
  cases v with
  | clo gf caps =>
    simp only
    cases hf : cx.fns gf with
    | none => simp
    | some fn =>
      simp only
      have e0 : (fn.intr.isSome || fn.res.length != 0 || decide (fn.ntmps < caps.length + 1)) = false ↔ (fn.intr = none ∧ fn.res.length = 0 ∧ caps.length + 1 ≤ fn.ntmps) := by
        simp [and_assoc]
      constructor
      · rintro ⟨R, ex, s', h, q⟩
        split at h
        · cases h
        · rename_i hno
          refine ⟨e0.1 (by simpa using hno), ?_⟩
          rw [Option.bind_eq_some_iff] at h
          obtain ⟨⟨ex0, t⟩, h1, h2⟩ := h
          refine ⟨R, ex0, t, h1, ?_⟩
          cases ex0 with
          | normal => cases h2; exact q
          | ret => cases h2; exact q
          | exit i => cases h2
      · rintro ⟨hno, R, ex0, t, h1, q⟩
        have hno' := e0.2 hno
        have h1' : icode cx fn.ntmps s.heap.length R fn.gcs (roundOf fr.nt ps.toList s.env (fun k s1 => acode cx fr.nt k R fr.gcs assign none s1) (fun k s1 => acode cx fr.nt k R fr.gcs body none s1)) fn.body none ⟨argEnv 0 (.undef :: caps), s.heap, [0], none⟩ = some (ex0, t) := h1
        cases ex0 with
        | normal => exact ⟨R, _, _, by rw [if_neg (by rw [hno']; simp), h1']; rfl, q⟩
        | ret => exact ⟨R, _, _, by rw [if_neg (by rw [hno']; simp), h1']; rfl, q⟩
        | exit i => exact q.elim
  | _ => simp
end
end Go.Proofs.Ytfdemnefkfkghaa.R
/- The machine's steps, as one set. -/
namespace Go.Proofs.Ytfdemnefkfkghaa.R
open Go
attribute [go_sem] W_skip W_exit W_ret W_seq SQ_normal SQ_exit SQ_ret W_block BQ_normal BQ_exit BQ_ret W_cond WC_bool W_draw_q WQ_nil WQ_cons WQ_guard QG_true QG_false QA_quiet Heap.pad List.nil_append List.cons_append pickR List.take_succ_cons List.take_zero List.take_nil List.drop_zero List.drop_succ_cons binStr Nat.reduceLeDiff W_region WO_nil WO_cons WO_move WO_assign WO_guard WG_true WG_false WA_some WA_none LP_exit LP_ret aop ev evs lk ofConst ofCell Nat.beq cond_true cond_false Bool.false_eq_true if_false if_true bin binInt un ok Rd.run Nat.reduceLT true_and Heap.puts Heap.put Heap.at? decide_true decide_false yields skipped isSkip indexAddrR fieldAddrR loadR builtinR lenB lenKd lenR conv partOf TI.agg List.length_map List.length_cons List.length_nil List.getElem?_map List.getElem?_cons_zero List.getElem?_cons_succ Option.map_some Option.bind_some Nat.reduceAdd Nat.reduceEqDiff beq_iff_eq decide_eq_true_eq Int.natCast_eq_zero natOf_cast FQ_ret FQ_normal resAll resOne oneOf finish_plain pl_int pl_bool pl_str pl_fz pl_agg pl_tup pl_clo pl_undef pl_nil pl_cons Bool.and_self Bool.and_true all_int all_str int_enc str_enc bool_enc Int.ofNat_lt boxR allocR storeR overwrite buildR fillS Option.isSome_some V.cells V.isCell List.all_cons List.all_nil Bool.true_and not_false_eq_true and_true and_self V.anyIds V.hasIds Bool.or_false Bool.not_false Bool.or_self buildSliceR parts fillR List.replicate_succ List.replicate_zero List.set_cons_zero rowIds appendB rows? append_look appL_some append_none List.map_nil Nat.reduceMul List.length_append false_or ne_eq Nat.one_ne_zero Nat.lt_add_one or_self extractR max2 min2 List.getElem?_toArray List.singleton_append List.append_nil Bool.and_false Bool.false_and eqV4 Bool.true_beq Bool.false_beq Bool.not_true WB_nil WB_cons WB_guard BG_true BG_false BG_false_none BA_some BA_none QA_noise QA_noise_none sigQ_nil sigQ_snoc ids1 apB hits hasN Bool.true_or Bool.false_or Bool.or_true Nat.zero_add List.size_toArray EQ_ret EQ_normal W_range WR WI_skip WI_exit WI_ret WI_seq SQI_normal SQI_exit SQI_ret WI_block BQI_normal BQI_exit BQI_ret WI_cond WCI_bool WI_region WI_draw YQ_normal WIO_nil WIN_some WIN_none WIO_cons WIY_yield WIY_quiet LPI_exit LPI_ret CW_round onlyN_normal stopped_normal stopped_ret stopped_exit RQ_normal RQ_ret yArgs yNext yDrop yDrops bindPs okOr copyB clearB appendZ
end Go.Proofs.Ytfdemnefkfkghaa.R
/- Chapter 33's law: at, the same pairs, messages, targets, find. -/
namespace Go.Proofs.Ytfdemnefkfkghaa.R
open Go Go.Proofs
set_option linter.unusedSimpArgs false
set_option linter.unusedVariables false
set_option maxRecDepth 10000
set_option maxHeartbeats 1000000


def atGo (b : Int) : List S95 → List Int → Int
  | x :: l, d :: deep => if x.f0 = b then IntKind.u16.wrap d else atGo b l deep
  | _, _ => 0
def at_ (b : Int) (l : List S95) (deep : List Int) : Int := if deep.length = 0 then 1 else atGo b l deep

theorem atGo_drop {b : Int} {l : List S95} {deep : List Int} {i : Nat} (h : i < l.length) (h' : i < deep.length) : atGo b (l.drop i) (deep.drop i) = if l[i].f0 = b then IntKind.u16.wrap deep[i] else atGo b (l.drop (i + 1)) (deep.drop (i + 1)) := by
  rw [List.drop_eq_getElem_cons h, List.drop_eq_getElem_cons h']
  rfl

theorem lim135 (b : Int) (l : List S95) (deep : List Int) (hl : l.length < 1000000000000000000) (hd : deep.length = 0 ∨ deep.length = l.length) : lim T fns 135 [.int .u32 b, .fz (l.map k95.enc), .fz (deep.map (Cd.int .i64).enc)] [] = some (.int .u16 (at_ b l deep), []) := by
  refine fn_rule (fn := fn135) rfl rfl (by simp [fn135]) ?_
  unfold fn135
  simp only [Try.f135, Option.getD_some, argEnv, List.map_nil, List.length_nil]
  simp only [go_sem, T_3, T_4, T_5, T_9, T_22, T_42, T_51, T_69, T_90, T_91, T_93, T_95, T_96, T_98, T_100, T_112, T_121, T_145]
  split
  · rename_i h0
    simp only [at_, h0, if_true]
  · rename_i h0
    have hdl : deep.length = l.length := by omega
    refine loop_rule (ι := Nat) (S := fun i => ⟨[(0, .int .u32 b), (1, .fz (l.map k95.enc)), (2, .fz (deep.map (Cd.int .i64).enc)), (12, .int .i64 l.length), (13, .int .i64 i)], []⟩) (m := fun i => l.length + 1 - i)
      (I := fun i => i ≤ l.length ∧ atGo b (l.drop i) (deep.drop i) = at_ b l deep) ?_ 0 _ ⟨by omega, by simp [at_, h0]⟩ rfl
    rintro i ⟨hi, hg⟩
    by_cases hlt : i < l.length
    · have hx : l[i]? = some l[i] := List.getElem?_eq_getElem hlt
      have hd : deep[i]? = some (deep[i]'(by omega)) := List.getElem?_eq_getElem (by omega)
      rw [atGo_drop hlt (by omega)] at hg
      simp only [go_sem, T_3, T_4, T_5, T_9, T_22, T_42, T_51, T_69, T_90, T_91, T_93, T_95, T_96, T_98, T_100, T_112, T_121, T_145, all95, hlt, hx, hd, k95_enc, wrap_i64s (show i < 1000000000000000000 by omega)]
      split
      · rename_i hb
        rw [← hg, if_pos hb]
      · rename_i hb
        rw [if_neg hb] at hg
        exact ⟨i + 1, ⟨by omega, hg⟩, by simp only; omega, rfl⟩
    · rw [List.drop_eq_nil_of_le (show l.length ≤ i by omega)] at hg
      simp only [go_sem, T_3, T_4, T_5, T_9, T_22, T_42, T_51, T_69, T_90, T_91, T_93, T_95, T_96, T_98, T_100, T_112, T_121, T_145, hlt]
      rw [← hg]
      rfl
theorem lim44 (a b : List S145) (ha : a.length < 1000000000000000000) : lim T fns 44 [.fz (a.map k145.enc), .fz (b.map k145.enc)] [] = some (.bool (decide (a = b)), []) := by
  refine fn_rule (fn := fn44) rfl rfl (by simp [fn44]) ?_
  unfold fn44
  simp only [Try.f44, Option.getD_some, argEnv, List.map_nil, List.length_nil]
  simp only [go_sem, T_3, T_9, T_51, T_145]
  split
  · rename_i h0
    have : a ≠ b := by rintro rfl; simp at h0
    simp [this]
  · rename_i h0
    have hlen : a.length = b.length := by simp at h0; omega
    refine loop_rule (ι := Nat) (S := fun i => ⟨[(0, .fz (a.map k145.enc)), (1, .fz (b.map k145.enc)), (12, .int .i64 a.length), (13, .int .i64 i)], []⟩) (m := fun i => a.length + 1 - i)
      (I := fun i => i ≤ a.length ∧ a.take i = b.take i) ?_ 0 _ ⟨by omega, by simp⟩ rfl
    rintro i ⟨hi, hg⟩
    by_cases hlt : i < a.length
    · have hx : a[i]? = some a[i] := List.getElem?_eq_getElem hlt
      have hd : b[i]? = some (b[i]'(by omega)) := List.getElem?_eq_getElem (by omega)
      simp only [go_sem, T_3, T_9, T_51, T_145, all145, hlt, hx, hd, k145_enc, eq145, wrap_i64s (show i < 1000000000000000000 by omega)]
      split
      · rename_i he
        have : a ≠ b := by
          rintro rfl
          simp at he
        simp [this]
      · rename_i he
        exact ⟨i + 1, ⟨by omega, take_eq_step hg hlt (by omega) (by simpa using he)⟩, by simp only; omega, rfl⟩
    · simp only [go_sem, T_3, T_9, T_51, T_145, hlt]
      simp [take_eq_len hlen hg (by omega)]
theorem lim137 (a b : List S121) (ha : a.length < 1000000000000000000) : lim T fns 137 [.fz (a.map k121.enc), .fz (b.map k121.enc)] [] = some (.bool (decide (a = b)), []) := by
  refine fn_rule (fn := fn137) rfl rfl (by simp [fn137]) ?_
  unfold fn137
  simp only [Try.f137, Option.getD_some, argEnv, List.map_nil, List.length_nil]
  simp only [go_sem, T_3, T_5, T_9, T_42, T_91, T_96, T_121]
  split
  · rename_i h0
    have : a ≠ b := by rintro rfl; simp at h0
    simp [this]
  · rename_i h0
    have hlen : a.length = b.length := by simp at h0; omega
    refine loop_rule (ι := Nat) (S := fun i => ⟨[(0, .fz (a.map k121.enc)), (1, .fz (b.map k121.enc)), (12, .int .i64 a.length), (13, .int .i64 i)], []⟩) (m := fun i => a.length + 1 - i)
      (I := fun i => i ≤ a.length ∧ a.take i = b.take i) ?_ 0 _ ⟨by omega, by simp⟩ rfl
    rintro i ⟨hi, hg⟩
    by_cases hlt : i < a.length
    · have hx : a[i]? = some a[i] := List.getElem?_eq_getElem hlt
      have hd : b[i]? = some (b[i]'(by omega)) := List.getElem?_eq_getElem (by omega)
      simp only [go_sem, T_3, T_5, T_9, T_42, T_91, T_96, T_121, all121, hlt, hx, hd, k121_enc, eq121, wrap_i64s (show i < 1000000000000000000 by omega)]
      split
      · rename_i he
        have : a ≠ b := by
          rintro rfl
          simp at he
        simp [this]
      · rename_i he
        exact ⟨i + 1, ⟨by omega, take_eq_step hg hlt (by omega) (by simpa using he)⟩, by simp only; omega, rfl⟩
    · simp only [go_sem, T_3, T_5, T_9, T_42, T_91, T_96, T_121, hlt]
      simp [take_eq_len hlen hg (by omega)]

def gotos (l : List S121) : List Int := (l.filter (fun m => decide (m.f0 = 3))).map (·.f3)
def targets (n : S93) : List Int := n.f3.map (·.f0) ++ gotos n.f4

theorem gotos_snoc (l : List S121) (i : Nat) (h : i < l.length) : gotos (l.take (i + 1)) = if l[i].f0 = 3 then gotos (l.take i) ++ [l[i].f3] else gotos (l.take i) := by
  unfold gotos
  rw [List.take_succ_eq_append_getElem h, List.filter_append, List.map_append]
  by_cases e : l[i].f0 = 3 <;> simp [e]

theorem lim67 (n : S93) (h3 : n.f3.length < 1000000000000) (h4 : n.f4.length < 1000000000000) : lim T fns 67 [.agg (k93.enc n)] [] = some (.fz ((targets n).map (Cd.int .u32).enc), []) := by
  refine fn_rule (fn := fn67) rfl rfl (by simp [fn67]) ?_
  unfold fn67
  simp only [Try.f67, Option.getD_some, argEnv, List.map_nil, List.length_nil]
  simp only [go_sem, T_1, T_3, T_4, T_5, T_9, T_42, T_51, T_69, T_76, T_90, T_91, T_93, T_96, T_98, T_100, T_121, T_145, k93_enc]
  refine loop_rule (ι := Nat × List Int) (S := fun p => ⟨[(1, .ptr 0 0 0), (3, .ms 1 1 0 p.2.length none), (9, .int .i64 n.f3.length), (10, .int .i64 p.1)], [some (.buf 5 [k93.enc n] false true), some (.buf 1 (p.2.map (Cd.int .u32).enc) false true)]⟩)
    (m := fun p => n.f3.length + 1 - p.1) (I := fun p => p.1 ≤ n.f3.length ∧ p.2 = (n.f3.take p.1).map (·.f0)) ?_ (0, []) _ ⟨by simp, by simp⟩ rfl
  rintro ⟨i, out⟩ ⟨hi, ho⟩
  simp only at hi ho
  by_cases hlt : i < n.f3.length
  · have hx : n.f3[i]? = some n.f3[i] := List.getElem?_eq_getElem hlt
    have hol : out.length = i := by rw [ho]; simp; omega
    simp only [go_sem, T_1, T_3, T_4, T_5, T_9, T_42, T_51, T_69, T_76, T_90, T_91, T_93, T_96, T_98, T_100, T_121, T_145, all100, hlt, hx, k93_enc, k100_enc, wrap_i64s (show i < 1000000000000000000 by omega), show (out.length + 1) * 4 ≤ 140737488355328 by omega, show out.length + 1 ≤ 140737488355328 by omega]
    refine ⟨(i + 1, out ++ [n.f3[i].f0]), ⟨by simp only; omega, ?_⟩, by simp only; omega, by simp only [List.map_append, List.length_append]; rfl⟩
    simp only
    rw [List.take_succ_eq_append_getElem hlt, List.map_append, ho]
    rfl
  · have hall : out = n.f3.map (·.f0) := by rw [ho, List.take_of_length_le (by omega)]
    clear ho hi
    simp only [go_sem, T_1, T_3, T_4, T_5, T_9, T_42, T_51, T_69, T_76, T_90, T_91, T_93, T_96, T_98, T_100, T_121, T_145, hlt, k93_enc]
    refine loop_rule (ι := Nat × List Int) (S := fun p => ⟨[(1, .ptr 0 0 0), (3, .ms 1 1 0 p.2.length none), (25, .int .i64 n.f4.length), (26, .int .i64 p.1)], [some (.buf 5 [k93.enc n] false true), some (.buf 1 (p.2.map (Cd.int .u32).enc) false true)]⟩)
      (m := fun p => n.f4.length + 1 - p.1) (I := fun p => p.1 ≤ n.f4.length ∧ p.2 = out ++ gotos (n.f4.take p.1)) ?_ (0, out) _ ⟨by simp, by simp [gotos]⟩ rfl
    rintro ⟨i, o2⟩ ⟨hi, ho⟩
    simp only at hi ho
    by_cases hlt : i < n.f4.length
    · have hx : n.f4[i]? = some n.f4[i] := List.getElem?_eq_getElem hlt
      have hgl : (gotos (n.f4.take i)).length ≤ i := by
        unfold gotos
        rw [List.length_map]
        exact Nat.le_trans (List.length_filter_le _ _) (by simp; omega)
      have hol : o2.length ≤ n.f3.length + i := by rw [ho, hall]; simp; omega
      have hs := gotos_snoc n.f4 i hlt
      simp only [go_sem, T_1, T_3, T_4, T_5, T_9, T_42, T_51, T_69, T_76, T_90, T_91, T_93, T_96, T_98, T_100, T_121, T_145, all121, hlt, hx, k93_enc, k121_enc, wrap_i64s (show i < 1000000000000000000 by omega), show (o2.length + 1) * 4 ≤ 140737488355328 by omega, show o2.length + 1 ≤ 140737488355328 by omega]
      split
      · rename_i he
        rw [if_pos he] at hs
        refine ⟨(i + 1, o2 ++ [n.f4[i].f3]), ⟨by simp only; omega, by simp only; rw [hs, ho, List.append_assoc]⟩, by simp only; omega, by simp only [List.map_append, List.length_append]; rfl⟩
      · rename_i he
        rw [if_neg he] at hs
        refine ⟨(i + 1, o2), ⟨by simp only; omega, by simp only; rw [hs, ho]⟩, by simp only; omega, rfl⟩
    · have hall2 : o2 = targets n := by rw [ho, List.take_of_length_le (by omega), hall]; rfl
      simp only [go_sem, T_1, T_3, T_4, T_5, T_9, T_42, T_51, T_69, T_76, T_90, T_91, T_93, T_96, T_98, T_100, T_121, T_145, hlt, k93_enc]
      rw [finish_ms rfl (by simp), hall2]

def noNode : S93 := ⟨false, [], [], [], []⟩
def find (b : Int) : List S95 → Option S93
  | [] => none
  | x :: r => if x.f0 = b then some x.f1 else find b r
theorem find_drop {b : Int} {l : List S95} {i : Nat} (h : i < l.length) : find b (l.drop i) = if l[i].f0 = b then some l[i].f1 else find b (l.drop (i + 1)) := by
  rw [List.drop_eq_getElem_cons h]
  rfl

theorem lim68 (l : List S95) (b : Int) (hl : l.length < 1000000000000) : lim T fns 68 [.fz (l.map k95.enc), .int .u32 b] [] = some (.tup [.agg (k93.enc ((find b l).getD noNode)), .bool (find b l).isSome], []) := by
  refine fn_rule (fn := fn68) rfl rfl (by simp [fn68]) ?_
  unfold fn68
  simp only [Try.f68, Option.getD_some, argEnv, List.map_nil, List.length_nil]
  simp only [go_sem, T_3, T_4, T_5, T_9, T_22, T_42, T_51, T_69, T_90, T_91, T_93, T_95, T_96, T_98, T_100, T_121, T_145]
  refine loop_rule (ι := Nat) (S := fun i => ⟨[(0, .fz (l.map k95.enc)), (1, .int .u32 b), (4, .ptr 0 0 0), (8, .int .i64 l.length), (9, .int .i64 i)], [some (.buf 5 [[.bool false, .nils, .nils, .nils, .nils]] false true)]⟩)
    (m := fun i => l.length + 1 - i) (I := fun i => i ≤ l.length ∧ find b (l.drop i) = find b l) ?_ 0 _ ⟨by simp, by simp⟩ rfl
  rintro i ⟨hi, hf⟩
  by_cases hlt : i < l.length
  · have hx : l[i]? = some l[i] := List.getElem?_eq_getElem hlt
    rw [find_drop hlt] at hf
    simp only [go_sem, T_3, T_4, T_5, T_9, T_22, T_42, T_51, T_69, T_90, T_91, T_93, T_95, T_96, T_98, T_100, T_121, T_145, all95, hlt, hx, k95_enc, wrap_i64s (show i < 1000000000000000000 by omega)]
    split
    · rename_i he
      rw [if_pos he] at hf
      rw [← hf]
      rfl
    · rename_i he
      rw [if_neg he] at hf
      exact ⟨i + 1, ⟨by omega, hf⟩, by simp only; omega, rfl⟩
  · simp only [go_sem, T_3, T_4, T_5, T_9, T_22, T_42, T_51, T_69, T_90, T_91, T_93, T_95, T_96, T_98, T_100, T_121, T_145, hlt]
    rw [List.drop_eq_nil_of_le (by omega)] at hf
    rw [← hf]
    exact finish_true rfl rfl
end Go.Proofs.Ytfdemnefkfkghaa.R
/- Chapter 33's law: the same nodes, the same graphs. -/
namespace Go.Proofs.Ytfdemnefkfkghaa.R
open Go Go.Proofs
set_option linter.unusedSimpArgs false
set_option linter.unusedVariables false
set_option maxRecDepth 10000
set_option maxHeartbeats 1000000

/-- As long a list as may be. -/
def fewN (n : S93) : Prop := n.f1.length < 1000000000000 ∧ n.f2.length < 1000000000000 ∧ n.f3.length < 1000000000000 ∧ n.f4.length < 1000000000000

theorem call44 (a b : List S145) (ha : a.length < 1000000000000) (n : Nat) : callV (LX T fns) n (.clo 44 []) [.fz (a.map k145.enc), .fz (b.map k145.enc)] = .pure (.bool (decide (a = b)), []) := callV_plain (fn := fn44) rfl rfl rfl (lim44 a b (by omega)) n
theorem call137 (a b : List S121) (ha : a.length < 1000000000000) (n : Nat) : callV (LX T fns) n (.clo 137 []) [.fz (a.map k121.enc), .fz (b.map k121.enc)] = .pure (.bool (decide (a = b)), []) := callV_plain (fn := fn137) rfl rfl rfl (lim137 a b (by omega)) n

theorem lim70 (a b : S93) (ha : fewN a) : lim T fns 70 [.agg (k93.enc a), .agg (k93.enc b)] [] = some (.bool (decide (a = b)), []) := by
  obtain ⟨a1, a2, a3, a4⟩ := ha
  refine fn_rule (fn := fn70) rfl rfl (by simp [fn70]) ?_
  unfold fn70
  simp only [Try.f70, Option.getD_some, argEnv, List.map_nil, List.length_nil]
  by_cases h0 : a.f0 = b.f0
  case neg =>
    have e0 : (a.f0 == b.f0) = false := by simp [h0]
    have : a ≠ b := by rintro rfl; exact h0 rfl
    simp only [go_sem, T_3, T_4, T_5, T_9, T_42, T_51, T_69, T_90, T_91, T_93, T_96, T_98, T_100, T_121, T_145, k93_enc, e0, this]
  have e0 : (a.f0 == b.f0) = true := by simp [h0]
  by_cases h1 : a.f2.length = b.f2.length
  case neg =>
    have e1 : ((a.f2.length : Int) != (b.f2.length : Int)) = true := by simp; omega
    have : a ≠ b := by rintro rfl; exact h1 rfl
    simp only [go_sem, T_3, T_4, T_5, T_9, T_42, T_51, T_69, T_90, T_91, T_93, T_96, T_98, T_100, T_121, T_145, k93_enc, e0, e1, this]
  have e1 : ((a.f2.length : Int) != (b.f2.length : Int)) = false := by simp [h1]
  by_cases h2 : a.f3.length = b.f3.length
  case neg =>
    have e2 : ((a.f3.length : Int) != (b.f3.length : Int)) = true := by simp; omega
    have : a ≠ b := by rintro rfl; exact h2 rfl
    simp only [go_sem, T_3, T_4, T_5, T_9, T_42, T_51, T_69, T_90, T_91, T_93, T_96, T_98, T_100, T_121, T_145, k93_enc, e0, e1, e2, this]
  have e2 : ((a.f3.length : Int) != (b.f3.length : Int)) = false := by simp [h2]
  simp only [go_sem, T_3, T_4, T_5, T_9, T_42, T_51, T_69, T_90, T_91, T_93, T_96, T_98, T_100, T_121, T_145, k93_enc, e0, e1, e2]
  refine loop_rule (ι := Nat) (S := fun i => ⟨[(2, .ptr 0 0 0), (3, .ptr 1 0 0), (32, .int .i64 a.f2.length), (33, .int .i64 i)], [some (.buf 5 [k93.enc a] false true), some (.buf 5 [k93.enc b] false true)]⟩)
    (m := fun i => a.f2.length + 1 - i) (I := fun i => i ≤ a.f2.length ∧ a.f2.take i = b.f2.take i) ?_ 0 _ ⟨by simp, by simp⟩ rfl
  rintro i ⟨hi, hg⟩
  by_cases hlt : i < a.f2.length
  · have hx : a.f2[i]? = some a.f2[i] := List.getElem?_eq_getElem hlt
    have hy : b.f2[i]? = some (b.f2[i]'(by omega)) := List.getElem?_eq_getElem (by omega)
    simp only [go_sem, T_3, T_4, T_5, T_9, T_42, T_51, T_69, T_90, T_91, T_93, T_96, T_98, T_100, T_121, T_145, hlt, hx, hy, k93_enc, ba_toList, wrap_i64s (show i < 1000000000000000000 by omega)]
    split
    · rename_i he
      have : a ≠ b := by
        rintro rfl
        simp at he
      simp [this]
    · rename_i he
      exact ⟨i + 1, ⟨by omega, take_eq_step hg hlt (by omega) (by simpa using he)⟩, by simp only; omega, rfl⟩
  have e3 := take_eq_len h1 hg (by omega)
  simp only [go_sem, T_3, T_4, T_5, T_9, T_42, T_51, T_69, T_90, T_91, T_93, T_96, T_98, T_100, T_121, T_145, hlt, k93_enc]
  refine loop_rule (ι := Nat) (S := fun i => ⟨[(2, .ptr 0 0 0), (3, .ptr 1 0 0), (50, .int .i64 a.f3.length), (51, .int .i64 i)], [some (.buf 5 [k93.enc a] false true), some (.buf 5 [k93.enc b] false true)]⟩)
    (m := fun i => a.f3.length + 1 - i) (I := fun i => i ≤ a.f3.length ∧ a.f3.take i = b.f3.take i) ?_ 0 _ ⟨by simp, by simp⟩ rfl
  clear hi hg hlt
  rintro i ⟨hi, hg⟩
  by_cases hlt : i < a.f3.length
  · have hx : a.f3[i]? = some a.f3[i] := List.getElem?_eq_getElem hlt
    have hy : b.f3[i]? = some (b.f3[i]'(by omega)) := List.getElem?_eq_getElem (by omega)
    simp only [go_sem, T_3, T_4, T_5, T_9, T_42, T_51, T_69, T_90, T_91, T_93, T_96, T_98, T_100, T_121, T_145, hlt, hx, hy, all100, k93_enc, k100_enc, eq100, wrap_i64s (show i < 1000000000000000000 by omega)]
    split
    · rename_i he
      have : a ≠ b := by
        rintro rfl
        simp at he
      simp [this]
    · rename_i he
      exact ⟨i + 1, ⟨by omega, take_eq_step hg hlt (by omega) (by simpa using he)⟩, by simp only; omega, rfl⟩
  have e4 := take_eq_len h2 hg (by omega)
  have eab : (a = b) ↔ (a.f1 = b.f1 ∧ a.f4 = b.f4) := by
    obtain ⟨x0, x1, x2, x3, x4⟩ := a
    obtain ⟨y0, y1, y2, y3, y4⟩ := b
    simp_all
  by_cases h5 : a.f1 = b.f1
  · have e5 : decide (a.f1 = b.f1) = true := by simp [h5]
    simp only [go_sem, T_3, T_4, T_5, T_9, T_42, T_51, T_69, T_90, T_91, T_93, T_96, T_98, T_100, T_121, T_145, hlt, k93_enc, call44 a.f1 b.f1 a1, call137 a.f4 b.f4 a4, e5]
    simp [eab, h5]
  · have e5 : decide (a.f1 = b.f1) = false := by simp [h5]
    simp only [go_sem, T_3, T_4, T_5, T_9, T_42, T_51, T_69, T_90, T_91, T_93, T_96, T_98, T_100, T_121, T_145, hlt, k93_enc, call44 a.f1 b.f1 a1, call137 a.f4 b.f4 a4, e5]
    simp [eab, h5]
theorem call70 (a b : S93) (ha : fewN a) (n : Nat) : callV (LX T fns) n (.clo 70 []) [.agg (k93.enc a), .agg (k93.enc b)] = .pure (.bool (decide (a = b)), []) := callV_plain (fn := fn70) rfl rfl rfl (lim70 a b ha) n

/-- As many items as may be. -/
def fewL (l : List S95) : Prop := l.length < 1000000000000 ∧ ∀ x ∈ l, fewN x.f1

theorem lim18 (a b : List S95) (ha : fewL a) : lim T fns 18 [.fz (a.map k95.enc), .fz (b.map k95.enc)] [] = some (.bool (decide (a = b)), []) := by
  obtain ⟨ha, hn⟩ := ha
  refine fn_rule (fn := fn18) rfl rfl (by simp [fn18]) ?_
  unfold fn18
  simp only [Try.f18, Option.getD_some, argEnv, List.map_nil, List.length_nil]
  simp only [go_sem, T_3, T_4, T_5, T_9, T_22, T_42, T_51, T_69, T_90, T_91, T_93, T_95, T_96, T_98, T_100, T_121, T_145]
  split
  · rename_i h0
    have : a ≠ b := by rintro rfl; simp at h0
    simp [this]
  · rename_i h0
    have hlen : a.length = b.length := by simp at h0; omega
    refine loop_rule (ι := Nat) (S := fun i => ⟨[(0, .fz (a.map k95.enc)), (1, .fz (b.map k95.enc)), (12, .int .i64 a.length), (13, .int .i64 i)], []⟩) (m := fun i => a.length + 1 - i)
      (I := fun i => i ≤ a.length ∧ a.take i = b.take i) ?_ 0 _ ⟨by omega, by simp⟩ rfl
    rintro i ⟨hi, hg⟩
    by_cases hlt : i < a.length
    · have hx : a[i]? = some a[i] := List.getElem?_eq_getElem hlt
      have hd : b[i]? = some (b[i]'(by omega)) := List.getElem?_eq_getElem (by omega)
      have hc := call70 a[i].f1 (b[i]'(by omega)).f1 (hn _ (List.getElem_mem hlt))
      simp only [k93_enc] at hc
      have eab : (a[i] = b[i]'(by omega)) ↔ (a[i].f0 = (b[i]'(by omega)).f0 ∧ a[i].f1 = (b[i]'(by omega)).f1) := by
        generalize a[i] = x
        generalize b[i]'(by omega) = y
        obtain ⟨x0, x1⟩ := x
        obtain ⟨y0, y1⟩ := y
        simp
      by_cases h1 : a[i].f0 = (b[i]'(by omega)).f0
      · have e1 : (a[i].f0 != (b[i]'(by omega)).f0) = false := by simp [h1]
        simp only [go_sem, T_3, T_4, T_5, T_9, T_22, T_42, T_51, T_69, T_90, T_91, T_93, T_95, T_96, T_98, T_100, T_121, T_145, all95, hlt, hx, hd, k95_enc, e1, hc, wrap_i64s (show i < 1000000000000000000 by omega)]
        split
        · rename_i he
          have : a ≠ b := by
            rintro rfl
            simp at he
          simp [this]
        · rename_i he
          exact ⟨i + 1, ⟨by omega, take_eq_step hg hlt (by omega) (eab.2 ⟨h1, by simpa using he⟩)⟩, by simp only; omega, rfl⟩
      · have e1 : (a[i].f0 != (b[i]'(by omega)).f0) = true := by simp [h1]
        have : a ≠ b := by
          rintro rfl
          simp at h1
        simp only [go_sem, T_3, T_4, T_5, T_9, T_22, T_42, T_51, T_69, T_90, T_91, T_93, T_95, T_96, T_98, T_100, T_121, T_145, all95, hlt, hx, hd, k95_enc, e1, this]
    · simp only [go_sem, T_3, T_4, T_5, T_9, T_22, T_42, T_51, T_69, T_90, T_91, T_93, T_95, T_96, T_98, T_100, T_121, T_145, hlt]
      simp [take_eq_len hlen hg (by omega)]
theorem call18 (a b : List S95) (ha : fewL a) (n : Nat) : callV (LX T fns) n (.clo 18 []) [.fz (a.map k95.enc), .fz (b.map k95.enc)] = .pure (.bool (decide (a = b)), []) := callV_plain (fn := fn18) rfl rfl rfl (lim18 a b ha) n
end Go.Proofs.Ytfdemnefkfkghaa.R
/- Chapter 33's law: the program's targets. -/
namespace Go.Proofs.Ytfdemnefkfkghaa.R
open Go Go.Proofs
set_option linter.unusedSimpArgs false
set_option linter.unusedVariables false
set_option maxRecDepth 10000
set_option maxHeartbeats 1000000

theorem gotos_le (l : List S121) : (gotos l).length ≤ l.length := by
  unfold gotos
  rw [List.length_map]
  exact List.length_filter_le _ _

theorem lim125 (l : List S121) (hl : l.length < 1000000000000) : lim T fns 125 [.fz (l.map k121.enc)] [] = some (.fz ((gotos l).map (Cd.int .u32).enc), []) := by
  refine fn_rule (fn := fn125) rfl rfl (by simp [fn125]) ?_
  unfold fn125
  simp only [Try.f125, Option.getD_some, argEnv, List.map_nil, List.length_nil]
  simp only [go_sem, T_1, T_3, T_5, T_9, T_42, T_76, T_91, T_96, T_121]
  refine loop_rule (ι := Nat × List Int) (S := fun p => ⟨[(3, .ms 0 1 0 p.2.length none), (6, .fz (l.map k121.enc)), (7, .int .i64 l.length), (8, .int .i64 p.1)], [some (.buf 1 (p.2.map (Cd.int .u32).enc) false true)]⟩)
    (m := fun p => l.length + 1 - p.1) (I := fun p => p.1 ≤ l.length ∧ p.2 = gotos (l.take p.1)) ?_ (0, []) _ ⟨by simp, by simp [gotos]⟩ rfl
  rintro ⟨i, o2⟩ ⟨hi, ho⟩
  simp only at hi ho
  by_cases hlt : i < l.length
  · have hx : l[i]? = some l[i] := List.getElem?_eq_getElem hlt
    have hol : o2.length ≤ i := by
      rw [ho]
      exact Nat.le_trans (gotos_le _) (by simp; omega)
    have hs := gotos_snoc l i hlt
    simp only [go_sem, T_1, T_3, T_5, T_9, T_42, T_76, T_91, T_96, T_121, all121, hlt, hx, k121_enc, wrap_i64s (show i < 1000000000000000000 by omega), show (o2.length + 1) * 4 ≤ 140737488355328 by omega, show o2.length + 1 ≤ 140737488355328 by omega]
    split
    · rename_i he
      rw [if_pos he] at hs
      refine ⟨(i + 1, o2 ++ [l[i].f3]), ⟨by simp only; omega, by simp only; rw [hs, ho]⟩, by simp only; omega, by simp only [List.map_append, List.length_append]; rfl⟩
    · rename_i he
      rw [if_neg he] at hs
      refine ⟨(i + 1, o2), ⟨by simp only; omega, by simp only; rw [hs, ho]⟩, by simp only; omega, rfl⟩
  · simp only [go_sem, T_1, T_3, T_5, T_9, T_42, T_76, T_91, T_96, T_121, hlt]
    rw [finish_ms rfl (by simp), ho, List.take_of_length_le (by omega)]
theorem call125 (l : List S121) (hl : l.length < 1000000000000) (n : Nat) : callV (LX T fns) n (.clo 125 []) [.fz (l.map k121.enc)] = .pure (.fz ((gotos l).map (Cd.int .u32).enc), []) := callV_plain (fn := fn125) rfl rfl rfl (lim125 l hl) n

theorem lim131 (n : S93) (hn : fewN n) : lim T fns 131 [.agg (k93.enc n)] [] = some (.fz ((targets n).map (Cd.int .u32).enc), []) := by
  obtain ⟨_, _, h3, h4⟩ := hn
  refine fn_rule (fn := fn131) rfl rfl (by simp [fn131]) ?_
  unfold fn131
  simp only [Try.f131, Option.getD_some, argEnv, List.map_nil, List.length_nil]
  simp only [go_sem, T_1, T_3, T_4, T_5, T_9, T_42, T_51, T_69, T_76, T_90, T_91, T_93, T_96, T_98, T_100, T_121, T_145, k93_enc]
  refine loop_rule (ι := Nat × List Int) (S := fun p => ⟨[(1, .ptr 0 0 0), (3, .ms 1 1 0 p.2.length none), (7, .fz (n.f3.map k100.enc)), (8, .int .i64 n.f3.length), (9, .int .i64 p.1)], [some (.buf 5 [k93.enc n] false true), some (.buf 1 (p.2.map (Cd.int .u32).enc) false true)]⟩)
    (m := fun p => n.f3.length + 1 - p.1) (I := fun p => p.1 ≤ n.f3.length ∧ p.2 = (n.f3.take p.1).map (·.f0)) ?_ (0, []) _ ⟨by simp, by simp⟩ rfl
  rintro ⟨i, out⟩ ⟨hi, ho⟩
  simp only at hi ho
  by_cases hlt : i < n.f3.length
  · have hx : n.f3[i]? = some n.f3[i] := List.getElem?_eq_getElem hlt
    have hol : out.length = i := by rw [ho]; simp; omega
    simp only [go_sem, T_1, T_3, T_4, T_5, T_9, T_42, T_51, T_69, T_76, T_90, T_91, T_93, T_96, T_98, T_100, T_121, T_145, all100, hlt, hx, k93_enc, k100_enc, wrap_i64s (show i < 1000000000000000000 by omega), show (out.length + 1) * 4 ≤ 140737488355328 by omega, show out.length + 1 ≤ 140737488355328 by omega]
    refine ⟨(i + 1, out ++ [n.f3[i].f0]), ⟨by simp only; omega, ?_⟩, by simp only; omega, by simp only [List.map_append, List.length_append]; rfl⟩
    simp only
    rw [List.take_succ_eq_append_getElem hlt, List.map_append, ho]
    rfl
  · have hall : out = n.f3.map (·.f0) := by rw [ho, List.take_of_length_le (by omega)]
    have hol : out.length = n.f3.length := by rw [hall]; simp
    have hgl := gotos_le n.f4
    by_cases hg : (gotos n.f4).length = 0
    · have hg0 : gotos n.f4 = [] := List.eq_nil_of_length_eq_zero hg
      simp only [go_sem, T_1, T_3, T_4, T_5, T_9, T_42, T_51, T_69, T_76, T_90, T_91, T_93, T_96, T_98, T_100, T_121, T_145, hlt, k93_enc, call125 n.f4 h4, hg0]
      rw [finish_ms rfl (by simp)]
      simp [targets, hg0, hall]
    · simp only [go_sem, T_1, T_3, T_4, T_5, T_9, T_42, T_51, T_69, T_76, T_90, T_91, T_93, T_96, T_98, T_100, T_121, T_145, hlt, k93_enc, call125 n.f4 h4, append_many, appN_some, hg, show (out.length + (gotos n.f4).length) * 4 ≤ 140737488355328 by omega, show out.length + (gotos n.f4).length ≤ 140737488355328 by omega]
      rw [finish_ms rfl (by simp)]
      simp [targets, hall]
theorem call131 (n : S93) (hn : fewN n) (k : Nat) : callV (LX T fns) k (.clo 131 []) [.agg (k93.enc n)] = .pure (.fz ((targets n).map (Cd.int .u32).enc), []) := callV_plain (fn := fn131) rfl rfl rfl (lim131 n hn) k
theorem call67 (n : S93) (hn : fewN n) (k : Nat) : callV (LX T fns) k (.clo 67 []) [.agg (k93.enc n)] = .pure (.fz ((targets n).map (Cd.int .u32).enc), []) := callV_plain (fn := fn67) rfl rfl rfl (lim67 n hn.2.2.1 hn.2.2.2) k
theorem call68 (l : List S95) (b : Int) (hl : fewL l) (k : Nat) : callV (LX T fns) k (.clo 68 []) [.fz (l.map k95.enc), .int .u32 b] = .pure (.tup [.agg (k93.enc ((find b l).getD noNode)), .bool (find b l).isSome], []) := callV_plain (fn := fn68) rfl rfl rfl (lim68 l b hl.1) k
theorem call135 (b : Int) (l : List S95) (deep : List Int) (hl : fewL l) (hd : deep.length = 0 ∨ deep.length = l.length) (k : Nat) : callV (LX T fns) k (.clo 135 []) [.int .u32 b, .fz (l.map k95.enc), .fz (deep.map (Cd.int .i64).enc)] = .pure (.int .u16 (at_ b l deep), []) :=
  callV_plain (fn := fn135) rfl rfl rfl (lim135 b l deep (by have := hl.1; omega) hd) k
end Go.Proofs.Ytfdemnefkfkghaa.R
