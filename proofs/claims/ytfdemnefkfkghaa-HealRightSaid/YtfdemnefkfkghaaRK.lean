/- Every operation. -/
import Derived.Test.YtfdemnefkfkghaaRJ
namespace Go.Proofs.Ytfdemnefkfkghaa.R
set_option linter.unusedVariables false
set_option linter.unusedSimpArgs false
open Go Go.RowKit

section
variable {P : Program} {T : TT} (hT : TOK P T) {B : Base} {F : Froz} {w : World} {β : Place} {H : Heap} {l l' : List Nat} {v : V} {u : Upd}

theorem call_ok {g : FuncId} {fn : Fun} (hfn : FunOK P g fn) (hI : Inv B β F H w) {n : Nat} {pfz : List Bool} {args : List V} {cargs : Array Value} (hargs : RelAll F (cl w) β args cargs)
    (h : (callR fn pfz n args).run H l = some ((v, u), l')) (hfresh : ∀ p ∈ u, n ≤ p.1 → β p.1 = none) :
    Calls P g cargs w fun e w' => ∃ cv β' F', e = .returned cv ∧ Left n B β F H w v u cv w' β' F' := by
  unfold callR at h
  obtain ⟨args', u0, l1, h1, h2, h3⟩ := frzArgs_ok hI args pfz _ l _ cargs h hargs
  obtain ⟨obs, l2, h4, h5, h6⟩ := collect_ok 4096 _ [] _ l1 _ h1 (by simp) (by simp)
  exact with_ok hfn hI h3 h2 h5 h6 h4 hfresh

theorem len_ok (hI : Inv B β F H w) {x : V} {cx : Value} {t ty : TypeId} (h : (lenR x).run H l = some ((v, u), l')) (hx : Rel F (cl w) β x cx) (ht : ∃ d, P.underlying t = some d ∧ (match x with | .str _ => d = .string | .nilm | .map _ => ∃ k e, d = .map k e | _ => ∃ e, d = .slice e)) :
    ∃ cv, (Builtin.len_ #[t] ty #[cx]).run P w = .ok cv w ∧ Rel F (cl w) β v cv ∧ u = [] := by
  obtain ⟨d, hd, hk⟩ := ht
  unfold lenR at h
  split at h
  · simp only [Rd.run, Option.some.injEq, Prod.mk.injEq] at h
    obtain ⟨⟨rfl, rfl⟩, _⟩ := h
    obtain ⟨e, rfl⟩ := hk
    cases hx
    exact ⟨_, by simp [Builtin.len_, run_underlying hd, goInt], .int _ _ _, rfl⟩
  · simp only [Rd.run, Option.some.injEq, Prod.mk.injEq] at h
    obtain ⟨⟨rfl, rfl⟩, _⟩ := h
    obtain ⟨e, rfl⟩ := hk
    cases hx with
    | fz0 => exact ⟨_, by simp [Builtin.len_, run_underlying hd, goInt], .int _ _ _, rfl⟩
    | fz => exact ⟨_, by simp [Builtin.len_, run_underlying hd, goInt], .int _ _ _, rfl⟩
  · simp only [Rd.run, Option.some.injEq, Prod.mk.injEq] at h
    obtain ⟨⟨rfl, rfl⟩, _⟩ := h
    obtain ⟨e, rfl⟩ := hk
    cases hx with
    | ms0 => exact ⟨_, by simp [Builtin.len_, run_underlying hd, goInt], .int _ _ _, rfl⟩
    | ms => exact ⟨_, by simp [Builtin.len_, run_underlying hd, goInt], .int _ _ _, rfl⟩
  · simp only [Rd.run, Option.some.injEq, Prod.mk.injEq] at h
    obtain ⟨⟨rfl, rfl⟩, _⟩ := h
    subst hk
    cases hx
    exact ⟨_, by simp [Builtin.len_, run_underlying hd, goInt], .int _ _ _, rfl⟩
  · simp only [Rd.run, Option.some.injEq, Prod.mk.injEq] at h
    obtain ⟨⟨rfl, rfl⟩, _⟩ := h
    obtain ⟨k, e, rfl⟩ := hk
    cases hx
    exact ⟨_, by simp [Builtin.len_, run_underlying hd, goInt], .int _ _ _, rfl⟩
  · rename_i i
    simp only [Rd.run] at h
    split at h
    · rename_i ob hob
      split at h
      · simp only [Rd.run, Option.some.injEq, Prod.mk.injEq] at h
        obtain ⟨⟨rfl, rfl⟩, _⟩ := h
        obtain ⟨k, e, rfl⟩ := hk
        cases hx with
        | map _ _ b hb =>
          obtain ⟨lc, hl, ho⟩ := hI.obs _ _ hob
          rw [hb] at hl
          cases hl
          cases ho with
          | mp _ _ _ ces clock hw hs =>
            exact ⟨_, by simp [Builtin.len_, run_underlying hd, MapKept.run_getObj_map hw, goInt, hs], .int _ _ _, rfl⟩
      · simp [Rd.run] at h
    · cases h
  · simp [Rd.run] at h

include hT in
theorem lenB_ok (hI : Inv B β F H w) {x : V} {cx : Value} {t ty : TypeId} (h : (lenB T t x).run H l = some ((v, u), l')) (hx : Rel F (cl w) β x cx) :
    ∃ cv, (Builtin.len_ #[t] ty #[cx]).run P w = .ok cv w ∧ Rel F (cl w) β v cv ∧ u = [] := by
  unfold lenB at h
  split at h
  · rename_i ti hti
    split at h
    · rename_i hk
      have ht := hT.told hti
      refine len_ok hI h hx ?_
      unfold lenKd at hk
      split at hk
      · exact ⟨_, ht.str ‹_›, rfl⟩
      · exact ⟨_, ht.slice ‹_›, _, rfl⟩
      · exact ⟨_, ht.slice ‹_›, _, rfl⟩
      · exact ⟨_, ht.slice ‹_›, _, rfl⟩
      · exact ⟨_, ht.map ‹_›, _, _, rfl⟩
      · exact ⟨_, ht.map ‹_›, _, _, rfl⟩
      · cases hk
    · simp [Rd.run] at h
  · simp [Rd.run] at h

include hT in
theorem capB_ok {x : V} {cx : Value} {t ty : TypeId} (h : (capB T t x).run H l = some ((v, u), l')) (hx : Rel F (cl w) β x cx) :
    ∃ cv, (Builtin.cap_ #[t] ty #[cx]).run P w = .ok cv w ∧ Rel F (cl w) β v cv ∧ u = [] := by
  unfold capB at h
  split at h
  · rename_i ti hti
    have ht := hT.told hti
    split at h
    · have hu := ht.slice ‹_›
      simp only [Rd.run, Option.some.injEq, Prod.mk.injEq] at h
      obtain ⟨⟨rfl, rfl⟩, _⟩ := h
      cases hx with
      | ms0 _ _ _ _ hb hc =>
        have := hc _ rfl
        subst this
        exact ⟨_, by simp [Builtin.cap_, run_underlying hu, goInt], .int _ _ _, rfl⟩
      | ms _ _ _ _ _ _ b C cc o hb h1 h2 h3 =>
        have := h3 _ rfl
        subst this
        exact ⟨_, by simp [Builtin.cap_, run_underlying hu, goInt], .int _ _ _, rfl⟩
    · have hu := ht.slice ‹_›
      simp only [Rd.run, Option.some.injEq, Prod.mk.injEq] at h
      obtain ⟨⟨rfl, rfl⟩, _⟩ := h
      cases hx
      exact ⟨_, by simp [Builtin.cap_, run_underlying hu, goInt], .int _ _ _, rfl⟩
    · simp [Rd.run] at h
  · simp [Rd.run] at h

include hT in
theorem appendB_ok {n : Nat} (hI : Inv B β F H w) (hn : β n = none) {s x : V} {cs cx : Value} {t t' ty : TypeId} (h : (appendB T n t t' s x).run H l = some ((v, u), l')) (hs : Rel F (cl w) β s cs) (hx : Rel F (cl w) β x cx) :
    ∃ cv w' β' F', (Builtin.append_ #[t, t'] ty #[cs, cx]).run P w = .ok cv w' ∧ Left n B β F H w v u cv w' β' F' := by
  unfold appendB at h
  split at h
  · rename_i a b ha hb
    split at h
    · rename_i e e' hka hkb
      have hu := (hT.told ha).slice hka
      have hu' := (hT.told hb).slice hkb
      split at h
      · rename_i ti hti
        split at h
        · simp [Rd.run] at h
        · rename_i h0
          obtain ⟨new, p, l1, news, h1, h2⟩ := rows_ok hI hu' (by omega) h hx
          exact append_ok hT hti (by omega) hu hI hn h2 h1 hs
      · simp [Rd.run] at h
    · simp [Rd.run] at h
  · simp [Rd.run] at h

/-- What is asked of the functions. -/
structure FnsOK (P : Program) (fns : FuncId → Option AFn) : Prop where
  there : ∀ g fn, fns g = some fn → ∃ f : Func, P.funcs[g]? = some f ∧ f.body.isNone = false ∧ (f.name == "runtime.NumGoroutine") = false

theorem upon_of_calls {n : Nat} {o : Oper} {a : Act} {next : Act → World → Prop} {Q : Exit → Act → World → Prop} {g : FuncId} {args : Array Value} (h : (execOp a.eval o).run P w = .ok (.enter g args) w)
    (hc : Calls P g args w fun e w' => ∃ cv β' F', e = .returned cv ∧ Left n B β F H w v u cv w' β' F') (hn : ∀ cv w' β' F', Left n B β F H w v u cv w' β' F' → next (a.put o.dst cv) w') : o.wp P a w next Q := by
  unfold Oper.wp
  rw [h, Oper.upon_enter]
  refine hc.mono ?_
  rintro e w' ⟨cv, β', F', rfl, hl⟩
  exact hn cv w' β' F' hl

theorem optRel {e : Env} {a : Act} (he : EnvRel F w β e a.tmps) (x : Option Operand) : OptRel F (cl w) β (x.map (ev e)) (x.map a.eval) := by
  cases x with
  | none => trivial
  | some x => exact ev_rel he x

theorem partsRel {e : Env} {a : Act} (he : EnvRel F w β e a.tmps) : ∀ (ps : List (Nat × Operand)), PartsRel F (cl w) β (parts e ps) (ps.map fun p => (p.1, a.eval p.2))
  | [] => trivial
  | (i, x) :: r => ⟨rfl, ev_rel he x, partsRel he r⟩

theorem arr_one {A : Array Value} (h : A.size = 1) : A = #[A.getD 0 undef] := by
  obtain ⟨l⟩ := A
  match l, h with
  | [x], _ => rfl
theorem arr_two {A : Array Value} (h : A.size = 2) : A = #[A.getD 0 undef, A.getD 1 undef] := by
  obtain ⟨l⟩ := A
  match l, h with
  | [x, y], _ => rfl

/-- ONE OPERATION. -/
theorem aop_ok (hT : TOK P T) {cx : Cx} (hcx : cx.T = T) (hfns : FnsOK P cx.fns) (hcall : ∀ g fn, cx.fns g = some fn → FunOK P g (cx.call g)) {n : Nat} {e : Env} {o : Oper} {a : Act} (hI : Inv B β F H w) (hE : EnvRel F w β e a.tmps) (hn : β n = none)
    (h : (aop cx n e o).run H l = some ((v, u), l')) (hfresh : ∀ p ∈ u, n ≤ p.1 → β p.1 = none) {next : Act → World → Prop} {Q : Exit → Act → World → Prop} (hnext : ∀ cv w' β' F', Left n B β F H w v u cv w' β' F' → next (a.put o.dst cv) w') : o.wp P a w next Q := by
  subst hcx
  have quiet : ∀ {cv : Value} {s : Sem Value}, execOp a.eval o = (do pure (.value (← s))) → (∃ cw, s.run P w = .ok cw w ∧ Rel F (cl w) β v cw ∧ u = []) → o.wp P a w next Q := by
    rintro _ s hs ⟨cw, h1, h2, rfl⟩
    exact wp_value (by rw [hs]; simp [h1]) (hnext cw w β F (Left.quiet hI h2))
  have loud : ∀ {s : Sem Value}, execOp a.eval o = (do pure (.value (← s))) → (∃ cv w' β' F', s.run P w = .ok cv w' ∧ Left n B β F H w v u cv w' β' F') → o.wp P a w next Q := by
    rintro s hs ⟨cw, w', β', F', h1, h2⟩
    exact wp_value (by rw [hs]; simp [h1]) (hnext cw w' β' F' h2)
  have skips : ∀ {s : Sem Unit}, execOp a.eval o = (do s; pure .skip) → (∃ w' β' F', s.run P w = .ok () w' ∧ Left n B β F H w v u undef w' β' F') → o.wp P a w next Q := by
    rintro s hs ⟨w', β', F', h1, h2⟩
    exact wp_skips (by rw [hs]; simp [h1]) (hnext undef w' β' F' h2)
  have okq : ∀ {x : Option V} {s : Sem Value}, (ok x).run H l = some ((v, u), l') → execOp a.eval o = (do pure (.value (← s))) → (x = some v → ∃ cw, s.run P w = .ok cw w ∧ Rel F (cl w) β v cw) → o.wp P a w next Q := by
    intro x s hx hs hh
    obtain ⟨h1, rfl, _⟩ := ok_run hx
    obtain ⟨cw, h2, h3⟩ := hh h1
    exact quiet (cv := undef) hs ⟨cw, h2, h3, rfl⟩
  unfold aop at h
  have hx := fun x => ev_rel hE x
  split at h
  · -- move
    rename_i x hop
    simp only [Rd.run, Option.some.injEq, Prod.mk.injEq] at h
    obtain ⟨⟨rfl, rfl⟩, _⟩ := h
    exact wp_value (by unfold execOp; simp only [hop]; rfl) (hnext _ w β F (Left.quiet hI (hx x)))
  · rename_i x hop
    simp only [Rd.run, Option.some.injEq, Prod.mk.injEq] at h
    obtain ⟨⟨rfl, rfl⟩, _⟩ := h
    exact wp_value (by unfold execOp; simp only [hop]; rfl) (hnext _ w β F (Left.quiet hI (hx x)))
  · rename_i c x y hop
    obtain ⟨d, h1, h2, rfl⟩ := pick_ok h (hx c) (hx x) (hx y)
    exact wp_value (by unfold execOp; simp only [hop, h1]; simp [asBool]) (hnext _ w β F (Left.quiet hI h2))
  · rename_i t hop
    exact loud (by unfold execOp; simp only [hop]) (alloc_ok hT hI h hn)
  · rename_i t x hop
    exact loud (by unfold execOp; simp only [hop]) (box_ok (t := t) hI h (hx x) hn)
  · rename_i t x hop
    exact quiet (cv := undef) (by unfold execOp; simp only [hop]) (load_ok hT hI h (hx x))
  · rename_i t x y hop
    exact skips (by unfold execOp; simp only [hop]) (store_ok hT hI h (hx x) (hx y))
  · rename_i t ps hop
    exact quiet (cv := undef) (by unfold execOp; simp only [hop]) (build_ok hT (cps := ps.map fun (i, x) => (i, a.eval x)) h (by rw [Array.toList_map]; exact partsRel hE ps.toList))
  · rename_i t len ps hop
    exact loud (by unfold execOp; simp only [hop]) (buildSlice_ok hT (cps := ps.map fun (i, x) => (i, a.eval x)) hI h (by rw [Array.toList_map]; exact partsRel hE ps.toList) hn)
  · rename_i x hop
    obtain ⟨rfl, rfl, h1⟩ := nilCheck_ok h (hx x)
    refine wp_value (cv := a.eval x) (w' := w) ?_ (hnext _ w β F (Left.quiet hI (hx x)))
    unfold execOp
    simp only [hop]
    rcases h1 with ⟨b, hb⟩ | ⟨f, cs, hb⟩ <;> rw [hb] <;> rfl
  · rename_i op t x y yt hop
    exact okq h (by unfold execOp; simp only [hop]) fun hb => bin_ok hT hb (hx x) (hx y) x y
  · rename_i op t x hop
    exact okq h (by unfold execOp; simp only [hop]) fun hb => un_ok hb (hx x)
  · rename_i src dst x hop
    exact okq h (by unfold execOp; simp only [hop]) fun hb => conv_ok hT hb (hx x)
  · rename_i f first caps hop
    split at h
    · rename_i h0
      simp only [Rd.run, Option.some.injEq, Prod.mk.injEq] at h
      obtain ⟨⟨rfl, rfl⟩, _⟩ := h
      have hf : first = #[] := Array.eq_empty_of_size_eq_zero h0
      subst hf
      have hev := evs_rel hE caps
      exact wp_value (cv := .func (.func f) #[] (caps.map a.eval)) (by unfold execOp; simp only [hop]; simp [Instr.makeFunc]) (hnext _ w β F (Left.quiet hI (.clo _ _ _ _ hev.size hev.at_)))
    · simp [Rd.run] at h
  · rename_i t hop
    simp only [Rd.run, Option.some.injEq, Prod.mk.injEq] at h
    obtain ⟨⟨rfl, rfl⟩, _⟩ := h
    exact loud (by unfold execOp; simp only [hop]; rfl) (makeMap_ok (t := t) hI hn)
  · rename_i t x lo hi mx hop
    split at h
    · simp [Rd.run] at h
    · rename_i hc
      refine quiet (cv := undef) (by unfold execOp; simp only [hop]) (slice_ok hT h (hx x) (optRel hE lo) (optRel hE hi) (optRel hE mx) fun hm hh => hc ?_)
      cases mx <;> cases hi <;> simp_all
  · rename_i t x f hop
    exact quiet (cv := undef) (by unfold execOp; simp only [hop]) (fieldAddr_ok hT h (hx x))
  · rename_i t x f hop
    exact quiet (cv := undef) (by unfold execOp; simp only [hop]) (field_ok hT h (hx x))
  · rename_i t x i hop
    exact quiet (cv := undef) (by unfold execOp; simp only [hop]) (indexAddr_ok hT h (hx x) (hx i))
  · rename_i t x i hop
    exact quiet (cv := undef) (by unfold execOp; simp only [hop]) (index_ok hT h (hx x) (hx i))
  · rename_i t m k cok hop
    exact quiet (cv := undef) (by unfold execOp; simp only [hop]) (lookup_ok hT hI h (hx m) (hx k))
  · rename_i t m k x hop
    exact skips (by unfold execOp; simp only [hop]) (mapUpdate_ok hT hI h (hx m) (hx k) (hx x))
  · rename_i x i hop
    exact quiet (cv := undef) (by unfold execOp; simp only [hop]) (extract_ok h (hx x))
  · rename_i c hop
    have hargs := evs_rel hE c.args
    split at h
    · -- a builtin
      rename_i b hb
      have hexec : ∀ s : Sem Value, (∀ consts, builtin b c.argTypes o.type consts (c.args.map a.eval) = do pure (.value (← s))) → (execOp a.eval o).run P w = (do pure (Next.value (← s)) : Sem Next).run P w := by
        intro s hs
        unfold execOp
        simp only [hop, resolve, hb]
        rw [Sem.run_bind, Sem.run_pure]
        simp only [Result.andThen_ok, invoke]
        rw [hs]
      have sz : ∀ k, (evs e c.args.toList).length = k → (c.args.map a.eval).size = k := fun k hk => by rw [hargs.size, hk]
      have one : ∀ x, evs e c.args.toList = [x] → c.args.map a.eval = #[(c.args.map a.eval).getD 0 undef] := fun x hxs => arr_one (sz 1 (by rw [hxs]; rfl))
      have two : ∀ x y, evs e c.args.toList = [x, y] → c.args.map a.eval = #[(c.args.map a.eval).getD 0 undef, (c.args.map a.eval).getD 1 undef] := fun x y hxs => arr_two (sz 2 (by rw [hxs]; rfl))
      unfold builtinR at h
      split at h
      · rename_i t x ht hxs
        have h1 : c.argTypes = #[t] := by apply Array.ext'; simpa using ht
        obtain ⟨cv, q1, q2, rfl⟩ := lenB_ok hT hI (ty := o.type) h (hargs.at_ 0 x (by rw [hxs]; rfl))
        refine wp_value (cv := cv) (w' := w) ?_ (hnext _ w β F (Left.quiet hI q2))
        rw [hexec (Builtin.len_ c.argTypes o.type (c.args.map a.eval)) (fun _ => rfl), h1, one x hxs]
        rw [Sem.run_bind, q1]
        rfl
      · rename_i t x ht hxs
        have h1 : c.argTypes = #[t] := by apply Array.ext'; simpa using ht
        obtain ⟨cv, q1, q2, rfl⟩ := capB_ok hT (ty := o.type) (P := P) h (hargs.at_ 0 x (by rw [hxs]; rfl))
        refine wp_value (cv := cv) (w' := w) ?_ (hnext _ w β F (Left.quiet hI q2))
        rw [hexec (Builtin.cap_ c.argTypes o.type (c.args.map a.eval)) (fun _ => rfl), h1, one x hxs]
        rw [Sem.run_bind, q1]
        rfl
      · rename_i x y hxs
        obtain ⟨q0, rfl, _⟩ := ok_run h
        obtain ⟨cv, q1, q2⟩ := max2_ok (P := P) q0 (hargs.at_ 0 x (by rw [hxs]; rfl)) (hargs.at_ 1 y (by rw [hxs]; rfl))
        refine wp_value (cv := cv) (w' := w) ?_ (hnext _ w β F (Left.quiet hI q2))
        rw [hexec (Builtin.max_ c.argTypes o.type (c.args.map a.eval)) (fun _ => rfl), two x y hxs]
        have q1' : (Builtin.max_ c.argTypes o.type #[(c.args.map a.eval).getD 0 undef, (c.args.map a.eval).getD 1 undef]).run P w = .ok cv w := q1
        rw [Sem.run_bind, q1']
        rfl
      · rename_i x y hxs
        obtain ⟨q0, rfl, _⟩ := ok_run h
        obtain ⟨cv, q1, q2⟩ := min2_ok (P := P) q0 (hargs.at_ 0 x (by rw [hxs]; rfl)) (hargs.at_ 1 y (by rw [hxs]; rfl))
        refine wp_value (cv := cv) (w' := w) ?_ (hnext _ w β F (Left.quiet hI q2))
        rw [hexec (Builtin.min_ c.argTypes o.type (c.args.map a.eval)) (fun _ => rfl), two x y hxs]
        have q1' : (Builtin.min_ c.argTypes o.type #[(c.args.map a.eval).getD 0 undef, (c.args.map a.eval).getD 1 undef]).run P w = .ok cv w := q1
        rw [Sem.run_bind, q1']
        rfl
      · rename_i t t' x y ht hxs
        have h1 : c.argTypes = #[t, t'] := by apply Array.ext'; simpa using ht
        obtain ⟨cv, w', β', F', q1, q2⟩ := appendB_ok hT hI hn (ty := o.type) h (hargs.at_ 0 x (by rw [hxs]; rfl)) (hargs.at_ 1 y (by rw [hxs]; rfl))
        refine wp_value (cv := cv) (w' := w') ?_ (hnext _ w' β' F' q2)
        rw [hexec (Builtin.append_ c.argTypes o.type (c.args.map a.eval)) (fun _ => rfl), h1, two x y hxs]
        rw [Sem.run_bind, q1]
        rfl
      · simp [Rd.run] at h
    · -- a function
      rename_i f hf
      unfold callV at h
      split at h
      · rename_i g caps hev
        split at h
        · rename_i fn hfn
          have hrf := hx f
          rw [hev] at hrf
          generalize hcf : a.eval f = cf at hrf
          cases hrf with
          | clo _ _ _ cvs hs hr =>
            obtain ⟨Fn, k1, k2, k3⟩ := hfns.there g fn hfn
            have hargs2 : RelAll F (cl w) β (evs e c.args.toList ++ caps) (c.args.map a.eval ++ cvs) := ⟨by simp [hargs.size, hs], fun j v hj => by
              by_cases hlt : j < (evs e c.args.toList).length
              · rw [List.getElem?_append_left hlt] at hj
                rw [Array.getD_eq_getD_getElem?, Array.getElem?_append_left (by rw [hargs.size]; exact hlt), ← Array.getD_eq_getD_getElem?]
                exact hargs.at_ j v hj
              · rw [List.getElem?_append_right (by omega)] at hj
                rw [Array.getD_eq_getD_getElem?, Array.getElem?_append_right (by rw [hargs.size]; omega), ← Array.getD_eq_getD_getElem?, hargs.size]
                exact hr _ v hj⟩
            refine upon_of_calls (g := g) (args := c.args.map a.eval ++ cvs) ?_ (call_ok (hcall g fn hfn) hI hargs2 h hfresh) hnext
            unfold execOp
            simp only [hop, resolve, hf, hcf, Deferred.ofValue]
            rw [Sem.run_bind, Sem.run_pure]
            have k3' : ¬ Fn.name = "runtime.NumGoroutine" := by simpa using k3
            have k2' : ¬ Fn.body = none := by intro hb; rw [hb] at k2; cases k2
            simp [invoke, callFunc, k1, k2', k3']
        · simp [Rd.run] at h
      · simp [Rd.run] at h
    · simp [Rd.run] at h
  · simp [Rd.run] at h
end

end Go.Proofs.Ytfdemnefkfkghaa.R
