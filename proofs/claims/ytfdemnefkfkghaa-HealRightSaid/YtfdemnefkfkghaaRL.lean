/- Regions: in the text's order, and in whatever order is drawn. -/
import Derived.Test.YtfdemnefkfkghaaRK
namespace Go.Proofs.Ytfdemnefkfkghaa.R
set_option linter.unusedVariables false
set_option linter.unusedSimpArgs false
open Go Go.RowKit

theorem put_len : ∀ (h : Heap) (i : Nat) (o : Option Ob), h.length ≤ (h.put i o).length ∧ i < (h.put i o).length
  | [], 0, o => by simp [Heap.put]
  | [], i + 1, o => by have := put_len [] i o; simp [Heap.put]; omega
  | x :: h, 0, o => by simp [Heap.put]
  | x :: h, i + 1, o => by have := put_len h i o; simp [Heap.put]; omega

theorem puts_len : ∀ (u : Upd) (h : Heap), h.length ≤ (h.puts u).length ∧ ∀ p ∈ u, p.1 < (h.puts u).length
  | [], h => by simp [Heap.puts]
  | (i, o) :: r, h => by
    obtain ⟨h1, h2⟩ := puts_len r (h.put i o)
    obtain ⟨h3, h4⟩ := put_len h i o
    simp only [Heap.puts]
    refine ⟨by omega, fun p hp => ?_⟩
    cases hp with
    | head => show i < _; omega
    | tail _ hp => exact h2 p hp

/-- What is asked of the program. -/
structure CxOK (P : Program) (cx : Cx) : Prop where
  types : TOK P cx.T
  fns : FnsOK P cx.fns
  call : ∀ g fn, cx.fns g = some fn → FunOK P g (cx.call g)

/-- The machine's state beside Go's. -/
structure Sim (B : Base) (β0 : Place) (ntmps : Nat) (s : St) (a : Act) (w : World) (β : Place) (F : Froz) : Prop where
  inv : Inv B β F s.heap w
  env : EnvRel F w β s.env a.tmps
  defers : a.defers = []
  size : a.tmps.size = ntmps
  fresh : ∀ i, s.heap.length ≤ i → β i = none
  ext : Ext β0 β B.F0 F B.w0 w

section
variable {P : Program} {cx : Cx} {B : Base} {β0 : Place} {ntmps : Nat}

theorem putDst_env {F : Froz} {w : World} {β : Place} {e e' : Env} {a : Act} {d : Option Tmp} {v : V} {cv : Value} (hE : EnvRel F w β e a.tmps) (hs : a.tmps.size = ntmps) (hv : Rel F (cl w) β v cv) (h : putDst ntmps e d v = some e') :
    EnvRel F w β e' (a.put d cv).tmps ∧ (a.put d cv).tmps.size = ntmps ∧ (a.put d cv).defers = a.defers ∧ ∀ t, lk e' t = if d = some t then v else lk e t := by
  unfold putDst at h
  cases d with
  | none =>
    simp only [Option.some.injEq] at h
    subst h
    exact ⟨hE, hs, rfl, fun t => by simp⟩
  | some d =>
    simp only at h
    split at h
    · rename_i hd
      simp only [Option.some.injEq] at h
      subst h
      refine ⟨fun t => ?_, by simp [Act.put, hs], rfl, fun t => by rw [lk_cons]; simp⟩
      rw [lk_cons]
      simp only [Act.put]
      rw [Array.getD_eq_getD_getElem?]
      by_cases e1 : d = t
      · subst e1
        rw [if_pos rfl, Array.getElem?_setIfInBounds_self_of_lt (by rw [hs]; exact hd)]
        exact hv
      · rw [if_neg e1, Array.getElem?_setIfInBounds_ne e1, ← Array.getD_eq_getD_getElem?]
        exact hE t
    · cases h

theorem wanted_of {F : Froz} {w : World} {β : Place} {ops : Array Oper} {e : Env} {a : Act} (hE : EnvRel F w β e a.tmps) {o : Oper} {b : Bool} (h : wants ops e o = some b) : Region.wanted o (yielded ops a.tmps) = b := by
  unfold wants at h
  unfold Region.wanted
  cases hg : o.guard with
  | none =>
    simp only [hg, Option.some.injEq] at h
    simp [h]
  | some p =>
    obtain ⟨j, want⟩ := p
    simp only [hg] at h
    split at h
    · rename_i hsk
      cases h
      unfold skipped at hsk
      unfold yielded
      cases hd : (ops[j]?).bind (·.dst) with
      | none => simp [hd] at hsk
      | some t =>
        simp only [hd] at hsk
        have hr := hE t
        have hlk : lk e t = .tup [] := by
          unfold isSkip at hsk
          split at hsk
          · rename_i h; exact h
          · cases hsk
        rw [hlk] at hr
        have hu : a.tmps.getD t undef = .tuple #[] := by
          generalize a.tmps.getD t undef = cv at hr
          cases hr with
          | tup _ _ cvs hs _ => simp at hs; rw [hs]
        have : a.tmps[t]? = some (.tuple #[]) ∨ a.tmps[t]? = none := by
          rw [Array.getD_eq_getD_getElem?] at hu
          cases ht : a.tmps[t]? with
          | none => exact .inr rfl
          | some x => rw [ht] at hu; simp at hu; exact .inl (by rw [hu])
        simp only [hd, Option.bind_some]
        rcases this with h | h <;> rw [h] <;> cases want <;> rfl
    simp only [Option.map_eq_some_iff] at h
    obtain ⟨y, hy, rfl⟩ := h
    unfold yields at hy
    unfold yielded
    cases hd : (ops[j]?).bind (·.dst) with
    | none => simp [hd] at hy
    | some t =>
      simp only [hd] at hy
      have hr := hE t
      split at hy
      · rename_i b hb
        cases hy
        rw [hb] at hr
        have : a.tmps[t]? = some (.bool y) := by
          rw [Array.getD_eq_getD_getElem?] at hr
          cases ht : a.tmps[t]? with
          | none => rw [ht] at hr; simp [undef] at hr; cases hr
          | some x => rw [ht] at hr; simp at hr; cases hr; rfl
        simp only [Option.bind_some, hd, this]
        cases y <;> cases want <;> rfl
      · cases hy

theorem Sim.next {s : St} {a : Act} {w : World} {β : Place} {F : Froz} (hS : Sim B β0 ntmps s a w β F) {v : V} {u : Upd} {cv : Value} {w' : World} {β' : Place} {F' : Froz} (hL : Left s.heap.length B β F s.heap w v u cv w' β' F') {d : Option Tmp} {e' : Env} (he : putDst ntmps s.env d v = some e') :
    Sim B β0 ntmps { env := e', heap := s.heap.puts u } (a.put d cv) w' β' F' := by
  obtain ⟨h1, h2, h3, h4⟩ := putDst_env (hL.ext.env hS.env) hS.size hL.rel he
  refine ⟨hL.inv, h1, by rw [h3, hS.defers], h2, fun i hi => ?_, hS.ext.trans hL.ext⟩
  obtain ⟨k1, k2⟩ := puts_len u s.heap
  have : β' i = β i := by
    apply Classical.byContradiction
    intro hne
    obtain ⟨_, _, o, ho⟩ := hL.only i hne
    have := k2 _ ho
    simp only at hi this
    omega
  rw [this]
  exact hS.fresh i (by simp only at hi; omega)

theorem Sim.skip {s : St} {a : Act} {w : World} {β : Place} {F : Froz} (hS : Sim B β0 ntmps s a w β F) {d : Option Tmp} {e' : Env} (he : putDst ntmps s.env d (.tup []) = some e') : Sim B β0 ntmps { env := e', heap := s.heap } (a.put d undef) w β F := by
  obtain ⟨h1, h2, h3, h4⟩ := putDst_env hS.env hS.size (show Rel F (cl w) β (.tup []) undef from .tup β [] #[] rfl (by simp)) he
  exact ⟨hS.inv, h1, by rw [h3, hS.defers], h2, hS.fresh, hS.ext⟩

/-- In the text's order. -/
theorem ops_ok (hcx : CxOK P cx) {ops : Array Oper} {Q : Exit → Act → World → Prop} : ∀ (k : Nat) (rest : List Oper) (s s' : St) (a : Act) (w : World) (β : Place) (F : Froz), ops.toList.drop k = rest → runOps cx ntmps ops rest s = some s' → Sim B β0 ntmps s a w β F →
    (∀ a' w' β' F', Sim B β0 ntmps s' a' w' β' F' → Q .normal a' w') → wpOps P ops Q ((List.range ops.size).drop k) a w
  | k, [], s, s', a, w, β, F, hk, h, hS, hQ => by
    have hl : ops.size ≤ k := by simpa using hk
    rw [List.drop_of_length_le (by simpa using hl)]
    simp only [runOps, Option.some.injEq] at h
    subst h
    exact hQ _ _ _ _ hS
  | k, o :: r, s, s', a, w, β, F, hk, h, hS, hQ => by
    have hlt : k < ops.size := by
      rcases Nat.lt_or_ge k ops.size with h | h
      · exact h
      · rw [List.drop_of_length_le (by simpa using h)] at hk; cases hk
    have ho : ops[k]? = some o := by
      have : (ops.toList.drop k)[0]? = some o := by rw [hk]; rfl
      rw [List.getElem?_drop] at this
      simpa using this
    have hr : ops.toList.drop (k + 1) = r := by rw [← List.drop_drop, hk]; rfl
    have hd : (List.range ops.size).drop k = k :: (List.range ops.size).drop (k + 1) := by
      rw [List.drop_eq_getElem_cons (by simpa using hlt)]
      simp
    rw [hd, wpOps_cons]
    unfold wpOp
    simp only [ho]
    simp only [runOps] at h
    split at h
    · cases h
    · rename_i hw
      rw [wanted_of hS.env hw]
      simp only [Option.bind_eq_some_iff] at h
      obtain ⟨e', he, h⟩ := h
      simp only [Bool.false_eq_true, if_false]
      exact ops_ok hcx (k + 1) r _ s' _ _ β F hr h (hS.skip he) hQ
    · rename_i hw
      rw [wanted_of hS.env hw]
      simp only [if_true]
      left
      split at h
      · cases h
      · rename_i v u l hrun
        simp only [Option.bind_eq_some_iff] at h
        obtain ⟨e', he, h⟩ := h
        refine aop_ok hcx.types rfl hcx.fns hcx.call hS.inv hS.env (hS.fresh _ (Nat.le_refl _)) hrun (fun p _ hp => hS.fresh _ hp) fun cv w' β' F' hL => ?_
        exact ops_ok hcx (k + 1) r _ s' _ _ β' F' hr h (hS.next hL he) hQ

/-! What an operation looks at. -/
theorem run_local {α : Type} : ∀ (r : Rd α) (H H' : Heap) (l l' : List Nat) (x : α), r.run H l = some (x, l') → (∀ i ∈ l', H'.at? i = H.at? i) → r.run H' l = some (x, l') := by
  intro r
  induction r with
  | pure a => intro H H' l l' x h _; simpa [Rd.run] using h
  | fail => intro H H' l l' x h _; simp [Rd.run] at h
  | get i k ih =>
    intro H H' l l' x h hl
    simp only [Rd.run] at h ⊢
    cases ho : H.at? i with
    | none => simp [ho] at h
    | some o =>
      simp only [ho] at h
      have sub : ∀ (r : Rd α) (l l' : List Nat), r.run H l = some (x, l') → ∀ i ∈ l, i ∈ l' := by
        intro r
        induction r with
        | pure a => intro l l' h i hi; simp [Rd.run] at h; exact h.2 ▸ hi
        | fail => intro l l' h; simp [Rd.run] at h
        | get j k ih =>
          intro l l' h i hi
          simp only [Rd.run] at h
          split at h
          · exact ih _ _ _ h i (.tail _ hi)
          · cases h
      rw [hl i (sub _ _ _ h i (.head _)), ho]
      exact ih o H H' _ _ x h hl

theorem ev_congr {e e' : Env} {x : Operand} (h : ∀ t, x = .tmp t → lk e t = lk e' t) : ev e x = ev e' x := by
  cases x with
  | tmp t => exact h t rfl
  | _ => rfl

theorem evs_congr {e e' : Env} : ∀ {xs : List Operand}, (∀ x ∈ xs, ∀ t, x = .tmp t → lk e t = lk e' t) → evs e xs = evs e' xs
  | [], _ => rfl
  | x :: r, h => by simp only [evs]; rw [ev_congr (h x (.head _)), evs_congr fun y hy => h y (.tail _ hy)]

theorem parts_congr {e e' : Env} : ∀ {xs : List (Nat × Operand)}, (∀ x ∈ xs, ∀ t, x.2 = .tmp t → lk e t = lk e' t) → parts e xs = parts e' xs
  | [], _ => rfl
  | (i, x) :: r, h => by simp only [parts]; rw [ev_congr (h (i, x) (.head _)), parts_congr fun y hy => h y (.tail _ hy)]

theorem aop_congr {n : Nat} {e e' : Env} {o : Oper} (h : ∀ t, Operand.tmp t ∈ o.op.operands → lk e t = lk e' t) : aop cx n e o = aop cx n e' o := by
  have one : ∀ x, x ∈ o.op.operands → ev e x = ev e' x := fun x hx => ev_congr fun t ht => h t (ht ▸ hx)
  unfold aop
  cases hop : o.op <;> simp only [hop, Op.operands] at one h <;> try simp only
  case move x => rw [one x (by simp)]
  case assign x => rw [one x (by simp)]
  case pick c a b => rw [one c (by simp), one a (by simp), one b (by simp)]
  case box t x => rw [one x (by simp)]
  case build t ps => rw [parts_congr (e' := e') fun x hx t ht => h t (by rw [← ht]; simp; exact ⟨x.1, by simpa using hx⟩)]
  case buildSlice t n ps => rw [parts_congr (e' := e') fun x hx t ht => h t (by rw [← ht]; simp; exact ⟨x.1, by simpa using hx⟩)]
  case makeMap t r => cases r <;> rfl
  case load t x => rw [one x (by simp)]
  case store t x y => rw [one x (by simp), one y (by simp)]
  case nilCheck x => rw [one x (by simp)]
  case binOp op t x y yt => rw [one x (by simp), one y (by simp)]
  case unOp op t x => rw [one x (by simp)]
  case convert s d x => rw [one x (by simp)]
  case makeFunc fn first caps =>
    cases fn <;> simp only
    split
    · rw [evs_congr (e' := e') fun x hx t ht => h t (by rw [← ht]; simp; right; simpa using hx)]
    · rfl
  case slice t x lo hi mx =>
    have opt : ∀ (y : Option Operand), (∀ z, y = some z → z ∈ #[x] ++ lo.toArray ++ hi.toArray ++ mx.toArray) → y.map (ev e) = y.map (ev e') := fun y hy => by
      cases y with
      | none => rfl
      | some z => simp only [Option.map_some]; rw [one z (hy z rfl)]
    rw [one x (by simp), opt lo (fun z hz => by simp [hz]), opt hi (fun z hz => by simp [hz]), opt mx (fun z hz => by simp [hz])]
  case fieldAddr t x f => rw [one x (by simp)]
  case field t x f => rw [one x (by simp)]
  case indexAddr t x y => rw [one x (by simp), one y (by simp)]
  case index t x y => rw [one x (by simp), one y (by simp)]
  case lookup t x y c => rw [one x (by simp), one y (by simp)]
  case mapUpdate t x y z => rw [one x (by simp), one y (by simp), one z (by simp)]
  case extract x i => rw [one x (by simp)]
  case call c =>
    have hargs : evs e c.args.toList = evs e' c.args.toList := evs_congr fun x hx t ht => h t (by rw [← ht]; simp [Call.operands]; right; simpa using hx)
    cases hc : c.callee with
    | value f => simp only; rw [hargs, one f (by simp [Call.operands, hc])]
    | invoke r m => rfl
    | builtin b => simp only; rw [hargs]

/-! In whatever order. -/
/-- What became of an operation that is done in the text's order. -/
def Step (cx : Cx) (ntmps : Nat) (ops : Array Oper) (o : Oper) (s : St) (d : Did) (s' : St) : Prop :=
  wants ops s.env o = some d.want ∧ (∃ e, putDst ntmps s.env o.dst d.val = some e ∧ s'.env = e) ∧
  ((d.want = false ∧ d.val = .tup [] ∧ d.upd = [] ∧ d.reads = [] ∧ s'.heap = s.heap) ∨
   (d.want = true ∧ (aop cx s.heap.length s.env o).run s.heap [] = some ((d.val, d.upd), d.reads) ∧ s'.heap = Heap.pad (s.heap.length + 1) (s.heap.puts d.upd)))

theorem draw_steps {ops : Array Oper} {bef : Array Nat} : ∀ (l : List Oper) (j : Nat) (s s' : St) (done : List Did), runDraw cx ntmps ops bef l j s done = some s' → done.length = j →
    ∃ (st : Nat → St) (dd : Nat → Did), st 0 = s ∧ st l.length = s' ∧ ∀ k o, l[k]? = some o → Step cx ntmps ops o (st k) (dd k) (st (k + 1)) ∧
      ((dd k).want = true → ∀ i di, (if i < j then done[i]? else if i < j + k then some (dd (i - j)) else none) = some di → clash di (dd k) = true → (bef.getD (j + k) 0).testBit i = true)
  | [], j, s, s', done, h, hj => by
    simp only [runDraw, Option.some.injEq] at h
    exact ⟨fun _ => s, fun _ => ⟨false, .tup [], [], []⟩, rfl, h, by simp⟩
  | o :: l, j, s, s', done, h, hj => by
    have glue : ∀ (d : Did) (s1 : St), Step cx ntmps ops o s d s1 → (d.want = true → apart bef done j d = true) → runDraw cx ntmps ops bef l (j + 1) s1 (done ++ [d]) = some s' →
        ∃ (st : Nat → St) (dd : Nat → Did), st 0 = s ∧ st (o :: l).length = s' ∧ ∀ k o', (o :: l)[k]? = some o' → Step cx ntmps ops o' (st k) (dd k) (st (k + 1)) ∧
          ((dd k).want = true → ∀ i di, (if i < j then done[i]? else if i < j + k then some (dd (i - j)) else none) = some di → clash di (dd k) = true → (bef.getD (j + k) 0).testBit i = true) := by
      intro d s1 hstep hap hrest
      obtain ⟨st, dd, h1, h2, h3⟩ := draw_steps l (j + 1) s1 s' (done ++ [d]) hrest (by simp [hj])
      refine ⟨fun k => match k with | 0 => s | k + 1 => st k, fun k => match k with | 0 => d | k + 1 => dd k, rfl, h2, fun k o' hk => ?_⟩
      cases k with
      | zero =>
        simp only [List.getElem?_cons_zero, Option.some.injEq] at hk
        subst hk
        refine ⟨by simpa only [h1] using hstep, fun hw i di hi hcl => ?_⟩
        simp only [Nat.add_zero] at hi ⊢
        by_cases hij : i < j
        · rw [if_pos hij] at hi
          have := hap hw
          unfold apart at this
          simp only [List.all_eq_true] at this
          have := this (di, i) (by
            rw [List.mem_zipIdx_iff_getElem?]
            exact hi)
          simp only [hcl, Bool.not_true, Bool.false_or] at this
          exact this
        · rw [if_neg hij, if_neg hij] at hi
          cases hi
      | succ k =>
        obtain ⟨g1, g2⟩ := h3 k o' (by simpa using hk)
        refine ⟨g1, fun hw i di hi hcl => ?_⟩
        have := g2 hw i di (by
          by_cases hij : i < j
          · rw [if_pos hij] at hi
            rw [if_pos (by omega), List.getElem?_append_left (by omega)]
            exact hi
          · rw [if_neg hij] at hi
            split at hi
            · rename_i hik
              by_cases he : i = j
              · subst he
                rw [if_pos (by omega), List.getElem?_append_right (by omega)]
                simp only [hj, Nat.sub_self] at hi ⊢
                simpa using hi
              · rw [if_neg (by omega), if_pos (by omega)]
                obtain ⟨m, hm⟩ : ∃ m, i - j = m + 1 := ⟨i - j - 1, by omega⟩
                simp only [hm] at hi
                rw [show i - (j + 1) = m by omega]
                exact hi
            · cases hi) hcl
        rwa [show j + 1 + k = j + (k + 1) by omega] at this
    simp only [runDraw] at h
    split at h
    · cases h
    · rename_i hw
      simp only [Option.bind_eq_some_iff] at h
      obtain ⟨e, he, h⟩ := h
      exact glue ⟨false, .tup [], [], []⟩ { env := e, heap := s.heap } ⟨hw, ⟨e, he, rfl⟩, .inl ⟨rfl, rfl, rfl, rfl, rfl⟩⟩ (fun h => by cases h) h
    · rename_i hw
      split at h
      · cases h
      · rename_i v u lr hrun
        split at h
        · rename_i hap
          simp only [Option.bind_eq_some_iff] at h
          obtain ⟨e, he, h⟩ := h
          exact glue ⟨true, v, u, lr⟩ _ ⟨hw, ⟨e, he, rfl⟩, .inr ⟨rfl, hrun, rfl⟩⟩ (fun _ => hap) h
        · cases h

/-- What objects become: 'some none': gone. -/
def eff : Upd → Nat → Option (Option Ob)
  | [], _ => none
  | (i, o) :: r, m => match eff r m with
    | some x => some x
    | none => if i = m then some o else none

theorem puts_eff : ∀ (u : Upd) (h : Heap) (m : Nat), (h.puts u).at? m = match eff u m with | some x => x | none => h.at? m
  | [], h, m => rfl
  | (i, o) :: r, h, m => by
    simp only [Heap.puts, eff]
    rw [puts_eff r _ m]
    cases eff r m with
    | some x => rfl
    | none =>
      simp only
      rw [at?_put]
      by_cases e : m = i
      · subst e; simp
      · rw [if_neg e, if_neg (fun q => e q.symm)]

theorem eff_mem : ∀ {u : Upd} {m : Nat}, eff u m ≠ none → ∃ p ∈ u, p.1 = m
  | [], m, h => absurd rfl h
  | (i, o) :: r, m, h => by
    simp only [eff] at h
    split at h
    · rename_i x hx
      obtain ⟨p, h1, h2⟩ := eff_mem (u := r) (m := m) (by rw [hx]; simp)
      exact ⟨p, .tail _ h1, h2⟩
    · split at h
      · rename_i e
        exact ⟨(i, o), .head _, e⟩
      · exact absurd rfl h

theorem mem_eff : ∀ {u : Upd} {p : Nat × Option Ob}, p ∈ u → eff u p.1 ≠ none
  | [], p, h => by cases h
  | (i, o) :: r, p, h => by
    simp only [eff]
    cases hr : eff r p.1 with
    | some x => simp
    | none =>
      cases h with
      | head => simp
      | tail _ h => exact absurd hr (mem_eff h)

theorem at?_pad (n : Nat) (h : Heap) (m : Nat) : (Heap.pad n h).at? m = h.at? m := by
  unfold Heap.pad
  split
  · rw [at?_eq, at?_eq]
    by_cases hm : m < h.length
    · rw [List.getElem?_append_left hm]
    · rw [List.getElem?_append_right (by omega), List.getElem?_eq_none (Nat.le_of_not_lt hm)]
      by_cases h0 : m - h.length = 0
      · rw [h0]; rfl
      · rw [List.getElem?_eq_none (by simp; omega)]
  · rfl

theorem pad_len (n : Nat) (h : Heap) (hl : n ≤ h.length + 1) : h.length ≤ (Heap.pad n h).length ∧ n ≤ (Heap.pad n h).length := by
  unfold Heap.pad
  split
  · simp; omega
  · omega

/-- An object behind those operations of the first 'k' that are in 'S'. -/
def HV (dd : Nat → Did) (H0 : Heap) (S : Nat → Bool) : Nat → Nat → Option Ob
  | 0, m => H0.at? m
  | k + 1, m => if S k then (match eff (dd k).upd m with | some x => x | none => HV dd H0 S k m) else HV dd H0 S k m

/-- A slot behind them. -/
def EV (ops : Array Oper) (dd : Nat → Did) (e0 : Env) (S : Nat → Bool) : Nat → Nat → V
  | 0, t => lk e0 t
  | k + 1, t => if S k && ((ops[k]?).bind (·.dst) == some t) then (dd k).val else EV ops dd e0 S k t

def dstOf (ops : Array Oper) (k : Nat) : Option Tmp := (ops[k]?).bind (·.dst)

theorem HV_agree {dd : Nat → Did} {H0 : Heap} {S S' : Nat → Bool} {m : Nat} : ∀ {k : Nat}, (∀ i, i < k → eff (dd i).upd m ≠ none → S i = S' i) → HV dd H0 S k m = HV dd H0 S' k m
  | 0, _ => rfl
  | k + 1, h => by
    simp only [HV]
    rw [HV_agree (k := k) fun i hi => h i (by omega)]
    by_cases he : eff (dd k).upd m = none
    · rw [he]; simp
    · rw [h k (by omega) he]

theorem HV_drop {dd : Nat → Did} {H0 : Heap} {S : Nat → Bool} {m j : Nat} : ∀ {k : Nat}, j ≤ k → (∀ i, j ≤ i → i < k → S i = true → eff (dd i).upd m = none) → HV dd H0 S k m = HV dd H0 S j m
  | 0, hj, _ => by rw [show j = 0 by omega]
  | k + 1, hj, h => by
    by_cases e : j = k + 1
    · rw [e]
    · simp only [HV]
      rw [HV_drop (k := k) (by omega) fun i h1 h2 => h i h1 (by omega)]
      split
      · rename_i hs
        rw [h k (by omega) (by omega) hs]
      · rfl

theorem EV_agree {ops : Array Oper} {dd : Nat → Did} {e0 : Env} {S S' : Nat → Bool} {t : Nat} : ∀ {k : Nat}, (∀ i, i < k → dstOf ops i = some t → S i = S' i) → EV ops dd e0 S k t = EV ops dd e0 S' k t
  | 0, _ => rfl
  | k + 1, h => by
    simp only [EV]
    rw [EV_agree (k := k) fun i hi => h i (by omega)]
    by_cases he : dstOf ops k = some t
    · rw [h k (by omega) he]
    · have : ((ops[k]?).bind (·.dst) == some t) = false := by
        unfold dstOf at he
        simpa using he
      rw [this]
      simp

theorem EV_drop {ops : Array Oper} {dd : Nat → Did} {e0 : Env} {S : Nat → Bool} {t j : Nat} : ∀ {k : Nat}, j ≤ k → (∀ i, j ≤ i → i < k → S i = true → dstOf ops i ≠ some t) → EV ops dd e0 S k t = EV ops dd e0 S j t
  | 0, hj, _ => by rw [show j = 0 by omega]
  | k + 1, hj, h => by
    by_cases e : j = k + 1
    · rw [e]
    · simp only [EV]
      rw [EV_drop (k := k) (by omega) fun i h1 h2 => h i h1 (by omega)]
      split
      · rename_i hs
        simp only [Bool.and_eq_true, beq_iff_eq] at hs
        exact absurd hs.2 (h k (by omega) (by omega) hs.1)
      · rfl
end

/-! What is told to be ahead of an operation. -/
def Bits (ops : List Oper) (acc : Array Nat) : Prop := ∀ (j i : Nat), (acc.getD j 0).testBit i = true → ∃ o e, ops[j]? = some o ∧ e ∈ o.after ∧ Region.binds .any e = true ∧ (e.on = i ∨ (acc.getD e.on 0).testBit i = true)

theorem bits_fold (acc : Array Nat) (i : Nat) : ∀ (es : List Edge) (s : Nat), (es.foldl (fun s e => if Region.binds .any e then s ||| 2 ^ e.on ||| acc.getD e.on 0 else s) s).testBit i = true →
    s.testBit i = true ∨ ∃ e ∈ es, Region.binds .any e = true ∧ (e.on = i ∨ (acc.getD e.on 0).testBit i = true)
  | [], s, h => .inl h
  | e :: es, s, h => by
    simp only [List.foldl_cons] at h
    rcases bits_fold acc i es _ h with h | ⟨e', h1, h2⟩
    · split at h
      · rename_i hb
        rw [Nat.testBit_or, Nat.testBit_or, Bool.or_eq_true, Bool.or_eq_true] at h
        rcases h with (h | h) | h
        · exact .inl h
        · rw [Nat.testBit_two_pow] at h
          exact .inr ⟨e, .head _, hb, .inl (by simpa using h)⟩
        · exact .inr ⟨e, .head _, hb, .inr h⟩
      · exact .inl h
    · exact .inr ⟨e', .tail _ h1, h2⟩

theorem bits_push {pre : List Oper} {acc : Array Nat} (hs : acc.size = pre.length) (h : Bits pre acc) (o : Oper) :
    Bits (pre ++ [o]) (acc.push (o.after.foldl (fun s e => if Region.binds .any e then s ||| 2 ^ e.on ||| acc.getD e.on 0 else s) 0)) := by
  intro j i hj
  have low : ∀ k x, (acc.getD k 0).testBit x = true → ((acc.push (o.after.foldl (fun s e => if Region.binds .any e then s ||| 2 ^ e.on ||| acc.getD e.on 0 else s) 0)).getD k 0).testBit x = true := by
    intro k x hk
    by_cases hlt : k < acc.size
    · rw [Array.getD_eq_getD_getElem?, Array.getElem?_push, if_neg (by omega), ← Array.getD_eq_getD_getElem?]
      exact hk
    · rw [Array.getD_eq_getD_getElem?, Array.getElem?_eq_none (by omega)] at hk
      simp at hk
  by_cases hlt : j < acc.size
  · rw [Array.getD_eq_getD_getElem?, Array.getElem?_push, if_neg (by omega), ← Array.getD_eq_getD_getElem?] at hj
    obtain ⟨o', e, h1, h2, h3, h4⟩ := h j i hj
    refine ⟨o', e, by rw [List.getElem?_append_left (by omega)]; exact h1, h2, h3, ?_⟩
    rcases h4 with h4 | h4
    · exact .inl h4
    · exact .inr (low _ _ h4)
  · by_cases he : j = acc.size
    · subst he
      rw [Array.getD_eq_getD_getElem?, Array.getElem?_push, if_pos rfl] at hj
      simp only [Option.getD_some] at hj
      rw [← Array.foldl_toList] at hj
      rcases bits_fold acc i o.after.toList 0 hj with h | ⟨e, h1, h2, h3⟩
      · simp at h
      · refine ⟨o, e, by rw [hs]; simp, by simpa using h1, h2, ?_⟩
        rcases h3 with h3 | h3
        · exact .inl h3
        · exact .inr (low _ _ h3)
    · rw [Array.getD_eq_getD_getElem?, Array.getElem?_eq_none (by simp; omega)] at hj
      simp at hj

theorem before_bits (ops : Array Oper) : Bits ops.toList (Region.before ops) := by
  unfold Region.before
  rw [← Array.foldl_toList]
  have key : ∀ (l pre : List Oper) (acc : Array Nat), acc.size = pre.length → Bits pre acc → Bits (pre ++ l) (l.foldl (fun acc o => acc.push (o.after.foldl (fun s e => if Region.binds .any e then s ||| 2 ^ e.on ||| acc.getD e.on 0 else s) 0)) acc) := by
    intro l
    induction l with
    | nil => intro pre acc _ h; simpa using h
    | cons o l ih =>
      intro pre acc hs h
      have := ih (pre ++ [o]) _ (by simp [hs]) (bits_push hs h o)
      simpa using this
  simpa using key ops.toList [] #[] rfl (by intro j i h; simp at h)

/-- What is asked of a region that draws its order. -/
def drawOK (ops : Array Oper) : Bool :=
  (List.range ops.size).all fun j => match ops[j]? with
    | none => false
    | some o => (o.after.toList.all fun e => !Region.binds .any e || decide (e.on < j)) &&
        (List.range j).all fun i => match ops[i]? with
          | some p => Oper.apart ops p o || ((Region.before ops).getD j 0).testBit i
          | none => false

theorem looks_of {ops : Array Oper} {o : Oper} {t : Tmp} (h : Operand.tmp t ∈ o.op.operands) : t ∈ o.looksAt ops := by
  unfold Oper.looksAt
  refine List.mem_append_left _ ?_
  rw [List.mem_filterMap]
  exact ⟨.tmp t, by simpa using h, rfl⟩

section
variable {P : Program} {cx : Cx} {B : Base} {β0 : Place} {ntmps : Nat}

theorem draw_core (hcx : CxOK P cx) {ops : Array Oper} (hd : drawOK ops = true) {Q : Exit → Act → World → Prop} {s : St} {st : Nat → St} {dd : Nat → Did} (h0 : st 0 = s)
    (hsteps : ∀ k o, ops[k]? = some o → Step cx ntmps ops o (st k) (dd k) (st (k + 1)) ∧ ((dd k).want = true → ∀ i, i < k → clash (dd i) (dd k) = true → ((Region.before ops).getD k 0).testBit i = true))
    (hQ : ∀ a' w' β' F', Sim B β0 ntmps (st ops.size) a' w' β' F' → Q .normal a' w') :
    ∀ (fuel : Nat) (listed : Array Bool) (a : Act) (w : World) (β : Place) (F : Froz) (HS : Heap), listed.size = ops.size → ((List.range ops.size).filter fun i => !listed.getD i false).length ≤ fuel →
      (∀ j o e, listed.getD j false = true → ops[j]? = some o → e ∈ o.after → Region.binds .any e = true → listed.getD e.on false = true) →
      Inv B β F HS w → (∀ m, HS.at? m = HV dd s.heap (listed.getD · false) ops.size m) → (∀ t, Rel F (cl w) β (EV ops dd s.env (listed.getD · false) ops.size t) (a.tmps.getD t undef)) → a.defers = [] → a.tmps.size = ntmps →
      (∀ m, (st ops.size).heap.length ≤ m → β m = none) → (∀ j, j < ops.size → listed.getD j false = false → ∀ m, (st j).heap.length ≤ m → m < (st (j + 1)).heap.length → β m = none) → Ext β0 β B.F0 F B.w0 w →
      wpAny P .any ops Q fuel listed a w := by
  -- the text's order
  have hdj : ∀ j o, ops[j]? = some o → (∀ e ∈ o.after, Region.binds .any e = true → e.on < j) ∧ ∀ i p, i < j → ops[i]? = some p → Oper.apart ops p o = true ∨ ((Region.before ops).getD j 0).testBit i = true := by
    intro j o ho
    have hlt := (Array.getElem?_eq_some_iff.1 ho).1
    unfold drawOK at hd
    simp only [List.all_eq_true, List.mem_range] at hd
    have := hd j hlt
    rw [ho] at this
    simp only [Bool.and_eq_true, List.all_eq_true, List.mem_range] at this
    refine ⟨fun e he hb => ?_, fun i p hi hp => ?_⟩
    · have := this.1 e (by simpa using he)
      simpa [hb] using this
    · have := this.2 i hi
      rw [hp] at this
      simpa using this
  have there : ∀ j, j < ops.size → ∃ o, ops[j]? = some o := fun j hj => ⟨ops[j], by simp [hj]⟩
  have hlen : ∀ k, k < ops.size → (st k).heap.length ≤ (st (k + 1)).heap.length ∧ ((dd k).want = true → (st k).heap.length + 1 ≤ (st (k + 1)).heap.length) ∧ ∀ p ∈ (dd k).upd, p.1 < (st (k + 1)).heap.length := by
    intro k hk
    obtain ⟨o, ho⟩ := there k hk
    obtain ⟨⟨_, _, h⟩, _⟩ := hsteps k o ho
    rcases h with ⟨h1, _, h3, _, h4⟩ | ⟨h1, h2, h3⟩
    · rw [h4, h3]
      refine ⟨Nat.le_refl _, fun h => ?_, by simp⟩
      rw [h1] at h
      cases h
    · have h5 := puts_len (dd k).upd (st k).heap
      have h6 := pad_len ((st k).heap.length + 1) ((st k).heap.puts (dd k).upd) (by omega)
      rw [h3]
      exact ⟨by omega, fun _ => h6.2, fun p hp => by have := h5.2 p hp; omega⟩
  have hmono : ∀ j k, j ≤ k → k ≤ ops.size → (st j).heap.length ≤ (st k).heap.length := by
    intro j k hjk
    induction k with
    | zero => intro _; rw [show j = 0 by omega]; exact Nat.le_refl _
    | succ k ih =>
      intro hk
      by_cases e : j = k + 1
      · rw [e]; exact Nat.le_refl _
      · exact Nat.le_trans (ih (by omega) (by omega)) (hlen k (by omega)).1
  have cH : ∀ k, k ≤ ops.size → ∀ m, (st k).heap.at? m = HV dd s.heap (fun _ => true) k m := by
    intro k
    induction k with
    | zero => intro _ m; rw [h0]; rfl
    | succ k ih =>
      intro hk m
      obtain ⟨o, ho⟩ := there k (by omega)
      obtain ⟨⟨_, _, h⟩, _⟩ := hsteps k o ho
      simp only [HV, if_true]
      rcases h with ⟨h1, _, h3, _, h4⟩ | ⟨h1, h2, h3⟩
      · rw [h4, h3, ih (by omega)]; rfl
      · rw [h3, at?_pad, puts_eff]
        cases eff (dd k).upd m with
        | some x => rfl
        | none => exact ih (by omega) m
  have cE : ∀ k, k ≤ ops.size → ∀ t, lk (st k).env t = EV ops dd s.env (fun _ => true) k t := by
    intro k
    induction k with
    | zero => intro _ t; rw [h0]; rfl
    | succ k ih =>
      intro hk t
      obtain ⟨o, ho⟩ := there k (by omega)
      obtain ⟨⟨_, ⟨e, he, h5⟩, _⟩, _⟩ := hsteps k o ho
      simp only [EV, ho, Option.bind_some, Bool.true_and]
      rw [h5]
      have : lk e t = if o.dst = some t then (dd k).val else lk (st k).env t := by
        unfold putDst at he
        split at he
        · rename_i hdst
          simp only [Option.some.injEq] at he
          subst he
          simp [hdst]
        · rename_i d hdst
          split at he
          · simp only [Option.some.injEq] at he
            subst he
            rw [lk_cons, hdst]
            simp
          · cases he
      rw [this]
      by_cases e1 : o.dst = some t
      · simp [e1]
      · simp [e1, ih (by omega)]
  intro fuel
  induction fuel with
  | zero =>
    intro listed a w β F HS hsz hcnt hcl hI hH hE hde hsize hf1 hf2 hext
    have all : ∀ j, j < ops.size → listed.getD j false = true := by
      intro j hj
      have h0' : ((List.range ops.size).filter fun i => !listed.getD i false) = [] := List.eq_nil_of_length_eq_zero (by omega)
      rw [List.filter_eq_nil_iff] at h0'
      have := h0' j (by simpa using hj)
      simpa using this
    refine ⟨?_, ?_⟩
    · rw [Region.ready, List.filter_eq_nil_iff]
      intro j hj
      have := all j (by simpa using hj)
      have hj' : j < listed.size := by rw [hsz]; simpa using hj
      have h2 : listed.getD j true = true := by
        rw [Array.getD_eq_getD_getElem?] at this ⊢
        rw [Array.getElem?_eq_getElem hj'] at this ⊢
        exact this
      simp [h2]
    · refine hQ a w β F ⟨hI.congr fun m => ?_, fun t => ?_, hde, hsize, hf1, hext⟩
      · rw [cH ops.size (Nat.le_refl _), hH]
        exact (HV_agree fun i hi _ => by rw [all i hi]).symm
      · rw [cE ops.size (Nat.le_refl _)]
        have := hE t
        rwa [EV_agree (S' := fun _ => true) fun i hi _ => all i hi] at this
  | succ fuel ih =>
    intro listed a w β F HS hsz hcnt hcl hI hH hE hde hsize hf1 hf2 hext
    -- what is ahead of an operation that is done, or may be done now, is done
    have ahead : ∀ j, (listed.getD j false = true ∨ ∃ o, ops[j]? = some o ∧ ∀ e ∈ o.after, Region.binds .any e = true → listed.getD e.on false = true) → ∀ i, ((Region.before ops).getD j 0).testBit i = true → listed.getD i false = true := by
      intro j
      induction j using Nat.strongRecOn with
      | _ j ihj =>
        intro hj i hi
        obtain ⟨o, e, h1, h2, h3, h4⟩ := before_bits ops j i hi
        have h1' : ops[j]? = some o := by simpa using h1
        have hon : listed.getD e.on false = true := by
          rcases hj with hj | ⟨o', ho', hj⟩
          · exact hcl j o e hj h1' h2 h3
          · rw [h1'] at ho'
            cases ho'
            exact hj e h2 h3
        rcases h4 with h4 | h4
        · exact h4 ▸ hon
        · exact ihj e.on ((hdj j o h1').1 e h2 h3) (.inl hon) i h4
    refine ⟨fun hready => ?_, fun j hj => ?_⟩
    · -- nothing may be done any more: all is done
      have all : ∀ j, j < ops.size → listed.getD j false = true := by
        intro j
        induction j using Nat.strongRecOn with
        | _ j ihj =>
          intro hj
          apply Classical.byContradiction
          intro hno
          obtain ⟨o, ho⟩ := there j hj
          have : j ∈ Region.ready .any ops listed := by
            rw [Region.ready, List.mem_filter]
            refine ⟨by simpa using hj, ?_⟩
            have hj' : j < listed.size := by rw [hsz]; exact hj
            have h2 : listed.getD j true = false := by
              rw [Array.getD_eq_getD_getElem?] at hno ⊢
              rw [Array.getElem?_eq_getElem hj'] at hno ⊢
              simpa using hno
            simp only [h2, ho, Bool.not_false, Option.map_some, Option.getD_some, Bool.true_and]
            rw [Array.all_eq_true_iff_forall_mem]
            intro e he
            by_cases hb : Region.binds .any e = true
            · simp only [hb, Bool.not_true, Bool.false_or]
              have := (hdj j o ho).1 e he hb
              exact ihj e.on this (by omega)
            · simp [hb]
          rw [hready] at this
          cases this
      refine hQ a w β F ⟨hI.congr fun m => ?_, fun t => ?_, hde, hsize, hf1, hext⟩
      · rw [cH ops.size (Nat.le_refl _), hH]
        exact (HV_agree fun i hi _ => by rw [all i hi]).symm
      · rw [cE ops.size (Nat.le_refl _)]
        have := hE t
        rwa [EV_agree (S' := fun _ => true) fun i hi _ => all i hi] at this
    · -- one more
      rw [Region.ready, List.mem_filter] at hj
      obtain ⟨hjr, hjc⟩ := hj
      have hjlt : j < ops.size := by simpa using hjr
      obtain ⟨o, ho⟩ := there j hjlt
      simp only [ho, Option.map_some, Option.getD_some, Bool.and_eq_true, Bool.not_eq_true'] at hjc
      obtain ⟨hnl, hedges⟩ := hjc
      have hjs : j < listed.size := by rw [hsz]; exact hjlt
      have hnj : listed.getD j false = false := by
        rw [Array.getD_eq_getD_getElem?] at hnl ⊢
        rw [Array.getElem?_eq_getElem hjs] at hnl ⊢
        exact hnl
      have hedges' : ∀ e ∈ o.after, Region.binds .any e = true → listed.getD e.on false = true := fun e he hb => by
        have := Array.all_eq_true_iff_forall_mem.1 hedges e he
        simpa [hb] using this
      have ahj := ahead j (.inr ⟨o, ho, hedges'⟩)
      have behind : ∀ k, listed.getD k false = true → ((Region.before ops).getD k 0).testBit j = true → False := fun k hk hb => by
        have := ahead k (.inl hk) j hb
        rw [hnj] at this
        cases this
      obtain ⟨⟨hw, ⟨e2, he2, he3⟩, hstep⟩, hcl2⟩ := hsteps j o ho
      -- slots
      have slot : ∀ t, t ∈ o.looksAt ops → EV ops dd s.env (listed.getD · false) ops.size t = lk (st j).env t := by
        intro t ht
        rw [cE j (by omega)]
        rw [EV_drop (j := j) (by omega) fun i h1 h2 hS => ?_]
        · refine EV_agree fun i hi hdst => ?_
          obtain ⟨p, hp⟩ := there i (by omega)
          rcases (hdj j o ho).2 i p hi hp with h | h
          · obtain ⟨g1, _, _⟩ := Oper.apart_spec h
            exact absurd ht (g1 t (by simpa [dstOf, hp] using hdst))
          · exact ahj i h
        · intro hdst
          by_cases e1 : i = j
          · subst e1
            rw [hnj] at hS
            cases hS
          · obtain ⟨p, hp⟩ := there i h2
            rcases (hdj i p hp).2 j o (by omega) ho with h | h
            · obtain ⟨_, _, g3⟩ := Oper.apart_spec h
              exact g3 t (by simpa [dstOf, hp] using hdst) ht
            · exact behind i hS h
      let e' : Env := (o.looksAt ops).map fun t => (t, EV ops dd s.env (listed.getD · false) ops.size t)
      have he' : ∀ t, t ∈ o.looksAt ops → lk e' t = lk (st j).env t := by
        intro t ht
        rw [← slot t ht]
        have key : ∀ l : List Tmp, t ∈ l → lk (l.map fun t => (t, EV ops dd s.env (listed.getD · false) ops.size t)) t = EV ops dd s.env (listed.getD · false) ops.size t := by
          intro l
          induction l with
          | nil => intro h; cases h
          | cons x r ih =>
            intro h
            simp only [List.map_cons]
            rw [lk_cons]
            by_cases e1 : x = t
            · rw [if_pos e1, e1]
            · rw [if_neg e1]
              cases h with
              | head => exact absurd rfl e1
              | tail _ h => exact ih h
        exact key _ ht
      have hE' : EnvRel F w β e' a.tmps := by
        intro t
        have key : ∀ l : List Tmp, Rel F (cl w) β (lk (l.map fun t => (t, EV ops dd s.env (listed.getD · false) ops.size t)) t) (a.tmps.getD t undef) := by
          intro l
          induction l with
          | nil => exact .undef _ _
          | cons x r ih =>
            simp only [List.map_cons]
            rw [lk_cons]
            by_cases e1 : x = t
            · rw [if_pos e1, e1]; exact hE t
            · rw [if_neg e1]; exact ih
        exact key _
      have hw' : wants ops e' o = some (dd j).want := by
        rw [← hw]
        unfold wants
        cases hg : o.guard with
        | none => rfl
        | some p =>
          obtain ⟨g, wn⟩ := p
          simp only
          unfold skipped yields
          cases hdg : (ops[g]?).bind (·.dst) with
          | none => rfl
          | some t =>
            simp only
            rw [he' t (by
              unfold Oper.looksAt
              refine List.mem_append_right _ ?_
              simp [hg, hdg])]
      have hfresh' : ∀ m, (st j).heap.length ≤ m → m < (st (j + 1)).heap.length → β m = none := hf2 j hjlt hnj
      unfold wpOp
      simp only [ho]
      rw [wanted_of hE' hw']
      -- behind it
      have goOn : ∀ (cv : Value) (u : Upd) (w' : World) (β' : Place) (F' : Froz), u = (dd j).upd → Left (st j).heap.length B β F HS w (dd j).val u cv w' β' F' → ((dd j).want = false → u = []) → wpAny P .any ops Q fuel (listed.setIfInBounds j true) (a.put o.dst cv) w' := by
        intro cv u w' β' F' hu hL hwant
        subst hu
        have hset : ∀ i, (listed.setIfInBounds j true).getD i false = if i = j then true else listed.getD i false := by
          intro i
          rw [Array.getD_eq_getD_getElem?, Array.getElem?_setIfInBounds]
          by_cases e1 : j = i
          · subst e1; simp [hjs]
          · rw [if_neg e1, if_neg (fun q => e1 q.symm), ← Array.getD_eq_getD_getElem?]
        refine ih (listed.setIfInBounds j true) (a.put o.dst cv) w' β' F' (HS.puts (dd j).upd) (by simp [hsz]) ?_ ?_ hL.inv ?_ ?_ ?_ ?_ ?_ ?_ (hext.trans hL.ext)
        · -- fewer are left
          have e1 : ((List.range ops.size).filter fun i => !(listed.setIfInBounds j true).getD i false).length < ((List.range ops.size).filter fun i => !listed.getD i false).length := by
            have sub : ∀ l : List Nat, (l.filter fun i => !(listed.setIfInBounds j true).getD i false).length ≤ (l.filter fun i => !listed.getD i false).length ∧ (j ∈ l → (l.filter fun i => !(listed.setIfInBounds j true).getD i false).length < (l.filter fun i => !listed.getD i false).length) := by
              intro l
              induction l with
              | nil => simp
              | cons x r ih =>
                simp only [List.filter_cons, hset x]
                by_cases e2 : x = j
                · subst e2
                  simp only [if_true, Bool.not_true, Bool.false_eq_true, if_false, hnj, Bool.not_false, List.length_cons]
                  exact ⟨by omega, fun _ => by omega⟩
                · rw [if_neg e2]
                  refine ⟨?_, fun hm => ?_⟩
                  · split
                    · simp only [List.length_cons]; omega
                    · exact ih.1
                  · have := ih.2 (by cases hm with | head => exact absurd rfl e2 | tail _ h => exact h)
                    split
                    · simp only [List.length_cons]; omega
                    · exact this
            exact (sub _).2 (by simpa using hjlt)
          omega
        · intro k p e hk hp he hb
          rw [hset] at hk ⊢
          by_cases e1 : e.on = j
          · rw [if_pos e1]
          · rw [if_neg e1]
            by_cases e2 : k = j
            · subst e2
              rw [ho] at hp
              cases hp
              exact hedges' e he hb
            · rw [if_neg e2] at hk
              exact hcl k p e hk hp he hb
        · intro m
          rw [puts_eff]
          by_cases hem : eff (dd j).upd m = none
          · rw [hem, hH]
            refine HV_agree fun i hi hei => ?_
            simp only [hset]
            rw [if_neg]
            rintro rfl
            exact hei hem
          · obtain ⟨x, hx⟩ := Option.ne_none_iff_exists'.1 hem
            rw [hx]
            rw [HV_drop (j := j + 1) (by omega) fun k h1 h2 hS => ?_]
            · simp only [HV, hset, if_true, hx]
            · apply Classical.byContradiction
              intro hek
              simp only [hset] at hS
              rw [if_neg (by omega)] at hS
              obtain ⟨p, hp⟩ := there k h2
              obtain ⟨p1, q1, q2⟩ := eff_mem hem
              obtain ⟨p2, q3, q4⟩ := eff_mem hek
              have hwk : (dd k).want = true := by
                obtain ⟨⟨_, _, hk⟩, _⟩ := hsteps k p hp
                rcases hk with ⟨_, _, h3, _⟩ | ⟨h1, _⟩
                · rw [h3] at q3; cases q3
                · exact h1
              have hcla : clash (dd j) (dd k) = true := by
                unfold clash Did.touches
                simp only [Bool.or_eq_true, List.any_eq_true]
                exact .inl ⟨p1, q1, .inr ⟨p2, q3, by simp [q2, q4]⟩⟩
              exact behind k hS ((hsteps k p hp).2 hwk j (by omega) hcla)
        · intro t
          have hr := hL.ext.rel (hE t)
          have hput : (a.put o.dst cv).tmps.getD t undef = if o.dst = some t ∧ t < a.tmps.size then cv else a.tmps.getD t undef := by
            unfold Act.put
            cases hdst : o.dst with
            | none => simp
            | some d =>
              simp only
              rw [Array.getD_eq_getD_getElem?, Array.getElem?_setIfInBounds]
              by_cases e1 : d = t
              · subst e1
                by_cases e3 : d < a.tmps.size
                · simp [e3]
                · simp [e3]
              · simp [e1]
          rw [hput]
          by_cases e1 : o.dst = some t
          · have hlt : t < a.tmps.size := by
              rw [hsize]
              apply Classical.byContradiction
              intro hno
              unfold putDst at he2
              rw [e1] at he2
              simp only [if_neg hno] at he2
              cases he2
            rw [if_pos ⟨e1, hlt⟩]
            rw [EV_drop (j := j + 1) (by omega) fun k h1 h2 hS => ?_]
            · simp only [EV, hset, if_true, ho, Option.bind_some, e1, beq_self_eq_true, Bool.and_self]
              exact hL.rel
            · intro hdk
              simp only [hset] at hS
              rw [if_neg (by omega)] at hS
              obtain ⟨p, hp⟩ := there k h2
              rcases (hdj k p hp).2 j o (by omega) ho with h | h
              · obtain ⟨_, g2, _⟩ := Oper.apart_spec h
                exact g2 t e1 (by simpa [dstOf, hp] using hdk)
              · exact behind k hS h
          · rw [if_neg (fun h => e1 h.1)]
            rw [EV_agree (S' := (listed.getD · false)) fun i hi hdi => ?_]
            · exact hr
            · simp only [hset]
              rw [if_neg]
              rintro rfl
              exact e1 (by simpa [dstOf, ho] using hdi)
        · rw [← hde]
          unfold Act.put
          split <;> rfl
        · rw [← hsize]
          unfold Act.put
          split <;> simp
        · intro m hm
          have : β' m = β m := by
            apply Classical.byContradiction
            intro hne
            obtain ⟨_, _, x, hx⟩ := hL.only m hne
            have h1 := (hlen j hjlt).2.2 _ hx
            have h2 := hmono (j + 1) ops.size (by omega) (Nat.le_refl _)
            simp only at h1
            omega
          rw [this]
          exact hf1 m hm
        · intro k hk hkn m hm1 hm2
          rw [hset] at hkn
          by_cases e1 : k = j
          · rw [if_pos e1] at hkn; cases hkn
          · rw [if_neg e1] at hkn
            have : β' m = β m := by
              apply Classical.byContradiction
              intro hne
              obtain ⟨h1, _, x, hx⟩ := hL.only m hne
              have h2 := (hlen j hjlt).2.2 _ hx
              simp only at h2
              rcases Nat.lt_or_gt_of_ne e1 with hlt | hgt
              · have := hmono (k + 1) j (by omega) (by omega)
                omega
              · have := hmono (j + 1) k (by omega) (by omega)
                omega
            rw [this]
            exact hf2 k hk hkn m hm1 hm2
      rcases hstep with ⟨hwf, hval, hupd, _, _⟩ | ⟨hwt, hrun, _⟩
      · rw [hwf]
        simp only [Bool.false_eq_true, if_false]
        exact goOn undef [] w β F hupd.symm ⟨by rw [hval]; exact .tup _ [] #[] rfl (by simp), by simpa [Heap.puts] using hI, Ext.refl _ _ _, fun i h => absurd rfl h⟩ (fun _ => rfl)
      · rw [hwt]
        simp only [if_true]
        left
        have hrun' : (aop cx (st j).heap.length e' o).run HS [] = some (((dd j).val, (dd j).upd), (dd j).reads) := by
          rw [aop_congr (e' := (st j).env) fun t ht => he' t (looks_of ht)]
          refine run_local _ _ _ _ _ _ hrun fun m hm => ?_
          rw [hH, cH j (by omega)]
          rw [HV_drop (j := j) (by omega) fun i h1 h2 hS => ?_]
          · refine HV_agree fun i hi hei => ?_
            obtain ⟨p1, q1, q2⟩ := eff_mem hei
            have hcla : clash (dd i) (dd j) = true := by
              unfold clash Did.touches
              simp only [Bool.or_eq_true, List.any_eq_true]
              exact .inl ⟨p1, q1, .inl (by rw [q2]; simpa using hm)⟩
            exact ahj i (hcl2 hwt i hi hcla)
          · apply Classical.byContradiction
            intro hei
            by_cases e1 : i = j
            · subst e1
              rw [hnj] at hS
              cases hS
            · obtain ⟨p, hp⟩ := there i h2
              obtain ⟨p1, q1, q2⟩ := eff_mem hei
              have hwi : (dd i).want = true := by
                obtain ⟨⟨_, _, hk⟩, _⟩ := hsteps i p hp
                rcases hk with ⟨_, _, h3, _⟩ | ⟨h1, _⟩
                · rw [h3] at q1; cases q1
                · exact h1
              have hcla : clash (dd j) (dd i) = true := by
                unfold clash Did.touches
                simp only [Bool.or_eq_true, List.any_eq_true]
                exact .inr ⟨p1, q1, .inl (by rw [q2]; simpa using hm)⟩
              exact behind i hS ((hsteps i p hp).2 hwi j (by omega) hcla)
        refine aop_ok hcx.types rfl hcx.fns hcx.call hI hE' (hfresh' _ (Nat.le_refl _) (by have := (hlen j hjlt).2.1 hwt; omega)) hrun' (fun p hp hge => hfresh' _ hge ((hlen j hjlt).2.2 p hp)) fun cv w' β' F' hL => ?_
        exact goOn cv _ w' β' F' rfl hL (fun h => by rw [hwt] at h; cases h)

/-- A REGION THAT DRAWS ITS ORDER. -/
theorem draw_ok (hcx : CxOK P cx) (hm : P.follows .mixedOrders = true) {ops : Array Oper} (hd : drawOK ops = true) {id : Nat} {Q : Exit → Act → World → Prop} {s s' : St} {a : Act} {w : World} {β : Place} {F : Froz} (h : runDraw cx ntmps ops (Region.before ops) ops.toList 0 s [] = some s') (hS : Sim B β0 ntmps s a w β F)
    (hQ : ∀ a' w' β' F', Sim B β0 ntmps s' a' w' β' F' → Q .normal a' w') : (Code.region id ops true).wp P Q a w := by
  obtain ⟨st, dd, h1, h2, h3⟩ := draw_steps ops.toList 0 s s' [] h rfl
  have hl : ops.toList.length = ops.size := by simp
  rw [hl] at h2
  have steps : ∀ k o, ops[k]? = some o → Step cx ntmps ops o (st k) (dd k) (st (k + 1)) ∧ ((dd k).want = true → ∀ i, i < k → clash (dd i) (dd k) = true → ((Region.before ops).getD k 0).testBit i = true) := by
    intro k o ho
    obtain ⟨g1, g2⟩ := h3 k o (by simpa using ho)
    refine ⟨g1, fun hw i hi hcl => ?_⟩
    have := g2 hw i (dd i) (by rw [if_neg (by omega), if_pos (by omega), Nat.sub_zero]) hcl
    rwa [Nat.zero_add] at this
  refine wp_region_any hm ?_
  have hrep : ∀ j, (Array.replicate ops.size false).getD j false = false := by
    intro j
    rw [Array.getD_eq_getD_getElem?, Array.getElem?_replicate]
    split <;> rfl
  have hlen : ∀ k, k ≤ ops.size → s.heap.length ≤ (st k).heap.length := by
    intro k
    induction k with
    | zero => intro _; rw [h1]; exact Nat.le_refl _
    | succ k ih =>
      intro hk
      have h5 := steps k ops[k] (by simp)
      obtain ⟨⟨_, _, h6⟩, _⟩ := h5
      have := ih (by omega)
      rcases h6 with ⟨_, _, _, _, h7⟩ | ⟨_, _, h7⟩
      · rw [h7]; exact this
      · rw [h7]
        have := puts_len (dd k).upd (st k).heap
        have := pad_len ((st k).heap.length + 1) ((st k).heap.puts (dd k).upd) (by omega)
        omega
  have hx : Ext β β F F w w.drew := ⟨fun _ _ h => h, fun _ _ h => ⟨h, rfl⟩⟩
  have e0 : ∀ k m, HV dd s.heap (fun x => (Array.replicate ops.size false).getD x false) k m = s.heap.at? m := by
    intro k m
    induction k with
    | zero => rfl
    | succ k ih =>
      unfold HV
      rw [if_neg (by rw [hrep]; simp)]
      exact ih
  have e1 : ∀ k t, EV ops dd s.env (fun x => (Array.replicate ops.size false).getD x false) k t = lk s.env t := by
    intro k t
    induction k with
    | zero => rfl
    | succ k ih =>
      unfold EV
      rw [if_neg (by rw [hrep]; simp)]
      exact ih
  refine draw_core hcx hd h1 steps (fun a' w' β' F' hS' => hQ a' w' β' F' (h2 ▸ hS')) ops.size _ a w.drew β F s.heap (by simp) ?_ (fun j o e hj => by rw [hrep] at hj; cases hj) hS.inv.drew (fun m => (e0 ops.size m).symm) (fun t => ?_) hS.defers hS.size
    (fun m hm => hS.fresh m (Nat.le_trans (hlen _ (Nat.le_refl _)) hm)) (fun j hj _ m hm _ => hS.fresh m (Nat.le_trans (hlen j (by omega)) hm)) (hS.ext.trans hx)
  · have := List.length_filter_le (fun i => !(Array.replicate ops.size false).getD i false) (List.range ops.size)
    simpa using this
  · rw [e1]
    exact hx.rel (hS.env t)
end

end Go.Proofs.Ytfdemnefkfkghaa.R
