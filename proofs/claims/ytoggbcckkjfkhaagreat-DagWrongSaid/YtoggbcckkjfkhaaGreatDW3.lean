/- Parts of the proof of YtoggbcckkjfkhaaGreatRDagWrongAll, one behind the other: RWe, RGS, R7a, R7b, R7c, R7d, R7e, R7f, R7g, RFz, R27b, Q27, R27c, R7h, R31a, Q31, R31b, R31c, R31d, R31e, R31f, R7i, R7j, R7k, R7l, R7m. -/
import Derived.Test.YtoggbcckkjfkhaaGreatDW0
import Derived.Test.YtoggbcckkjfkhaaGreatDW1
import Derived.Test.YtoggbcckkjfkhaaGreatDW2
import Derived.KernelRfl
/- Stepping through loops over iterators. -/
namespace Go.Proofs.YtoggbcckkjfkhaaGreat.R
set_option linter.unusedVariables false
set_option linter.unusedSimpArgs false
open Go

/-- Rounds, by the bound: with more of it there is no other answer. -/
structure CBs where
  f : Nat → CB
  mono : ∀ R R', R ≤ R' → ∀ args h x, f R args h = some x → f R' args h = some x

abbrev AftI := Ex → ISt → Prop
/-- An iterator's code, run from 's' on, ends as 'Q' says. -/
def WI (cx : Cx) (fr : Fr) (cb : CBs) (c : Code) (id : Option Nat) (s : ISt) (Q : AftI) : Prop := ∃ R ex s', icode cx fr.nt fr.keep R fr.gcs (cb.f R) c id s = some (ex, s') ∧ Q ex s'
def SQI (cx : Cx) (fr : Fr) (cb : CBs) (b : Code) (Q : AftI) : AftI := fun ex s => match ex with
  | .normal => WI cx fr cb b none s Q
  | ex => Q ex s
def BQI (i : Nat) (Q : AftI) : AftI := fun ex s => match ex with
  | .exit j => if j = i then Q .normal s else Q (.exit j) s
  | ex => Q ex s
def WCI (cx : Cx) (fr : Fr) (cb : CBs) (v : V) (a b : Code) (s : ISt) (Q : AftI) : Prop := match v with
  | .bool x => if x = true then WI cx fr cb a none s Q else WI cx fr cb b none s Q
  | _ => False
def WIO (cx : Cx) (nt : Nat) (cb : CBs) (ops : Array Oper) (rest : List Oper) (s : ISt) (Q : AftI) : Prop := ∃ R s', iOps cx nt (cb.f R) ops rest s = some s' ∧ Q .normal s'
/-- A round. -/
def CW (cb : CBs) (args : List V) (h : Heap) (K : Option Ex → Heap → Prop) : Prop := ∃ R st h', cb.f R args h = some (st, h') ∧ K st h'
def WIN (cx : Cx) (nt : Nat) (cb : CBs) (ops : Array Oper) (d : Option Tmp) (v : V) (rest : List Oper) (e : Env) (h : Heap) (y : List Nat) (st : Option Ex) (Q : AftI) : Prop := match d with
  | none => WIO cx nt cb ops rest ⟨e, h, y, st⟩ Q
  | some d => d < nt ∧ WIO cx nt cb ops rest ⟨(d, v) :: e, h, y, st⟩ Q
def WIY (cx : Cx) (nt : Nat) (cb : CBs) (ops : Array Oper) (ya : Option (List Operand)) (x : Option ((V × Upd) × List Nat)) (o : Oper) (rest : List Oper) (e : Env) (h : Heap) (y : List Nat) (st : Option Ex) (Q : AftI) : Prop := match ya with
  | some ars => st = none ∧ CW cb (evs e ars) h (fun st' h' => WIN cx nt cb ops o.dst (.bool st'.isNone) rest e h' (yDrop o.dst y) st' Q)
  | none => match x with
    | none => False
    | some ((v, u), _) => WIN cx nt cb ops o.dst v rest e (h.puts u) (yNext o y) st Q
def YQ (ops : Array Oper) (y : List Nat) (st : Option Ex) (Q : AftI) : Aft := fun ex t => Q ex ⟨t.env, t.heap, yDrops ops.toList y, st⟩

section
variable {cx : Cx} {fr : Fr} {nt : Nat} {cb : CBs} {ops : Array Oper} {a b c : Code} {id : Option Nat} {s : ISt} {Q : AftI}

theorem icode_mono {keep R R' : Nat} {gcs : List AGc} (hR : R ≤ R') {r : Ex × ISt} (h : icode cx nt keep R gcs (cb.f R) c id s = some r) : icode cx nt keep R' gcs (cb.f R') c id s = some r :=
  icode_le cx.T cx.fns (c := cx.call) (fun _ _ _ _ h => h) (cb.mono R R' hR) hR h
theorem iops_mono {R R' : Nat} (hR : R ≤ R') {rest : List Oper} {s' : ISt} (h : iOps cx nt (cb.f R) ops rest s = some s') : iOps cx nt (cb.f R') ops rest s = some s' :=
  iops_le cx.T cx.fns (c := cx.call) (fun _ _ _ _ h => h) (cb.mono R R' hR) h

theorem WI_skip : WI cx fr cb .skip id s Q ↔ Q .normal s := ⟨fun ⟨R, ex, s', h, q⟩ => by cases h; exact q, fun q => ⟨0, _, _, rfl, q⟩⟩
theorem WI_exit {i : Nat} : WI cx fr cb (.exit i) id s Q ↔ Q (.exit i) s := ⟨fun ⟨R, ex, s', h, q⟩ => by cases h; exact q, fun q => ⟨0, _, _, rfl, q⟩⟩
theorem WI_ret : WI cx fr cb .ret id s Q ↔ Q .ret s := ⟨fun ⟨R, ex, s', h, q⟩ => by cases h; exact q, fun q => ⟨0, _, _, rfl, q⟩⟩
theorem WI_seq : WI cx fr cb (.seq a b) id s Q ↔ WI cx fr cb a none s (SQI cx fr cb b Q) := by
  constructor
  · rintro ⟨R, ex, s', h, q⟩
    simp only [icode, Option.bind_eq_some_iff] at h
    obtain ⟨⟨ex1, s1⟩, h1, h2⟩ := h
    refine ⟨R, ex1, s1, h1, ?_⟩
    cases ex1 with
    | normal => exact ⟨R, ex, s', h2, q⟩
    | exit k => cases h2; exact q
    | ret => cases h2; exact q
  · rintro ⟨R, ex, s', h, q⟩
    cases ex with
    | normal =>
      obtain ⟨R2, ex2, s2, h2, q2⟩ := q
      refine ⟨max R R2, ex2, s2, ?_, q2⟩
      simp only [icode, Option.bind_eq_some_iff]
      exact ⟨_, icode_mono (Nat.le_max_left _ _) h, icode_mono (Nat.le_max_right _ _) h2⟩
    | exit k => exact ⟨R, _, _, by simp only [icode, h]; rfl, q⟩
    | ret => exact ⟨R, _, _, by simp only [icode, h]; rfl, q⟩
theorem SQI_normal : SQI cx fr cb b Q .normal s ↔ WI cx fr cb b none s Q := Iff.rfl
theorem SQI_exit {i : Nat} : SQI cx fr cb b Q (.exit i) s ↔ Q (.exit i) s := Iff.rfl
theorem SQI_ret : SQI cx fr cb b Q .ret s ↔ Q .ret s := Iff.rfl

theorem WI_block {i : Nat} : WI cx fr cb (.block i c) id s Q ↔ WI cx fr cb c (some i) s (BQI i Q) := by
  constructor
  · rintro ⟨R, ex, s', h, q⟩
    simp only [icode, Option.map_eq_some_iff] at h
    obtain ⟨⟨ex1, s1⟩, h1, h2⟩ := h
    refine ⟨R, ex1, s1, h1, ?_⟩
    cases ex1 with
    | normal => cases h2; exact q
    | exit k =>
      simp only at h2
      show if k = i then _ else _
      split
      · rename_i e; rw [if_pos e] at h2; cases h2; exact q
      · rename_i e; rw [if_neg e] at h2; cases h2; exact q
    | ret => cases h2; exact q
  · rintro ⟨R, ex, s', h, q⟩
    cases ex with
    | normal => exact ⟨R, _, _, by simp only [icode, h]; rfl, q⟩
    | exit k =>
      by_cases e : k = i
      · have q' : Q .normal s' := by
          have : (if k = i then Q .normal s' else Q (.exit k) s') := q
          rwa [if_pos e] at this
        exact ⟨R, .normal, s', by simp only [icode, h, Option.map_some, if_pos e], q'⟩
      · have q' : Q (.exit k) s' := by
          have : (if k = i then Q .normal s' else Q (.exit k) s') := q
          rwa [if_neg e] at this
        exact ⟨R, .exit k, s', by simp only [icode, h, Option.map_some, if_neg e], q'⟩
    | ret => exact ⟨R, _, _, by simp only [icode, h]; rfl, q⟩
theorem BQI_normal {i : Nat} : BQI i Q .normal s ↔ Q .normal s := Iff.rfl
theorem BQI_exit {i j : Nat} : BQI i Q (.exit j) s ↔ if j = i then Q .normal s else Q (.exit j) s := Iff.rfl
theorem BQI_ret {i : Nat} : BQI i Q .ret s ↔ Q .ret s := Iff.rfl

theorem WI_cond {x : Operand} : WI cx fr cb (.cond x a b) id s Q ↔ WCI cx fr cb (ev s.env x) a b s Q := by
  unfold WI WCI
  simp only [icode]
  generalize ev s.env x = v
  cases v with
  | bool y =>
    cases y with
    | true => rfl
    | false => simp [WI]
  | _ => simp
theorem WCI_bool {x : Bool} : WCI cx fr cb (.bool x) a b s Q ↔ if x = true then WI cx fr cb a none s Q else WI cx fr cb b none s Q := Iff.rfl

theorem WI_region {i : Nat} : WI cx fr cb (.region i ops false) id s Q ↔ WIO cx fr.nt cb ops ops.toList s Q := by
  constructor
  · rintro ⟨R, ex, s', h, q⟩
    simp only [icode, Bool.false_eq_true, if_false, Option.map_eq_some_iff, Prod.mk.injEq] at h
    obtain ⟨s1, h1, rfl, rfl⟩ := h
    exact ⟨R, s1, h1, q⟩
  · rintro ⟨R, s', h, q⟩
    exact ⟨R, _, _, by simp only [icode, Bool.false_eq_true, if_false, h]; rfl, q⟩
theorem WI_draw {i : Nat} {e : Env} {h : Heap} {y : List Nat} {st : Option Ex} : WI cx fr cb (.region i ops true) id ⟨e, h, y, st⟩ Q ↔ (ops.toList.all (fun o => (yArgs o y).isNone)) = true ∧ WQ cx fr.nt ops (Region.before ops) ops.toList 0 ⟨e, h⟩ QD.nil (YQ ops y st Q) := by
  constructor
  · rintro ⟨R, ex, s', h, q⟩
    simp only [icode, if_true] at h
    split at h
    · rename_i hall
      simp only [Option.map_eq_some_iff, Prod.mk.injEq] at h
      obtain ⟨t, h1, rfl, rfl⟩ := h
      exact ⟨hall, t, h1, q⟩
    · cases h
  · rintro ⟨hall, t, h1, q⟩
    have h1' : runDraw cx fr.nt ops (Region.before ops) ops.toList 0 ⟨e, h⟩ [] = some t := h1
    exact ⟨0, _, _, by simp only [icode, if_true, if_pos hall, h1']; rfl, q⟩
theorem YQ_normal {y : List Nat} {st : Option Ex} {e : Env} {h : Heap} : YQ ops y st Q .normal ⟨e, h⟩ ↔ Q .normal ⟨e, h, yDrops ops.toList y, st⟩ := Iff.rfl

theorem WIO_nil : WIO cx nt cb ops [] s Q ↔ Q .normal s := ⟨fun ⟨R, s', h, q⟩ => by cases h; exact q, fun q => ⟨0, s, rfl, q⟩⟩
theorem WIN_some {d : Nat} {v : V} {r : List Oper} {e : Env} {h : Heap} {y : List Nat} {st : Option Ex} : WIN cx nt cb ops (some d) v r e h y st Q ↔ d < nt ∧ WIO cx nt cb ops r ⟨(d, v) :: e, h, y, st⟩ Q := Iff.rfl
theorem WIN_none {v : V} {r : List Oper} {e : Env} {h : Heap} {y : List Nat} {st : Option Ex} : WIN cx nt cb ops none v r e h y st Q ↔ WIO cx nt cb ops r ⟨e, h, y, st⟩ Q := Iff.rfl
theorem WIN_iff {d : Option Tmp} {v : V} {r : List Oper} {e : Env} {h : Heap} {y : List Nat} {st : Option Ex} : WIN cx nt cb ops d v r e h y st Q ↔ ∃ e', putDst nt e d v = some e' ∧ WIO cx nt cb ops r ⟨e', h, y, st⟩ Q := by
  cases d with
  | none => simp [WIN, putDst]
  | some d =>
    simp only [WIN, putDst]
    by_cases hd : d < nt
    · simp [hd]
    · simp [hd]
theorem WIO_cons {d : Option Tmp} {op : Op} {t : TypeId} {p : String} {af : Array Edge} {r : List Oper} {e : Env} {h : Heap} {y : List Nat} {st : Option Ex} : WIO cx nt cb ops ({ dst := d, op, type := t, pos := p, after := af, guard := none } :: r) ⟨e, h, y, st⟩ Q ↔
    WIY cx nt cb ops (yArgs { dst := d, op, type := t, pos := p, after := af, guard := none } y) ((aop cx h.length e { dst := d, op, type := t, pos := p, after := af, guard := none }).run h []) { dst := d, op, type := t, pos := p, after := af, guard := none } r e h y st Q := by
  generalize ho : ({ dst := d, op, type := t, pos := p, after := af, guard := none } : Oper) = o
  have hw : wants ops e o = some true := by subst ho; rfl
  unfold WIY
  constructor
  · rintro ⟨R, s', h1, q⟩
    simp only [iOps, hw] at h1
    cases hy : yArgs o y with
    | some ars =>
      simp only [hy] at h1 ⊢
      cases st with
      | some x => simp at h1
      | none =>
        simp only at h1
        cases hc : cb.f R (evs e ars) h with
        | none => simp [hc] at h1
        | some x =>
          obtain ⟨st', h'⟩ := x
          simp only [hc, Option.bind_eq_some_iff] at h1
          obtain ⟨e', h2, h3⟩ := h1
          exact ⟨rfl, R, st', h', hc, WIN_iff.2 ⟨e', h2, R, s', h3, q⟩⟩
    | none =>
      simp only [hy] at h1 ⊢
      cases hrun : (aop cx h.length e o).run h [] with
      | none => simp [hrun] at h1
      | some x =>
        obtain ⟨⟨v, u⟩, l⟩ := x
        simp only [hrun, Option.bind_eq_some_iff] at h1 ⊢
        obtain ⟨e', h2, h3⟩ := h1
        exact WIN_iff.2 ⟨e', h2, R, s', h3, q⟩
  · intro hh
    cases hy : yArgs o y with
    | some ars =>
      simp only [hy] at hh
      obtain ⟨rfl, R, st', h', hc, hk⟩ := hh
      obtain ⟨e', h2, R2, s', h3, q⟩ := WIN_iff.1 hk
      refine ⟨max R R2, s', ?_, q⟩
      simp only [iOps, hw, hy, cb.mono R _ (Nat.le_max_left R R2) _ _ _ hc, Option.bind_eq_some_iff]
      exact ⟨e', h2, iops_mono (Nat.le_max_right _ _) h3⟩
    | none =>
      simp only [hy] at hh
      cases hrun : (aop cx h.length e o).run h [] with
      | none => simp [hrun] at hh
      | some x =>
        obtain ⟨⟨v, u⟩, l⟩ := x
        simp only [hrun] at hh
        obtain ⟨e', h2, R2, s', h3, q⟩ := WIN_iff.1 hh
        refine ⟨R2, s', ?_, q⟩
        simp only [iOps, hw, hy, hrun, Option.bind_eq_some_iff]
        exact ⟨e', h2, h3⟩
theorem WIY_yield {ars : List Operand} {x : Option ((V × Upd) × List Nat)} {o : Oper} {r : List Oper} {e : Env} {h : Heap} {y : List Nat} {st : Option Ex} : WIY cx nt cb ops (some ars) x o r e h y st Q ↔ st = none ∧ CW cb (evs e ars) h (fun st' h' => WIN cx nt cb ops o.dst (.bool st'.isNone) r e h' (yDrop o.dst y) st' Q) := Iff.rfl
theorem WIY_quiet {v : V} {u : Upd} {l : List Nat} {o : Oper} {r : List Oper} {e : Env} {h : Heap} {y : List Nat} {st : Option Ex} : WIY cx nt cb ops none (some ((v, u), l)) o r e h y st Q ↔ WIN cx nt cb ops o.dst v r e (h.puts u) (yNext o y) st Q := Iff.rfl

/-- A loop of an iterator. -/
def LPI (fr : Fr) (id : Option Nat) {ι : Type} (S : ι → ISt) (m : ι → Nat) (I : ι → Prop) (Q : AftI) (n : Nat) : AftI := fun ex s => match ex with
  | .normal => ∃ y, I y ∧ m y < n ∧ head fr.keep (gcOf fr.gcs id) ⟨s.env, s.heap⟩ = some ⟨(S y).env, (S y).heap⟩ ∧ yHead (gcOf fr.gcs id) s.y = (S y).y ∧ s.stop = (S y).stop
  | ex => Q ex s
theorem LPI_exit {ι : Type} {S : ι → ISt} {m : ι → Nat} {I : ι → Prop} {n i : Nat} : LPI fr id S m I Q n (.exit i) s ↔ Q (.exit i) s := Iff.rfl
theorem LPI_ret {ι : Type} {S : ι → ISt} {m : ι → Nat} {I : ι → Prop} {n : Nat} : LPI fr id S m I Q n .ret s ↔ Q .ret s := Iff.rfl

theorem iloop_rule {ι : Type} (S : ι → ISt) (m : ι → Nat) (I : ι → Prop) (step : ∀ x, I x → WI cx fr cb c none (S x) (LPI fr id S m I Q (m x))) : ∀ (x : ι) (s : ISt), I x → head fr.keep (gcOf fr.gcs id) ⟨s.env, s.heap⟩ = some ⟨(S x).env, (S x).heap⟩ → yHead (gcOf fr.gcs id) s.y = (S x).y → s.stop = (S x).stop → WI cx fr cb (.loop c) id s Q := by
  have key : ∀ (n : Nat) (x : ι) (s : ISt), m x < n → I x → head fr.keep (gcOf fr.gcs id) ⟨s.env, s.heap⟩ = some ⟨(S x).env, (S x).heap⟩ → yHead (gcOf fr.gcs id) s.y = (S x).y → s.stop = (S x).stop → WI cx fr cb (.loop c) id s Q := by
    intro n
    induction n with
    | zero => intro x s h; omega
    | succ n ih =>
      intro x s hm hI hs hy hst
      obtain ⟨R, ex, s', h, q⟩ := step x hI
      have e0 : ({ env := (S x).env, heap := (S x).heap, y := yHead (gcOf fr.gcs id) s.y, stop := s.stop } : ISt) = S x := by rw [hy, hst]
      cases ex with
      | normal =>
        obtain ⟨y, hy1, hlt, hh1, hh2, hh3⟩ := q
        obtain ⟨R2, ex2, s2, h2, q2⟩ := ih y s' (by omega) hy1 hh1 hh2 hh3
        refine ⟨max R R2 + 1, ex2, s2, ?_, q2⟩
        simp only [icode] at h2 ⊢
        unfold iRounds
        rw [hs]
        simp only [Option.bind_some, e0, icode_mono (show R ≤ max R R2 + 1 by omega) h]
        refine iRounds_mono (fun s r hb => ?_) (show R2 ≤ max R R2 by omega) h2
        rw [Option.bind_eq_some_iff] at hb ⊢
        obtain ⟨s0, h3, h4⟩ := hb
        exact ⟨s0, h3, icode_mono (by omega) h4⟩
      | exit i =>
        refine ⟨R + 1, _, _, ?_, q⟩
        simp only [icode]
        unfold iRounds
        rw [hs]
        simp only [Option.bind_some, e0, icode_mono (show R ≤ R + 1 by omega) h]
      | ret =>
        refine ⟨R + 1, _, _, ?_, q⟩
        simp only [icode]
        unfold iRounds
        rw [hs]
        simp only [Option.bind_some, e0, icode_mono (show R ≤ R + 1 by omega) h]
  exact fun x s hI hs hy hst => key _ x s (Nat.lt_succ_self _) hI hs hy hst
theorem WI_mono {Q' : AftI} (h : ∀ ex s, Q ex s → Q' ex s) : WI cx fr cb c id s Q → WI cx fr cb c id s Q' := fun ⟨R, ex, s', h1, q⟩ => ⟨R, ex, s', h1, h _ _ q⟩
end

section
variable {cx : Cx} {fr : Fr} {id : Option Nat} {assign body : Code} {env : Env} {ps : List Tmp} {Q : Aft}
/-- The rounds of a loop over an iterator. -/
def rcb (cx : Cx) (nt : Nat) (gcs : List AGc) (ps : List Tmp) (env : Env) (assign body : Code) : CBs where
  f R := roundOf nt ps env (fun k s1 => acode cx nt k R gcs assign none s1) (fun k s1 => acode cx nt k R gcs body none s1)
  mono R R' hR args h x hx := by
    unfold roundOf at hx ⊢
    split at hx
    · rename_i hl
      rw [if_pos hl]
      cases ha : acode cx nt h.length R gcs assign none { env := bindPs ps args env, heap := h } with
      | none => simp [ha] at hx
      | some z =>
        obtain ⟨ex, s1⟩ := z
        simp only [ha, acode_mono hR ha] at hx ⊢
        cases ex with
        | normal =>
          simp only [Option.map_eq_some_iff] at hx ⊢
          obtain ⟨z, hz1, hz2⟩ := hx
          exact ⟨z, acode_mono hR hz1, hz2⟩
        | exit k => cases hx
        | ret => cases hx
    · cases hx
def stopOf : Ex → Option Ex
  | .normal => none
  | ex => some ex
def onlyN (P : St → Prop) : Aft := fun ex s => match ex with
  | .normal => P s
  | _ => False
theorem onlyN_normal {P : St → Prop} {s : St} : onlyN P .normal s ↔ P s := Iff.rfl
def stopped (K : Option Ex → Heap → Prop) : Aft := fun ex s => K (stopOf ex) s.heap
theorem stopped_normal {K : Option Ex → Heap → Prop} {e : Env} {h : Heap} : stopped K .normal ⟨e, h⟩ ↔ K none h := Iff.rfl
theorem stopped_ret {K : Option Ex → Heap → Prop} {e : Env} {h : Heap} : stopped K .ret ⟨e, h⟩ ↔ K (some .ret) h := Iff.rfl
theorem stopped_exit {K : Option Ex → Heap → Prop} {i : Nat} {e : Env} {h : Heap} : stopped K (.exit i) ⟨e, h⟩ ↔ K (some (.exit i)) h := Iff.rfl
theorem CW_round {nt : Nat} {gcs : List AGc} {args : List V} {h : Heap} {K : Option Ex → Heap → Prop} : CW (rcb cx nt gcs ps env assign body) args h K ↔
    (args.length = ps.length ∧ ps.all (· < nt) = true) ∧ W cx ⟨nt, h.length, gcs⟩ assign none ⟨bindPs ps args env, h⟩ (onlyN fun s1 => W cx ⟨nt, h.length, gcs⟩ body none s1 (stopped K)) := by
  constructor
  · rintro ⟨R, st, h', hx, hk⟩
    simp only [rcb] at hx
    unfold roundOf at hx
    split at hx
    · rename_i hl
      refine ⟨by simpa using hl, ?_⟩
      cases ha : acode cx nt h.length R gcs assign none { env := bindPs ps args env, heap := h } with
      | none => simp [ha] at hx
      | some z =>
        obtain ⟨ex, s1⟩ := z
        simp only [ha] at hx
        cases ex with
        | normal =>
          simp only [Option.map_eq_some_iff, Prod.mk.injEq] at hx
          obtain ⟨⟨ex, s2⟩, hz1, rfl, rfl⟩ := hx
          refine ⟨R, .normal, s1, ha, R, ex, s2, hz1, ?_⟩
          cases ex <;> exact hk
        | exit k => cases hx
        | ret => cases hx
    · cases hx
  · rintro ⟨hl, R, ex1, s1, ha, hb⟩
    cases ex1 with
    | normal =>
      obtain ⟨R2, ex, s2, hz, hk⟩ := hb
      refine ⟨max R R2, stopOf ex, s2.heap, ?_, hk⟩
      have ha' : acode cx nt h.length R gcs assign none ⟨bindPs ps args env, h⟩ = some (.normal, s1) := ha
      have hz' : acode cx nt h.length R2 gcs body none s1 = some (ex, s2) := hz
      simp only [rcb]
      unfold roundOf
      rw [if_pos (by simpa using hl)]
      simp only [acode_mono (Nat.le_max_left R R2) ha', acode_mono (Nat.le_max_right R R2) hz', Option.map_some]
      cases ex <;> rfl
    | exit k => exact hb.elim
    | ret => exact hb.elim

/-- Behind a loop over an iterator. -/
def RQ (env : Env) (Q : Aft) : AftI := fun ex t => match ex with
  | .normal | .ret => Q (match t.stop with | none => Ex.normal | some ex => ex) ⟨env, t.heap⟩
  | _ => False
theorem RQ_normal {e : Env} {h : Heap} {y : List Nat} {st : Option Ex} : RQ env Q .normal ⟨e, h, y, st⟩ ↔ Q (match st with | none => Ex.normal | some ex => ex) ⟨env, h⟩ := Iff.rfl
theorem RQ_ret {e : Env} {h : Heap} {y : List Nat} {st : Option Ex} : RQ env Q .ret ⟨e, h, y, st⟩ ↔ Q (match st with | none => Ex.normal | some ex => ex) ⟨env, h⟩ := Iff.rfl
def WR (cx : Cx) (fr : Fr) (v : V) (ps : Array Tmp) (assign body : Code) (s : St) (Q : Aft) : Prop := match v with
  | .clo gf caps => match cx.fns gf with
    | some fn => (fn.intr = none ∧ fn.res.length = 0 ∧ caps.length + 1 ≤ fn.ntmps) ∧ WI cx ⟨fn.ntmps, s.heap.length, fn.gcs⟩ (rcb cx fr.nt fr.gcs ps.toList s.env assign body) fn.body none ⟨argEnv 0 (.undef :: caps), s.heap, [0], none⟩ (RQ s.env Q)
    | none => False
  | _ => False
theorem W_range {g : Operand} {ps : Array Tmp} {s : St} : W cx fr (.rangeFunc g ps assign body) id s Q ↔ WR cx fr (ev s.env g) ps assign body s Q := by
  unfold W WR
  simp only [acode]
  generalize ev s.env g = v
  cases v with
  | clo gf caps =>
    simp only
    cases hf : cx.fns gf with
    | none => simp
    | some fn =>
      simp only
      have e0 : (fn.intr.isSome || fn.res.length != 0 || decide (fn.ntmps < caps.length + 1)) = false ↔ (fn.intr = none ∧ fn.res.length = 0 ∧ caps.length + 1 ≤ fn.ntmps) := by
        simp [and_assoc]
      constructor
      · rintro ⟨R, ex, s', h, q⟩
        split at h
        · cases h
        · rename_i hno
          refine ⟨e0.1 (by simpa using hno), ?_⟩
          rw [Option.bind_eq_some_iff] at h
          obtain ⟨⟨ex0, t⟩, h1, h2⟩ := h
          refine ⟨R, ex0, t, h1, ?_⟩
          cases ex0 with
          | normal => cases h2; exact q
          | ret => cases h2; exact q
          | exit i => cases h2
      · rintro ⟨hno, R, ex0, t, h1, q⟩
        have hno' := e0.2 hno
        have h1' : icode cx fn.ntmps s.heap.length R fn.gcs (roundOf fr.nt ps.toList s.env (fun k s1 => acode cx fr.nt k R fr.gcs assign none s1) (fun k s1 => acode cx fr.nt k R fr.gcs body none s1)) fn.body none ⟨argEnv 0 (.undef :: caps), s.heap, [0], none⟩ = some (ex0, t) := h1
        cases ex0 with
        | normal => exact ⟨R, _, _, by rw [if_neg (by rw [hno']; simp), h1']; rfl, q⟩
        | ret => exact ⟨R, _, _, by rw [if_neg (by rw [hno']; simp), h1']; rfl, q⟩
        | exit i => exact q.elim
  | _ => simp
end
end Go.Proofs.YtoggbcckkjfkhaaGreat.R
/- The machine's steps, as one set. -/
namespace Go.Proofs.YtoggbcckkjfkhaaGreat.R
open Go
attribute [go_sem] arrOf loadA storeA allocA indexAddrA indexA sliceA arrayAtR convR isU8 makeSliceR W_skip W_exit W_ret W_seq SQ_normal SQ_exit SQ_ret W_block BQ_normal BQ_exit BQ_ret W_cond WC_bool W_draw_q WQ_nil WQ_cons WQ_guard QG_true QG_false QA_quiet Heap.pad List.nil_append List.cons_append pickR List.take_succ_cons List.take_zero List.take_nil List.drop_zero List.drop_succ_cons binStr Nat.reduceLeDiff W_region WO_nil WO_cons WO_move WO_assign WO_guard WG_true WG_false WA_some WA_none LP_exit LP_ret aop ev evs lk ofConst ofCell Nat.beq cond_true cond_false Bool.false_eq_true if_false if_true bin binInt un ok Rd.run Nat.reduceLT true_and Heap.puts Heap.put Heap.at? decide_true decide_false yields skipped isSkip indexAddrR fieldAddrR loadR builtinR lenB lenKd lenR conv partOf TI.agg List.length_map List.length_cons List.length_nil List.getElem?_map List.getElem?_cons_zero List.getElem?_cons_succ Option.map_some Option.bind_some Nat.reduceAdd Nat.reduceEqDiff beq_iff_eq decide_eq_true_eq Int.natCast_eq_zero natOf_cast FQ_ret FQ_normal resAll resOne resCell resArr oneOf finish_plain pl_int pl_bool pl_str pl_fz pl_agg pl_tup pl_clo pl_undef pl_nil pl_cons Bool.and_self Bool.and_true all_int all_str int_enc str_enc bool_enc Int.ofNat_lt boxR allocR storeR overwrite buildR fillS Option.isSome_some V.cells V.isCell List.all_cons List.all_nil Bool.true_and not_false_eq_true and_true and_self V.anyIds V.hasIds Bool.or_false Bool.not_false Bool.or_self buildSliceR parts fillR List.replicate_succ List.replicate_zero List.set_cons_zero rowIds appendB rows? append_look appL_some append_none List.map_nil Nat.reduceMul List.length_append false_or ne_eq Nat.one_ne_zero Nat.lt_add_one or_self extractR max2 min2 List.getElem?_toArray List.singleton_append List.append_nil Bool.and_false Bool.false_and eqV4 Bool.true_beq Bool.false_beq Bool.not_true WB_nil WB_cons WB_guard BG_true BG_false BG_false_none BA_some BA_none QA_noise QA_noise_none sigQ_nil sigQ_snoc ids1 apB hits hasN Bool.true_or Bool.false_or Bool.or_true Nat.zero_add List.size_toArray EQ_ret EQ_normal W_range WR WI_skip WI_exit WI_ret WI_seq SQI_normal SQI_exit SQI_ret WI_block BQI_normal BQI_exit BQI_ret WI_cond WCI_bool WI_region WI_draw YQ_normal WIO_nil WIN_some WIN_none WIO_cons WIY_yield WIY_quiet LPI_exit LPI_ret CW_round onlyN_normal stopped_normal stopped_ret stopped_exit RQ_normal RQ_ret yArgs yNext yDrop yDrops bindPs okOr copyB clearB appendZ
end Go.Proofs.YtoggbcckkjfkhaaGreat.R
/- Chapter 25's law DagWrong: which configurations may be (printed by mk7a.py). -/
namespace Go.Proofs.YtoggbcckkjfkhaaGreat.R
open Go Go.Proofs
set_option linter.unusedSimpArgs false
set_option linter.unusedVariables false
set_option maxRecDepth 10000
set_option maxHeartbeats 1000000

def inB (n a b : Int) : Bool := decide (a ≤ n) && decide (n ≤ b)
theorem lim111 (n a b : Int) : lim T fns 111 [.int .i64 n, .int .i64 a, .int .i64 b] [] = some (.bool (inB n a b), []) := by
  refine fn_rule (fn := fn111) rfl rfl (by simp [fn111]) ?_
  unfold fn111
  simp only [Tryz.f111, Option.getD_some, argEnv, List.map_nil, List.length_nil]
  unfold inB
  by_cases h1 : a ≤ n
  · have e1 : (n ≥ a) = True := eq_true h1
    simp only [go_sem, T_3, e1, h1]
  · have e1 : (n ≥ a) = False := eq_false h1
    simp only [go_sem, T_3, e1, h1]
theorem call111 (n a b : Int) (k : Nat) : callV (LX T fns) k (.clo 111 []) [.int .i64 n, .int .i64 a, .int .i64 b] = .pure (.bool (inB n a b), []) := callV_plain (fn := fn111) rfl rfl rfl (lim111 n a b) k
def confOK (c : S23) : Bool := inB c.f0 16 4096 && (inB c.f1 1 256 && (inB c.f2 4 6 && (inB c.f3 2 16 && (inB c.f4 2 8 && (inB c.f5 1 1024 && (inB c.f6 2 4294967294))))))
theorem lim59 (c : S23) : lim T fns 59 [.agg (k23.enc c)] [] = some (.bool (confOK c), []) := by
  refine fn_rule (fn := fn59) rfl rfl (by simp [fn59]) ?_
  unfold fn59
  simp only [Tryz.f59, Option.getD_some, argEnv, List.map_nil, List.length_nil]
  unfold confOK
  have q0 := fun k => call111 c.f0 16 4096 k
  have q1 := fun k => call111 c.f1 1 256 k
  have q2 := fun k => call111 c.f2 4 6 k
  have q3 := fun k => call111 c.f3 2 16 k
  have q4 := fun k => call111 c.f4 2 8 k
  have q5 := fun k => call111 c.f5 1 1024 k
  have q6 := fun k => call111 c.f6 2 4294967294 k
  cases h0 : inB c.f0 16 4096 with
  | false =>
    rw [h0] at q0
    simp only [go_sem, T_3, T_23, k23_enc, q0, Bool.false_and, Bool.true_and]
  | true =>
    rw [h0] at q0
    cases h1 : inB c.f1 1 256 with
    | false =>
      rw [h1] at q1
      simp only [go_sem, T_3, T_23, k23_enc, q0, q1, Bool.false_and, Bool.true_and]
    | true =>
      rw [h1] at q1
      cases h2 : inB c.f2 4 6 with
      | false =>
        rw [h2] at q2
        simp only [go_sem, T_3, T_23, k23_enc, q0, q1, q2, Bool.false_and, Bool.true_and]
      | true =>
        rw [h2] at q2
        cases h3 : inB c.f3 2 16 with
        | false =>
          rw [h3] at q3
          simp only [go_sem, T_3, T_23, k23_enc, q0, q1, q2, q3, Bool.false_and, Bool.true_and]
        | true =>
          rw [h3] at q3
          cases h4 : inB c.f4 2 8 with
          | false =>
            rw [h4] at q4
            simp only [go_sem, T_3, T_23, k23_enc, q0, q1, q2, q3, q4, Bool.false_and, Bool.true_and]
          | true =>
            rw [h4] at q4
            cases h5 : inB c.f5 1 1024 with
            | false =>
              rw [h5] at q5
              simp only [go_sem, T_3, T_23, k23_enc, q0, q1, q2, q3, q4, q5, Bool.false_and, Bool.true_and]
            | true =>
              rw [h5] at q5
              cases h6 : inB c.f6 2 4294967294 with
              | false =>
                rw [h6] at q6
                simp only [go_sem, T_3, T_23, k23_enc, q0, q1, q2, q3, q4, q5, q6, Bool.false_and, Bool.true_and]
              | true =>
                rw [h6] at q6
                simp only [go_sem, T_3, T_23, k23_enc, q0, q1, q2, q3, q4, q5, q6, Bool.false_and, Bool.true_and]
theorem call59 (c : S23) (k : Nat) : callV (LX T fns) k (.clo 59 []) [.agg (k23.enc c)] = .pure (.bool (confOK c), []) := callV_plain (fn := fn59) rfl rfl rfl (lim59 c) k
theorem lim8 (c : S23) : lim T fns 8 [.agg (k23.enc c)] [] = some (.bool (confOK c), []) := by
  refine fn_rule (fn := fn8) rfl rfl (by simp [fn8]) ?_
  unfold fn8
  simp only [Tryz.f8, Option.getD_some, argEnv, List.map_nil, List.length_nil]
  by_cases h0 : c.f0 < 16
  · have p0 : (c.f0 < 16) = True := eq_true h0
    have e : confOK c = false := by simp [confOK, inB]; omega
    rw [e]
    simp only [go_sem, T_3, T_23, k23_enc, p0]
  have p0 : (c.f0 < 16) = False := eq_false h0
  by_cases h1 : c.f0 > 4096
  · have p1 : (c.f0 > 4096) = True := eq_true h1
    have e : confOK c = false := by simp [confOK, inB]; omega
    rw [e]
    simp only [go_sem, T_3, T_23, k23_enc, p0, p1]
  have p1 : (c.f0 > 4096) = False := eq_false h1
  by_cases h2 : c.f1 < 1
  · have p2 : (c.f1 < 1) = True := eq_true h2
    have e : confOK c = false := by simp [confOK, inB]; omega
    rw [e]
    simp only [go_sem, T_3, T_23, k23_enc, p0, p1, p2]
  have p2 : (c.f1 < 1) = False := eq_false h2
  by_cases h3 : c.f1 > 256
  · have p3 : (c.f1 > 256) = True := eq_true h3
    have e : confOK c = false := by simp [confOK, inB]; omega
    rw [e]
    simp only [go_sem, T_3, T_23, k23_enc, p0, p1, p2, p3]
  have p3 : (c.f1 > 256) = False := eq_false h3
  by_cases h4 : c.f2 < 4
  · have p4 : (c.f2 < 4) = True := eq_true h4
    have e : confOK c = false := by simp [confOK, inB]; omega
    rw [e]
    simp only [go_sem, T_3, T_23, k23_enc, p0, p1, p2, p3, p4]
  have p4 : (c.f2 < 4) = False := eq_false h4
  by_cases h5 : c.f2 > 6
  · have p5 : (c.f2 > 6) = True := eq_true h5
    have e : confOK c = false := by simp [confOK, inB]; omega
    rw [e]
    simp only [go_sem, T_3, T_23, k23_enc, p0, p1, p2, p3, p4, p5]
  have p5 : (c.f2 > 6) = False := eq_false h5
  by_cases h6 : c.f3 < 2
  · have p6 : (c.f3 < 2) = True := eq_true h6
    have e : confOK c = false := by simp [confOK, inB]; omega
    rw [e]
    simp only [go_sem, T_3, T_23, k23_enc, p0, p1, p2, p3, p4, p5, p6]
  have p6 : (c.f3 < 2) = False := eq_false h6
  by_cases h7 : c.f3 > 16
  · have p7 : (c.f3 > 16) = True := eq_true h7
    have e : confOK c = false := by simp [confOK, inB]; omega
    rw [e]
    simp only [go_sem, T_3, T_23, k23_enc, p0, p1, p2, p3, p4, p5, p6, p7]
  have p7 : (c.f3 > 16) = False := eq_false h7
  by_cases h8 : c.f4 < 2
  · have p8 : (c.f4 < 2) = True := eq_true h8
    have e : confOK c = false := by simp [confOK, inB]; omega
    rw [e]
    simp only [go_sem, T_3, T_23, k23_enc, p0, p1, p2, p3, p4, p5, p6, p7, p8]
  have p8 : (c.f4 < 2) = False := eq_false h8
  by_cases h9 : c.f4 > 8
  · have p9 : (c.f4 > 8) = True := eq_true h9
    have e : confOK c = false := by simp [confOK, inB]; omega
    rw [e]
    simp only [go_sem, T_3, T_23, k23_enc, p0, p1, p2, p3, p4, p5, p6, p7, p8, p9]
  have p9 : (c.f4 > 8) = False := eq_false h9
  by_cases h10 : c.f5 ≥ 1
  rotate_left
  · have p10 : (c.f5 ≥ 1) = False := eq_false h10
    have e : confOK c = false := by simp [confOK, inB]; omega
    rw [e]
    simp only [go_sem, T_3, T_23, k23_enc, p0, p1, p2, p3, p4, p5, p6, p7, p8, p9, p10]
  have p10 : (c.f5 ≥ 1) = True := eq_true h10
  by_cases h11 : c.f5 ≤ 1024
  rotate_left
  · have p11 : (c.f5 ≤ 1024) = False := eq_false h11
    have e : confOK c = false := by simp [confOK, inB]; omega
    rw [e]
    simp only [go_sem, T_3, T_23, k23_enc, p0, p1, p2, p3, p4, p5, p6, p7, p8, p9, p10, p11]
  have p11 : (c.f5 ≤ 1024) = True := eq_true h11
  by_cases h12 : c.f6 ≥ 2
  rotate_left
  · have p12 : (c.f6 ≥ 2) = False := eq_false h12
    have e : confOK c = false := by simp [confOK, inB]; omega
    rw [e]
    simp only [go_sem, T_3, T_23, k23_enc, p0, p1, p2, p3, p4, p5, p6, p7, p8, p9, p10, p11, p12]
  have p12 : (c.f6 ≥ 2) = True := eq_true h12
  by_cases h13 : c.f6 ≤ 4294967294
  rotate_left
  · have p13 : (c.f6 ≤ 4294967294) = False := eq_false h13
    have e : confOK c = false := by simp [confOK, inB]; omega
    rw [e]
    simp only [go_sem, T_3, T_23, k23_enc, p0, p1, p2, p3, p4, p5, p6, p7, p8, p9, p10, p11, p12, p13]
  have p13 : (c.f6 ≤ 4294967294) = True := eq_true h13
  have e : confOK c = true := by simp [confOK, inB]; omega
  rw [e]
  simp only [go_sem, T_3, T_23, k23_enc, p0, p1, p2, p3, p4, p5, p6, p7, p8, p9, p10, p11, p12, p13]
theorem call8 (c : S23) (k : Nat) : callV (LX T fns) k (.clo 8 []) [.agg (k23.enc c)] = .pure (.bool (confOK c), []) := callV_plain (fn := fn8) rfl rfl rfl (lim8 c) k
end Go.Proofs.YtoggbcckkjfkhaaGreat.R
/- Chapter 25's law DagWrong: how many blocks a disk has. -/
namespace Go.Proofs.YtoggbcckkjfkhaaGreat.R
open Go Go.Proofs
set_option linter.unusedSimpArgs false
set_option linter.unusedVariables false
set_option maxRecDepth 10000
set_option maxHeartbeats 1000000

theorem conf_bounds {c : S23} (h : confOK c = true) : (16 ≤ c.f0 ∧ c.f0 ≤ 4096) ∧ (1 ≤ c.f1 ∧ c.f1 ≤ 256) := by
  simp only [confOK, inB, Bool.and_eq_true, decide_eq_true_eq] at h
  omega
def areaP (b : Int) : Int := (12 * b + 2423) / 2024
def sizeP (c : S23) : Int := 2 + c.f1 + 2 * areaP c.f0 + c.f0
theorem wrapI {x : Int} (h : -1000000000000 < x ∧ x < 1000000000000) : IntKind.i64.wrap x = x := by rw [IntKind.wrap_i64]; omega
theorem area_bounds {b : Int} (h : 16 ≤ b ∧ b ≤ 4096) : 1 ≤ areaP b ∧ areaP b ≤ 26 := by unfold areaP; omega
theorem lim170 (c : S23) (h : confOK c = true) : lim T fns 170 [.agg (k23.enc c)] [] = some (.int .i64 (areaP c.f0), []) := by
  have q := fun k => call59 c k
  have hb := (conf_bounds h).1
  rw [h] at q
  refine fn_rule (fn := fn170) rfl rfl (by simp [fn170]) ?_
  unfold fn170
  simp only [Tryz.f170, Option.getD_some, argEnv, List.map_nil, List.length_nil]
  have w1 : IntKind.i64.wrap (12 * c.f0) = 12 * c.f0 := wrapI (by omega)
  have w2 : IntKind.i64.wrap (12 * c.f0 + 400) = 12 * c.f0 + 400 := wrapI (by omega)
  have w3 : IntKind.i64.wrap (12 * c.f0 + 400 + 2024) = 12 * c.f0 + 2424 := by rw [show 12 * c.f0 + 400 + 2024 = 12 * c.f0 + 2424 by omega]; exact wrapI (by omega)
  have w4 : IntKind.i64.wrap (12 * c.f0 + 2424 - 1) = 12 * c.f0 + 2423 := by rw [show 12 * c.f0 + 2424 - 1 = 12 * c.f0 + 2423 by omega]; exact wrapI (by omega)
  have d1 : (12 * c.f0 + 2423).tdiv 2024 = areaP c.f0 := by unfold areaP; rw [Int.tdiv_eq_ediv_of_nonneg (by omega)]
  have ab := area_bounds hb
  have w5 : IntKind.i64.wrap (areaP c.f0) = areaP c.f0 := wrapI (by omega)
  have z : ((2024 : Int) = 0) = False := by simp
  simp only [k23_enc] at q ⊢
  simp only [go_sem, T_3, T_4, T_23, q, w1, w2, w3, w4, d1, w5, z]
theorem call170 (c : S23) (h : confOK c = true) (k : Nat) : callV (LX T fns) k (.clo 170 []) [.agg (k23.enc c)] = .pure (.int .i64 (areaP c.f0), []) := callV_plain (fn := fn170) rfl rfl rfl (lim170 c h) k
theorem lim112 (c : S23) (h : confOK c = true) : lim T fns 112 [.agg (k23.enc c)] [] = some (.int .i64 (2 + c.f1 + 2 * areaP c.f0), []) := by
  have q := fun k => call170 c h k
  have hb := conf_bounds h
  have ab := area_bounds hb.1
  refine fn_rule (fn := fn112) rfl rfl (by simp [fn112]) ?_
  unfold fn112
  simp only [Tryz.f112, Option.getD_some, argEnv, List.map_nil, List.length_nil]
  have w1 : IntKind.i64.wrap (2 + c.f1) = 2 + c.f1 := wrapI (by omega)
  have w2 : IntKind.i64.wrap (2 * areaP c.f0) = 2 * areaP c.f0 := wrapI (by omega)
  have w3 : IntKind.i64.wrap (2 + c.f1 + 2 * areaP c.f0) = 2 + c.f1 + 2 * areaP c.f0 := wrapI (by omega)
  simp only [k23_enc] at q ⊢
  simp only [go_sem, T_3, T_23, q, w1, w2, w3]
theorem call112 (c : S23) (h : confOK c = true) (k : Nat) : callV (LX T fns) k (.clo 112 []) [.agg (k23.enc c)] = .pure (.int .i64 (2 + c.f1 + 2 * areaP c.f0), []) := callV_plain (fn := fn112) rfl rfl rfl (lim112 c h) k
theorem lim61 (c : S23) (h : confOK c = true) : lim T fns 61 [.agg (k23.enc c)] [] = some (.int .i64 (sizeP c), []) := by
  have q := fun k => call59 c k
  rw [h] at q
  have q2 := fun k => call112 c h k
  have hb := conf_bounds h
  have ab := area_bounds hb.1
  refine fn_rule (fn := fn61) rfl rfl (by simp [fn61]) ?_
  unfold fn61
  simp only [Tryz.f61, Option.getD_some, argEnv, List.map_nil, List.length_nil]
  have w1 : IntKind.i64.wrap (2 + c.f1 + 2 * areaP c.f0 + c.f0) = sizeP c := wrapI (by omega)
  simp only [k23_enc] at q q2 ⊢
  simp only [go_sem, T_3, T_4, T_23, q, q2, w1]
theorem call61 (c : S23) (h : confOK c = true) (k : Nat) : callV (LX T fns) k (.clo 61 []) [.agg (k23.enc c)] = .pure (.int .i64 (sizeP c), []) := callV_plain (fn := fn61) rfl rfl rfl (lim61 c h) k
theorem lim32 (c : S23) (h : confOK c = true) : lim T fns 32 [.agg (k23.enc c)] [] = some (.int .i64 (areaP c.f0), []) := by
  have q := fun k => call8 c k
  have hb := (conf_bounds h).1
  rw [h] at q
  refine fn_rule (fn := fn32) rfl rfl (by simp [fn32]) ?_
  unfold fn32
  simp only [Tryz.f32, Option.getD_some, argEnv, List.map_nil, List.length_nil]
  have w1 : IntKind.i64.wrap (12 * c.f0) = 12 * c.f0 := wrapI (by omega)
  have w2 : IntKind.i64.wrap (12 * c.f0 + 400) = 12 * c.f0 + 400 := wrapI (by omega)
  have ab := area_bounds hb
  simp only [k23_enc] at q ⊢
  simp only [go_sem, T_3, T_4, T_23, q]
  obtain ⟨a, ha⟩ := Int.eq_ofNat_of_zero_le (show 0 ≤ areaP c.f0 by omega)
  rw [ha]
  refine loop_rule (ι := Nat) (S := fun n => ⟨[(1, .ptr 0 0 0), (3, .int .i64 n)], [some (.buf 7 [[.int .i64 c.f0, .int .i64 c.f1, .int .i64 c.f2, .int .i64 c.f3, .int .i64 c.f4, .int .i64 c.f5, .int .i64 c.f6]] false true)]⟩) (m := fun n => a + 1 - n) (I := fun n => n ≤ a) ?_ 0 _ (Nat.zero_le _) rfl
  intro n hn
  have w3 : IntKind.i64.wrap ((n : Int) * 2024) = (n : Int) * 2024 := wrapI (by omega)
  by_cases hlt : n < a
  · have g : ((n : Int) * 2024 < 12 * c.f0 + 400) = True := eq_true (by unfold areaP at ha; omega)
    simp only [go_sem, T_3, T_4, T_23, w1, w2, w3, g, wrap_i64s (show n < 1000000000000000000 by omega)]
    exact ⟨n + 1, by omega, by simp only; omega, rfl⟩
  · have hna : n = a := by omega
    subst hna
    have g : ((n : Int) * 2024 < 12 * c.f0 + 400) = False := eq_false (by unfold areaP at ha; omega)
    simp only [go_sem, T_3, T_4, T_23, w1, w2, w3, g]
theorem call32 (c : S23) (h : confOK c = true) (k : Nat) : callV (LX T fns) k (.clo 32 []) [.agg (k23.enc c)] = .pure (.int .i64 (areaP c.f0), []) := callV_plain (fn := fn32) rfl rfl rfl (lim32 c h) k
theorem lim9 (c : S23) (h : confOK c = true) : lim T fns 9 [.agg (k23.enc c)] [] = some (.int .i64 (sizeP c), []) := by
  have q := fun k => call8 c k
  rw [h] at q
  have q2 := fun k => call32 c h k
  have hb := conf_bounds h
  have ab := area_bounds hb.1
  refine fn_rule (fn := fn9) rfl rfl (by simp [fn9]) ?_
  unfold fn9
  simp only [Tryz.f9, Option.getD_some, argEnv, List.map_nil, List.length_nil]
  have w1 : IntKind.i64.wrap (2 + c.f1) = 2 + c.f1 := wrapI (by omega)
  have w2 : IntKind.i64.wrap (2 * areaP c.f0) = 2 * areaP c.f0 := wrapI (by omega)
  have w3 : IntKind.i64.wrap (2 + c.f1 + 2 * areaP c.f0) = 2 + c.f1 + 2 * areaP c.f0 := wrapI (by omega)
  have w4 : IntKind.i64.wrap (2 + c.f1 + 2 * areaP c.f0 + c.f0) = sizeP c := wrapI (by omega)
  simp only [k23_enc] at q q2 ⊢
  simp only [go_sem, T_3, T_4, T_23, q, q2, w1, w2, w3, w4]
theorem call9 (c : S23) (h : confOK c = true) (k : Nat) : callV (LX T fns) k (.clo 9 []) [.agg (k23.enc c)] = .pure (.int .i64 (sizeP c), []) := callV_plain (fn := fn9) rfl rfl rfl (lim9 c h) k
end Go.Proofs.YtoggbcckkjfkhaaGreat.R
/- Chapter 25's law DagWrong: which lists of references and of volumes may be, the document's way; whether they are the same. -/
namespace Go.Proofs.YtoggbcckkjfkhaaGreat.R
open Go Go.Proofs
set_option linter.unusedSimpArgs false
set_option linter.unusedVariables false
set_option maxRecDepth 10000
set_option maxHeartbeats 1000000

def rfs (o : Option Int) : List S96 → Bool
  | [] => true
  | r :: l => (decide (1 ≤ r.f1) && (o.all fun q => decide (q < r.f0))) && rfs (some r.f0) l
def prR (l : List S96) : Nat → Option Int
  | 0 => none
  | i + 1 => l[i]?.map (·.f0)
theorem lim33 (l : List S96) (hl : l.length < 1000000000) : lim T fns 33 [.fz (l.map k96.enc)] [] = some (.bool (rfs none l), []) := by
  refine fn_rule (fn := fn33) rfl rfl (by simp [fn33]) ?_
  unfold fn33
  simp only [Tryz.f33, Option.getD_some, argEnv, List.map_nil, List.length_nil]
  simp only [go_sem, T_3, T_25, T_54, T_96]
  refine loop_rule (ι := Nat) (S := fun i => ⟨[(0, .fz (l.map k96.enc)), (5, .int .i64 l.length), (6, .int .i64 i)], []⟩) (m := fun i => l.length + 1 - i) (I := fun i => i ≤ l.length ∧ rfs (prR l i) (l.drop i) = rfs none l) ?_ 0 _ ⟨by omega, rfl⟩ rfl
  intro i ⟨hi, hg⟩
  by_cases hlt : i < l.length
  · have x0 : l[i]? = some l[i] := List.getElem?_eq_getElem hlt
    have hlt' : ((i : Int) < (l.length : Int)) := by omega
    rw [List.drop_eq_getElem_cons hlt, rfs] at hg
    by_cases g1 : l[i].f1 < 1
    · have f1 : (l[i].f1 < 1) = True := eq_true g1
      have hz : decide (1 ≤ l[i].f1) = false := by simp; omega
      rw [hz, Bool.false_and, Bool.false_and] at hg
      simp only [go_sem, T_3, T_25, T_54, T_96, hlt, hlt', x0, all96, k96_enc, f1]
      rw [← hg]
    · have f1 : (l[i].f1 < 1) = False := eq_false g1
      have hz : decide (1 ≤ l[i].f1) = true := by simp; omega
      rw [hz, Bool.true_and] at hg
      cases i with
      | zero =>
        have f3 : ((((0 : Nat) : Int)) > 0) = False := by simp
        simp only [go_sem, T_3, T_25, T_54, T_96, hlt, hlt', x0, all96, k96_enc, f1, f3, wrap_i64s (show 0 < 1000000000000000000 by omega)]
        exact ⟨1, ⟨by omega, by simpa [prR, x0] using hg⟩, by simp only; omega, rfl⟩
      | succ i =>
        have f3 : ((((i + 1 : Nat) : Int)) > 0) = True := eq_true (by omega)
        have hi2 : i < l.length := by omega
        have x1 : l[i]? = some l[i] := List.getElem?_eq_getElem hi2
        have w1 : IntKind.i64.wrap (((i + 1 : Nat) : Int) - 1) = (i : Int) := by
          rw [show ((i + 1 : Nat) : Int) - 1 = (i : Int) by omega, IntKind.wrap_i64]; omega
        simp only [prR, x1, Option.map_some, Option.all_some] at hg
        by_cases hq : l[i + 1].f0 ≤ l[i].f0
        · have q1 : (l[i + 1].f0 ≤ l[i].f0) = True := eq_true hq
          have hz2 : decide (l[i].f0 < l[i + 1].f0) = false := by simp; omega
          rw [hz2, Bool.false_and] at hg
          simp only [go_sem, T_3, T_25, T_54, T_96, hlt, hlt', hi2, x0, x1, w1, all96, k96_enc, f1, f3, q1]
          rw [← hg]
        · have q1 : (l[i + 1].f0 ≤ l[i].f0) = False := eq_false hq
          have hz2 : decide (l[i].f0 < l[i + 1].f0) = true := by simp; omega
          rw [hz2, Bool.true_and] at hg
          simp only [go_sem, T_3, T_25, T_54, T_96, hlt, hlt', hi2, x0, x1, w1, all96, k96_enc, f1, f3, q1, wrap_i64s (show i + 1 < 1000000000000000000 by omega)]
          exact ⟨i + 1 + 1, ⟨by omega, by simpa [prR, x0] using hg⟩, by simp only; omega, rfl⟩
  · have : i = l.length := by omega
    subst this
    rw [List.drop_eq_nil_of_le (by omega), rfs] at hg
    rw [← hg]
    simp only [go_sem, T_3, T_25, T_54, T_96, hlt]
theorem call33 (l : List S96) (hl : l.length < 1000000000) (n : Nat) : callV (LX T fns) n (.clo 33 []) [.fz (l.map k96.enc)] = .pure (.bool (rfs none l), []) := callV_plain (fn := fn33) rfl rfl rfl (lim33 l hl) n
def leB (a b : ByteArray) : Bool := Op.bytesLess a.toList b.toList || a.toList == b.toList
theorem beq_txt (x y : ByteArray) : (x.toList == y.toList) = decide (x = y) := by
  by_cases h : x = y
  · subst h; simp
  · have : x.toList ≠ y.toList := fun e => h (by
      rw [Go.Lib.toList_data, Go.Lib.toList_data] at e
      cases x; cases y
      simpa using e)
    simp [h, this]
theorem eqE (s : ByteArray) : (s.toList == (⟨#[]⟩ : ByteArray).toList) = decide (s.size = 0) := by
  rw [beq_txt]
  by_cases h : s.size = 0
  · have : s = ⟨#[]⟩ := by
      apply ByteArray.ext
      exact Array.eq_empty_of_size_eq_zero h
    simp only [h, this, decide_true]
    rfl
  · have : s ≠ ⟨#[]⟩ := fun e => h (by rw [e]; rfl)
    simp [h, this]
def vls (o : Option ByteArray) : List S57 → Bool
  | [] => true
  | v :: l => ((decide (1 ≤ v.f0.size) && decide (v.f0.size ≤ 16)) && (o.all fun q => !leB v.f0 q)) && vls (some v.f0) l
def prV (l : List S57) : Nat → Option ByteArray
  | 0 => none
  | i + 1 => l[i]?.map (·.f0)
def volsOK (l : List S57) : Bool := decide (l.length ≤ 16) && vls none l
theorem lim34 (l : List S57) (hl : l.length < 1000000000) : lim T fns 34 [.fz (l.map k57.enc)] [] = some (.bool (volsOK l), []) := by
  refine fn_rule (fn := fn34) rfl rfl (by simp [fn34]) ?_
  unfold fn34
  simp only [Tryz.f34, Option.getD_some, argEnv, List.map_nil, List.length_nil]
  by_cases h16 : l.length ≤ 16
  · have f0 : ((l.length : Int) > 16) = False := eq_false (by omega)
    have hm : volsOK l = vls none l := by simp [volsOK, h16]
    rw [hm]
    simp only [go_sem, T_3, T_9, T_26, T_54, T_55, T_57, f0]
    refine loop_rule (ι := Nat) (S := fun i => ⟨[(0, .fz (l.map k57.enc)), (8, .int .i64 l.length), (9, .int .i64 i)], []⟩) (m := fun i => l.length + 1 - i) (I := fun i => i ≤ l.length ∧ vls (prV l i) (l.drop i) = vls none l) ?_ 0 _ ⟨by omega, rfl⟩ rfl
    intro i ⟨hi, hg⟩
    by_cases hlt : i < l.length
    · have x0 : l[i]? = some l[i] := List.getElem?_eq_getElem hlt
      have hlt' : ((i : Int) < (l.length : Int)) := by omega
      rw [List.drop_eq_getElem_cons hlt, vls] at hg
      by_cases hz : l[i].f0.size = 0
      · have hE : (l[i].f0.toList == (⟨#[]⟩ : ByteArray).toList) = true := by rw [eqE]; simp [hz]
        have z1 : (decide (1 ≤ l[i].f0.size) && decide (l[i].f0.size ≤ 16)) = false := by simp [hz]
        rw [z1, Bool.false_and, Bool.false_and] at hg
        simp only [go_sem, T_3, T_9, T_26, T_54, T_55, T_57, hlt, hlt', x0, all57, k57_enc, hE]
        rw [← hg]
      · have hE : (l[i].f0.toList == (⟨#[]⟩ : ByteArray).toList) = false := by rw [eqE]; simp [hz]
        by_cases g1 : l[i].f0.size ≤ 16
        · have f1 : ((l[i].f0.size : Int) > 16) = False := eq_false (by omega)
          have z1 : (decide (1 ≤ l[i].f0.size) && decide (l[i].f0.size ≤ 16)) = true := by simp [g1]; omega
          rw [z1, Bool.true_and] at hg
          cases i with
          | zero =>
            have f3 : ((((0 : Nat) : Int)) > 0) = False := by simp
            simp only [go_sem, T_3, T_9, T_26, T_54, T_55, T_57, hlt, hlt', x0, all57, k57_enc, hE, f1, f3, wrap_i64s (show 0 < 1000000000000000000 by omega)]
            exact ⟨1, ⟨by omega, by simpa [prV, x0] using hg⟩, by simp only; omega, rfl⟩
          | succ i =>
            have f3 : ((((i + 1 : Nat) : Int)) > 0) = True := eq_true (by omega)
            have hi2 : i < l.length := by omega
            have x1 : l[i]? = some l[i] := List.getElem?_eq_getElem hi2
            have w1 : IntKind.i64.wrap (((i + 1 : Nat) : Int) - 1) = (i : Int) := by
              rw [show ((i + 1 : Nat) : Int) - 1 = (i : Int) by omega, IntKind.wrap_i64]; omega
            simp only [prV, x1, Option.map_some, Option.all_some] at hg
            cases hq : leB l[i + 1].f0 l[i].f0 with
            | true =>
              have hq' : (Op.bytesLess l[i + 1].f0.toList l[i].f0.toList || l[i + 1].f0.toList == l[i].f0.toList) = true := hq
              rw [hq] at hg
              simp only [go_sem, T_3, T_9, T_26, T_54, T_55, T_57, hlt, hlt', hi2, x0, x1, w1, all57, k57_enc, hE, f1, f3, hq']
              rw [← hg]
              rfl
            | false =>
              have hq' : (Op.bytesLess l[i + 1].f0.toList l[i].f0.toList || l[i + 1].f0.toList == l[i].f0.toList) = false := hq
              rw [hq] at hg
              simp only [go_sem, T_3, T_9, T_26, T_54, T_55, T_57, hlt, hlt', hi2, x0, x1, w1, all57, k57_enc, hE, f1, f3, hq', wrap_i64s (show i + 1 < 1000000000000000000 by omega)]
              exact ⟨i + 1 + 1, ⟨by omega, by simpa [prV, x0] using hg⟩, by simp only; omega, rfl⟩
        · have f1 : ((l[i].f0.size : Int) > 16) = True := eq_true (by omega)
          have z1 : (decide (1 ≤ l[i].f0.size) && decide (l[i].f0.size ≤ 16)) = false := by simp [g1]
          rw [z1, Bool.false_and, Bool.false_and] at hg
          simp only [go_sem, T_3, T_9, T_26, T_54, T_55, T_57, hlt, hlt', x0, all57, k57_enc, hE, f1]
          rw [← hg]
    · have : i = l.length := by omega
      subst this
      rw [List.drop_eq_nil_of_le (by omega), vls] at hg
      rw [← hg]
      simp only [go_sem, T_3, T_9, T_26, T_54, T_55, T_57, hlt]
  · have f0 : ((l.length : Int) > 16) = True := eq_true (by omega)
    have hm : volsOK l = false := by simp [volsOK, h16]
    rw [hm]
    simp only [go_sem, T_3, T_9, T_26, T_54, T_55, T_57, f0]
theorem call34 (l : List S57) (hl : l.length < 1000000000) (n : Nat) : callV (LX T fns) n (.clo 34 []) [.fz (l.map k57.enc)] = .pure (.bool (volsOK l), []) := callV_plain (fn := fn34) rfl rfl rfl (lim34 l hl) n
end Go.Proofs.YtoggbcckkjfkhaaGreat.R
/- Chapter 25's law DagWrong: the same lists are the same; too great?; counts. -/
namespace Go.Proofs.YtoggbcckkjfkhaaGreat.R
open Go Go.Proofs
set_option linter.unusedSimpArgs false
set_option linter.unusedVariables false
set_option maxRecDepth 10000
set_option maxHeartbeats 1000000

theorem lim36 (l : List S96) (hl : l.length < 1000000000) : lim T fns 36 [.fz (l.map k96.enc), .fz (l.map k96.enc)] [] = some (.bool true, []) := by
  refine fn_rule (fn := fn36) rfl rfl (by simp [fn36]) ?_
  unfold fn36
  simp only [Tryz.f36, Option.getD_some, argEnv, List.map_nil, List.length_nil]
  have e0 : (((l.length : Nat) : Int) != ((l.length : Nat) : Int)) = false := by simp
  simp only [go_sem, T_3, T_25, T_54, T_96, e0]
  refine loop_rule (ι := Nat) (S := fun i => ⟨[(0, .fz (l.map k96.enc)), (1, .fz (l.map k96.enc)), (12, .int .i64 l.length), (13, .int .i64 i)], []⟩) (m := fun i => l.length + 1 - i) (I := fun i => i ≤ l.length) ?_ 0 _ (Nat.zero_le _) rfl
  intro i hi
  by_cases hlt : i < l.length
  · have x0 : l[i]? = some l[i] := List.getElem?_eq_getElem hlt
    have hlt' : ((i : Int) < (l.length : Int)) := by omega
    simp only [go_sem, T_3, T_25, T_54, T_96, hlt, hlt', x0, all96, k96_enc, eq96, wrap_i64s (show i < 1000000000000000000 by omega)]
    exact ⟨i + 1, by omega, by simp only; omega, rfl⟩
  · simp only [go_sem, T_3, T_25, T_54, T_96, hlt]
theorem call36 (l : List S96) (hl : l.length < 1000000000) (n : Nat) : callV (LX T fns) n (.clo 36 []) [.fz (l.map k96.enc), .fz (l.map k96.enc)] = .pure (.bool true, []) := callV_plain (fn := fn36) rfl rfl rfl (lim36 l hl) n
theorem lim23 (l : List S57) (hl : l.length < 1000000000) : lim T fns 23 [.fz (l.map k57.enc), .fz (l.map k57.enc)] [] = some (.bool true, []) := by
  refine fn_rule (fn := fn23) rfl rfl (by simp [fn23]) ?_
  unfold fn23
  simp only [Tryz.f23, Option.getD_some, argEnv, List.map_nil, List.length_nil]
  have e0 : (((l.length : Nat) : Int) != ((l.length : Nat) : Int)) = false := by simp
  simp only [go_sem, T_3, T_9, T_26, T_54, T_55, T_57, e0]
  refine loop_rule (ι := Nat) (S := fun i => ⟨[(0, .fz (l.map k57.enc)), (1, .fz (l.map k57.enc)), (12, .int .i64 l.length), (13, .int .i64 i)], []⟩) (m := fun i => l.length + 1 - i) (I := fun i => i ≤ l.length) ?_ 0 _ (Nat.zero_le _) rfl
  intro i hi
  by_cases hlt : i < l.length
  · have x0 : l[i]? = some l[i] := List.getElem?_eq_getElem hlt
    have hlt' : ((i : Int) < (l.length : Int)) := by omega
    simp only [go_sem, T_3, T_9, T_26, T_54, T_55, T_57, hlt, hlt', x0, all57, k57_enc, eq57, wrap_i64s (show i < 1000000000000000000 by omega)]
    exact ⟨i + 1, by omega, by simp only; omega, rfl⟩
  · simp only [go_sem, T_3, T_9, T_26, T_54, T_55, T_57, hlt]
theorem call23 (l : List S57) (hl : l.length < 1000000000) (n : Nat) : callV (LX T fns) n (.clo 23 []) [.fz (l.map k57.enc), .fz (l.map k57.enc)] = .pure (.bool true, []) := callV_plain (fn := fn23) rfl rfl rfl (lim23 l hl) n
/-- How often a block is counted. -/
def cnt (m : S28) (b : Int) : Int := match m.f0[b.toNat]? with
  | some n => n
  | none => 0
theorem lim35 (m : S28) (b : Nat) (hb : b < 4294967296) (hl : m.f0.length < 1000000000) : lim T fns 35 [.agg (k28.enc m), .int .u32 b] [] = some (.int .u32 (cnt m b), []) := by
  refine fn_rule (fn := fn35) rfl rfl (by simp [fn35]) ?_
  unfold fn35
  simp only [Tryz.f35, Option.getD_some, argEnv, List.map_nil, List.length_nil]
  have w1 : IntKind.i64.wrap (b : Int) = (b : Int) := by rw [IntKind.wrap_i64] <;> omega
  unfold cnt
  rw [Int.toNat_natCast]
  by_cases h : b < m.f0.length
  · have x0 : m.f0[b]? = some m.f0[b] := List.getElem?_eq_getElem h
    have h' : ((b : Int) < (m.f0.length : Int)) = True := eq_true (by omega)
    rw [x0]
    simp only [go_sem, T_3, T_9, T_24, T_25, T_26, T_28, T_54, T_55, T_57, T_96, k28_enc, w1, h, h', x0]
  · have x0 : m.f0[b]? = none := List.getElem?_eq_none (by omega)
    have h' : ((b : Int) < (m.f0.length : Int)) = False := eq_false (by omega)
    rw [x0]
    simp only [go_sem, T_3, T_9, T_24, T_25, T_26, T_28, T_54, T_55, T_57, T_96, k28_enc, w1, h, h']
theorem call35 (m : S28) (b : Nat) (hb : b < 4294967296) (hl : m.f0.length < 1000000000) (n : Nat) : callV (LX T fns) n (.clo 35 []) [.agg (k28.enc m), .int .u32 b] = .pure (.int .u32 (cnt m b), []) := callV_plain (fn := fn35) rfl rfl rfl (lim35 m b hb hl) n
def grV (l : List S57) : Bool := decide (60 < l.length) || l.any fun v => decide (100 < v.f0.size)
theorem lim24 (l : List S57) (hl : l.length < 10000000000000) : lim T fns 24 [.fz (l.map k57.enc)] [] = some (.bool (grV l), []) := by
  refine fn_rule (fn := fn24) rfl rfl (by simp [fn24]) ?_
  unfold fn24
  simp only [Tryz.f24, Option.getD_some, argEnv, List.map_nil, List.length_nil]
  by_cases h60 : 60 < l.length
  · have f0 : ((l.length : Int) > 60) = True := eq_true (by omega)
    have hm : grV l = true := by simp [grV, h60]
    rw [hm]
    simp only [go_sem, T_3, T_9, T_26, T_54, T_55, T_57, f0]
  · have f0 : ((l.length : Int) > 60) = False := eq_false (by omega)
    have hm : grV l = l.any fun v => decide (100 < v.f0.size) := by simp [grV, h60]
    rw [hm]
    simp only [go_sem, T_3, T_9, T_26, T_54, T_55, T_57, f0]
    refine loop_rule (ι := Nat) (S := fun i => ⟨[(0, .fz (l.map k57.enc)), (8, .int .i64 l.length), (9, .int .i64 i)], []⟩) (m := fun i => l.length + 1 - i) (I := fun i => i ≤ l.length ∧ ((l.drop i).any fun v => decide (100 < v.f0.size)) = l.any fun v => decide (100 < v.f0.size)) ?_ 0 _ ⟨by omega, rfl⟩ rfl
    intro i ⟨hi, hg⟩
    by_cases hlt : i < l.length
    · have x0 : l[i]? = some l[i] := List.getElem?_eq_getElem hlt
      have hlt' : ((i : Int) < (l.length : Int)) := by omega
      rw [List.drop_eq_getElem_cons hlt, List.any_cons] at hg
      by_cases g1 : 100 < l[i].f0.size
      · have f1 : ((l[i].f0.size : Int) > 100) = True := eq_true (by omega)
        have z : decide (100 < l[i].f0.size) = true := by simp [g1]
        rw [z, Bool.true_or] at hg
        simp only [go_sem, T_3, T_9, T_26, T_54, T_55, T_57, hlt, hlt', x0, all57, k57_enc, f1]
        rw [← hg]
      · have f1 : ((l[i].f0.size : Int) > 100) = False := eq_false (by omega)
        have z : decide (100 < l[i].f0.size) = false := by simp; omega
        rw [z, Bool.false_or] at hg
        simp only [go_sem, T_3, T_9, T_26, T_54, T_55, T_57, hlt, hlt', x0, all57, k57_enc, f1, wrap_i64s (show i < 1000000000000000000 by omega)]
        exact ⟨i + 1, ⟨by omega, hg⟩, by simp only; omega, rfl⟩
    · have : i = l.length := by omega
      subst this
      rw [List.drop_eq_nil_of_le (by omega), List.any_nil] at hg
      rw [← hg]
      simp only [go_sem, T_3, T_9, T_26, T_54, T_55, T_57, hlt]
theorem call24 (l : List S57) (hl : l.length < 10000000000000) (n : Nat) : callV (LX T fns) n (.clo 24 []) [.fz (l.map k57.enc)] = .pure (.bool (grV l), []) := callV_plain (fn := fn24) rfl rfl rfl (lim24 l hl) n
def greatM (m : S28) : Bool := decide (300 < m.f0.length) || (decide (300 < m.f1.length) || grV m.f2)
def fewM (m : S28) : Prop := m.f0.length < 1000000000000000 ∧ m.f1.length < 1000000000000000 ∧ m.f2.length < 100000000000
theorem lim4 (m : S28) (hl : m.f2.length < 10000000000000) : lim T fns 4 [.agg (k28.enc m)] [] = some (.bool (greatM m), []) := by
  refine fn_rule (fn := fn4) rfl rfl (by simp [fn4]) ?_
  unfold fn4
  simp only [Tryz.f4, Option.getD_some, argEnv, List.map_nil, List.length_nil]
  have hc := fun n => call24 m.f2 hl n
  unfold greatM
  simp only [k28_enc]
  by_cases h1 : 300 < m.f0.length
  · have f1 : ((m.f0.length : Int) > 300) = True := eq_true (by omega)
    simp only [go_sem, T_3, T_9, T_24, T_25, T_26, T_28, T_54, T_55, T_57, T_96, f1, h1, hc]
  · have f1 : ((m.f0.length : Int) > 300) = False := eq_false (by omega)
    by_cases h2 : 300 < m.f1.length
    · have f2 : ((m.f1.length : Int) > 300) = True := eq_true (by omega)
      simp only [go_sem, T_3, T_9, T_24, T_25, T_26, T_28, T_54, T_55, T_57, T_96, f1, f2, h1, h2, hc, Bool.false_or, Bool.true_or]
    · have f2 : ((m.f1.length : Int) > 300) = False := eq_false (by omega)
      simp only [go_sem, T_3, T_9, T_24, T_25, T_26, T_28, T_54, T_55, T_57, T_96, f1, f2, h1, h2, hc, Bool.false_or, Bool.true_or]
theorem call4 (m : S28) (hl : m.f2.length < 10000000000000) (n : Nat) : callV (LX T fns) n (.clo 4 []) [.agg (k28.enc m)] = .pure (.bool (greatM m), []) := callV_plain (fn := fn4) rfl rfl rfl (lim4 m hl) n
end Go.Proofs.YtoggbcckkjfkhaaGreat.R
/- Chapter 25's law DagWrong: whether what a checkpoint tells may be, the document's way. -/
namespace Go.Proofs.YtoggbcckkjfkhaaGreat.R
open Go Go.Proofs
set_option linter.unusedSimpArgs false
set_option linter.unusedVariables false
set_option maxRecDepth 10000
set_option maxHeartbeats 1000000

/-- Numbers of their kinds, not too many. -/
structure WfM (m : S28) : Prop where
  l0 : m.f0.length < 1000000
  l1 : m.f1.length < 1000000
  l2 : m.f2.length < 1000000
  c : ∀ n ∈ m.f0, 0 ≤ n ∧ n < 4294967296
  p : ∀ r ∈ m.f1, (0 ≤ r.f0 ∧ r.f0 < 4294967296) ∧ (0 ≤ r.f1 ∧ r.f1 < 4294967296)
  v : ∀ x ∈ m.f2, (0 ≤ x.f1 ∧ x.f1 < 4294967296) ∧ (0 ≤ x.f2 ∧ x.f2 < 65536)
theorem callCnt (m : S28) (hm : WfM m) (b : Int) (hb : 0 ≤ b ∧ b < 4294967296) (n : Nat) : callV (LX T fns) n (.clo 35 []) [.agg (k28.enc m), .int .u32 b] = .pure (.int .u32 (cnt m b), []) := by
  obtain ⟨k, rfl⟩ := Int.eq_ofNat_of_zero_le hb.1
  exact call35 m k (by omega) (by have := hm.l0; omega) n
def metaOK (m : S28) : Bool := ((decide (1 ≤ m.f0.length) && decide (m.f0.length ≤ 4096)) && (rfs none m.f1 && volsOK m.f2)) && ((m.f1.all fun r => decide (r.f1 ≤ cnt m r.f0)) && (m.f2.all fun v => decide (1 ≤ v.f2) && decide (1 ≤ cnt m v.f1)))
theorem lim10 (m : S28) (hm : WfM m) : lim T fns 10 [.agg (k28.enc m)] [] = some (.bool (metaOK m), []) := by
  have hc1 := fun n => call33 m.f1 (by have := hm.l1; omega) n
  have hc2 := fun n => call34 m.f2 (by have := hm.l2; omega) n
  have hcc := fun (b : Int) hb n => callCnt m hm b hb n
  have k1 := hm.l0
  have k2 := hm.l1
  have k3 := hm.l2
  simp only [k28_enc] at hcc ⊢
  refine fn_rule (fn := fn10) rfl rfl (by simp [fn10]) ?_
  unfold fn10
  simp only [Tryz.f10, Option.getD_some, argEnv, List.map_nil, List.length_nil]
  by_cases h1 : 1 ≤ m.f0.length
  · have e1 : ((m.f0.length : Int) < 1) = False := eq_false (by omega)
    by_cases h2 : m.f0.length ≤ 4096
    · have e2 : ((m.f0.length : Int) > 4096) = False := eq_false (by omega)
      cases h3 : rfs none m.f1 with
      | false =>
        rw [h3] at hc1
        have e : metaOK m = false := by simp [metaOK, h3]
        rw [e]
        simp only [go_sem, T_3, T_4, T_9, T_24, T_25, T_26, T_28, T_54, T_55, T_57, T_96, e1, e2, hc1]
      | true =>
        rw [h3] at hc1
        cases h4 : volsOK m.f2 with
        | false =>
          rw [h4] at hc2
          have e : metaOK m = false := by simp [metaOK, h4]
          rw [e]
          simp only [go_sem, T_3, T_4, T_9, T_24, T_25, T_26, T_28, T_54, T_55, T_57, T_96, e1, e2, hc1, hc2]
        | true =>
          rw [h4] at hc2
          have e : metaOK m = ((m.f1.all fun r => decide (r.f1 ≤ cnt m r.f0)) && (m.f2.all fun v => decide (1 ≤ v.f2) && decide (1 ≤ cnt m v.f1))) := by simp [metaOK, h1, h2, h3, h4]
          rw [e]
          simp only [go_sem, T_3, T_4, T_9, T_24, T_25, T_26, T_28, T_54, T_55, T_57, T_96, e1, e2, hc1, hc2]
          refine loop_rule (ι := Nat) (S := fun i => ⟨[(1, .ptr 0 0 0), (29, .int .i64 m.f1.length), (30, .int .i64 i)], [some (.buf 3 [[.fz (m.f0.map (Cd.int .u32).enc), .fz (m.f1.map k96.enc), .fz (m.f2.map k57.enc)]] false true)]⟩) (m := fun i => m.f1.length + 1 - i) (I := fun i => i ≤ m.f1.length ∧ ((m.f1.drop i).all fun r => decide (r.f1 ≤ cnt m r.f0)) = m.f1.all fun r => decide (r.f1 ≤ cnt m r.f0)) ?_ 0 _ ⟨by omega, rfl⟩ rfl
          intro i ⟨hi, hg⟩
          by_cases hlt : i < m.f1.length
          · have x0 : m.f1[i]? = some m.f1[i] := List.getElem?_eq_getElem hlt
            have hlt' : ((i : Int) < (m.f1.length : Int)) := by omega
            rw [List.drop_eq_getElem_cons hlt, List.all_cons] at hg
            have hp := hm.p m.f1[i] (List.getElem_mem _)
            have hcx := fun n => hcc m.f1[i].f0 hp.1 n
            by_cases g1 : m.f1[i].f1 ≤ cnt m m.f1[i].f0
            · have f1 : (m.f1[i].f1 > cnt m m.f1[i].f0) = False := eq_false (by omega)
              have z : decide (m.f1[i].f1 ≤ cnt m m.f1[i].f0) = true := by simp [g1]
              rw [z, Bool.true_and] at hg
              simp only [go_sem, T_3, T_4, T_9, T_24, T_25, T_26, T_28, T_54, T_55, T_57, T_96, hlt, hlt', x0, all96, k96_enc, hcx, f1, wrap_i64s (show i < 1000000000000000000 by omega)]
              exact ⟨i + 1, ⟨by omega, hg⟩, by simp only; omega, rfl⟩
            · have f1 : (m.f1[i].f1 > cnt m m.f1[i].f0) = True := eq_true (by omega)
              have z : decide (m.f1[i].f1 ≤ cnt m m.f1[i].f0) = false := by simp; omega
              rw [z, Bool.false_and] at hg
              simp only [go_sem, T_3, T_4, T_9, T_24, T_25, T_26, T_28, T_54, T_55, T_57, T_96, hlt, hlt', x0, all96, k96_enc, hcx, f1]
              rw [← hg, Bool.false_and]
          · have : i = m.f1.length := by omega
            subst this
            rw [List.drop_eq_nil_of_le (by omega), List.all_nil] at hg
            rw [← hg, Bool.true_and]
            simp only [go_sem, T_3, T_4, T_9, T_24, T_25, T_26, T_28, T_54, T_55, T_57, T_96, hlt]
            refine loop_rule (ι := Nat) (S := fun i => ⟨[(1, .ptr 0 0 0), (51, .int .i64 m.f2.length), (52, .int .i64 i)], [some (.buf 3 [[.fz (m.f0.map (Cd.int .u32).enc), .fz (m.f1.map k96.enc), .fz (m.f2.map k57.enc)]] false true)]⟩) (m := fun i => m.f2.length + 1 - i) (I := fun i => i ≤ m.f2.length ∧ ((m.f2.drop i).all fun v => decide (1 ≤ v.f2) && decide (1 ≤ cnt m v.f1)) = m.f2.all fun v => decide (1 ≤ v.f2) && decide (1 ≤ cnt m v.f1)) ?_ 0 _ ⟨by omega, rfl⟩ rfl
            intro i ⟨hi, hg⟩
            by_cases hlt : i < m.f2.length
            · have x0 : m.f2[i]? = some m.f2[i] := List.getElem?_eq_getElem hlt
              have hlt' : ((i : Int) < (m.f2.length : Int)) := by omega
              rw [List.drop_eq_getElem_cons hlt, List.all_cons] at hg
              have hp := hm.v m.f2[i] (List.getElem_mem _)
              have hcx := fun n => hcc m.f2[i].f1 hp.1 n
              by_cases g1 : m.f2[i].f2 < 1
              · have f1 : (m.f2[i].f2 < 1) = True := eq_true g1
                have z : decide (1 ≤ m.f2[i].f2) = false := by simp; omega
                rw [z, Bool.false_and, Bool.false_and] at hg
                simp only [go_sem, T_3, T_4, T_9, T_24, T_25, T_26, T_28, T_54, T_55, T_57, T_96, hlt, hlt', x0, all57, k57_enc, hcx, f1]
                rw [← hg]
              · have f1 : (m.f2[i].f2 < 1) = False := eq_false g1
                have z : decide (1 ≤ m.f2[i].f2) = true := by simp; omega
                rw [z, Bool.true_and] at hg
                by_cases g2 : cnt m m.f2[i].f1 < 1
                · have f2 : (cnt m m.f2[i].f1 < 1) = True := eq_true g2
                  have z : decide (1 ≤ cnt m m.f2[i].f1) = false := by simp; omega
                  rw [z, Bool.false_and] at hg
                  simp only [go_sem, T_3, T_4, T_9, T_24, T_25, T_26, T_28, T_54, T_55, T_57, T_96, hlt, hlt', x0, all57, k57_enc, hcx, f1, f2]
                  rw [← hg]
                · have f2 : (cnt m m.f2[i].f1 < 1) = False := eq_false g2
                  have z : decide (1 ≤ cnt m m.f2[i].f1) = true := by simp; omega
                  rw [z, Bool.true_and] at hg
                  simp only [go_sem, T_3, T_4, T_9, T_24, T_25, T_26, T_28, T_54, T_55, T_57, T_96, hlt, hlt', x0, all57, k57_enc, hcx, f1, f2, wrap_i64s (show i < 1000000000000000000 by omega)]
                  exact ⟨i + 1, ⟨by omega, hg⟩, by simp only; omega, rfl⟩
            · have : i = m.f2.length := by omega
              subst this
              rw [List.drop_eq_nil_of_le (by omega), List.all_nil] at hg
              rw [← hg]
              simp only [go_sem, T_3, T_4, T_9, T_24, T_25, T_26, T_28, T_54, T_55, T_57, T_96, hlt]
    · have e2 : ((m.f0.length : Int) > 4096) = True := eq_true (by omega)
      have e : metaOK m = false := by simp [metaOK, h2]
      rw [e]
      simp only [go_sem, T_3, T_4, T_9, T_24, T_25, T_26, T_28, T_54, T_55, T_57, T_96, e1, e2]
  · have e1 : ((m.f0.length : Int) < 1) = True := eq_true (by omega)
    have e : metaOK m = false := by simp [metaOK, h1]
    rw [e]
    simp only [go_sem, T_3, T_4, T_9, T_24, T_25, T_26, T_28, T_54, T_55, T_57, T_96, e1]
theorem call10 (m : S28) (hm : WfM m) (n : Nat) : callV (LX T fns) n (.clo 10 []) [.agg (k28.enc m)] = .pure (.bool (metaOK m), []) := callV_plain (fn := fn10) rfl rfl rfl (lim10 m hm) n
theorem lim11 (m : S28) (hm : WfM m) : lim T fns 11 [.agg (k28.enc m), .agg (k28.enc m)] [] = some (.bool true, []) := by
  have k1 := hm.l0
  have k2 := hm.l1
  have k3 := hm.l2
  have hc1 := fun n => call36 m.f1 (by omega) n
  have hc2 := fun n => call23 m.f2 (by omega) n
  simp only [k28_enc]
  refine fn_rule (fn := fn11) rfl rfl (by simp [fn11]) ?_
  unfold fn11
  simp only [Tryz.f11, Option.getD_some, argEnv, List.map_nil, List.length_nil]
  have e0 : (((m.f0.length : Nat) : Int) != ((m.f0.length : Nat) : Int)) = false := by simp
  simp only [go_sem, T_3, T_9, T_24, T_25, T_26, T_28, T_54, T_55, T_57, T_96, e0]
  refine loop_rule (ι := Nat) (S := fun i => ⟨[(2, .ptr 0 0 0), (3, .ptr 1 0 0), (15, .int .i64 m.f0.length), (16, .int .i64 i)], [some (.buf 3 [[.fz (m.f0.map (Cd.int .u32).enc), .fz (m.f1.map k96.enc), .fz (m.f2.map k57.enc)]] false true), some (.buf 3 [[.fz (m.f0.map (Cd.int .u32).enc), .fz (m.f1.map k96.enc), .fz (m.f2.map k57.enc)]] false true)]⟩) (m := fun i => m.f0.length + 1 - i) (I := fun i => i ≤ m.f0.length) ?_ 0 _ (Nat.zero_le _) rfl
  intro i hi
  by_cases hlt : i < m.f0.length
  · have x0 : m.f0[i]? = some m.f0[i] := List.getElem?_eq_getElem hlt
    have hlt' : ((i : Int) < (m.f0.length : Int)) := by omega
    have e1 : (m.f0[i] != m.f0[i]) = false := by simp
    simp only [go_sem, T_3, T_9, T_24, T_25, T_26, T_28, T_54, T_55, T_57, T_96, hlt, hlt', x0, e1, wrap_i64s (show i < 1000000000000000000 by omega)]
    exact ⟨i + 1, by omega, by simp only; omega, rfl⟩
  · simp only [go_sem, T_3, T_9, T_24, T_25, T_26, T_28, T_54, T_55, T_57, T_96, hlt, hc1, hc2]
theorem call11 (m : S28) (hm : WfM m) (n : Nat) : callV (LX T fns) n (.clo 11 []) [.agg (k28.enc m), .agg (k28.enc m)] = .pure (.bool true, []) := callV_plain (fn := fn11) rfl rfl rfl (lim11 m hm) n
end Go.Proofs.YtoggbcckkjfkhaaGreat.R
/- Chapter 25's law DagWrong: a table of counts; a disk; a cache. -/
namespace Go.Proofs.YtoggbcckkjfkhaaGreat.R
open Go Go.Proofs
set_option linter.unusedSimpArgs false
set_option linter.unusedVariables false
set_option maxRecDepth 10000
set_option maxHeartbeats 1000000

def dskO (j k : Nat) : Ob := .buf 8 [[.int .i64 60, .map j, .map k, .nils, .bool false, .int .i64 0, .bool false, .int .i64 0]] false false
def mpO : Ob := .mp [] true
theorem lim6 : lim T fns 6 [.int .i64 60] [] = some (.tup [.ptr 0 0 0, .int .i64 0], [some (dskO 1 2), some mpO, some mpO]) := acall_lim (R := 3) (d := 3) (by kernel_rfl)
def tabO (n j k : Nat) : Ob := .buf 2 [[.ms j 1 0 n none, .ms k 1 0 n none]] false false
def stV (n : Int) : List V := [.int .u8 (if 0 < n then 2 else 0)]
def stL (l : List Int) (i : Nat) : List (List V) := (l.take i).map stV ++ List.replicate (l.length - i) [.int .u8 0]
def coL (l : List Int) (i : Nat) : List (List V) := (l.take i).map (Cd.int .u32).enc ++ List.replicate (l.length - i) [.int .u32 0]
theorem stL_len (l : List Int) (i : Nat) (h : i ≤ l.length) : (stL l i).length = l.length := by simp [stL]; omega
theorem coL_len (l : List Int) (i : Nat) (h : i ≤ l.length) : (coL l i).length = l.length := by simp [coL]; omega
theorem set_mid {α : Type} (a b : List α) (x y : α) (n : Nat) (h : n = a.length) : (a ++ x :: b).set n y = a ++ y :: b := by
  subst h
  rw [List.set_append_right _ _ (Nat.le_refl _), Nat.sub_self]
  rfl
theorem stL_set {l : List Int} {i : Nat} (h : i < l.length) (hp : 0 < l[i]) : (stL l i).set i [.int .u8 2] = stL l (i + 1) := by
  unfold stL
  rw [show l.length - i = (l.length - (i + 1)) + 1 by omega, List.replicate_succ, set_mid _ _ _ _ _ (by simp; omega), List.take_succ_eq_append_getElem h, List.map_append]
  simp [stV, hp]
theorem coL_set {l : List Int} {i : Nat} (h : i < l.length) : (coL l i).set i [.int .u32 l[i]] = coL l (i + 1) := by
  unfold coL
  rw [show l.length - i = (l.length - (i + 1)) + 1 by omega, List.replicate_succ, set_mid _ _ _ _ _ (by simp; omega), List.take_succ_eq_append_getElem h, List.map_append]
  simp
  rfl
theorem stL_same {l : List Int} {i : Nat} (h : i < l.length) (hp : ¬ 0 < l[i]) : stL l i = stL l (i + 1) := by
  unfold stL
  rw [show l.length - i = (l.length - (i + 1)) + 1 by omega, List.replicate_succ, List.take_succ_eq_append_getElem h, List.map_append]
  simp [stV, hp]
theorem coL_same {l : List Int} {i : Nat} (h : i < l.length) (hp : l[i] = 0) : coL l i = coL l (i + 1) := by
  unfold coL
  rw [show l.length - i = (l.length - (i + 1)) + 1 by omega, List.replicate_succ, List.take_succ_eq_append_getElem h, List.map_append]
  simp [hp]
  rfl
theorem lim67 (n : Nat) (h : 1 ≤ n ∧ n ≤ 4096) : lim T fns 67 [.int .i64 n] [] = some (.tup [.ptr 0 0 0, .int .i64 0], [some (tabO n 1 2), some (.buf 1 (List.replicate n [.int .u8 0]) false true), some (.buf 1 (List.replicate n [.int .u32 0]) false true)]) := by
  refine fn_rule (fn := fn67) rfl rfl (by simp [fn67]) ?_
  unfold fn67
  simp only [Tryz.f67, Option.getD_some, argEnv, List.map_nil, List.length_nil]
  have e1 : ((n : Int) < 1) = False := eq_false (by omega)
  have e2 : ((n : Int) > 4096) = False := eq_false (by omega)
  have c1 : (n ≤ 140737488355328) = True := eq_true (by omega)
  have c2 : (n * 4 ≤ 140737488355328) = True := eq_true (by omega)
  have c3 : (n ≤ n) = True := eq_true (Nat.le_refl n)
  have c4 : (n = 0) = False := eq_false (by omega)
  simp only [go_sem, T_3, T_24, T_54, T_125, T_126, T_128, e1, e2, c1, c2, c3, c4, Nat.mul_one, natOf_cast, tabO]
  show _ = _
  kernel_rfl
end Go.Proofs.YtoggbcckkjfkhaaGreat.R
/- Chapter 25's law DagWrong: a table of counts is loaded; a cache. -/
namespace Go.Proofs.YtoggbcckkjfkhaaGreat.R
open Go Go.Proofs
set_option linter.unusedSimpArgs false
set_option linter.unusedVariables false
set_option maxRecDepth 10000
set_option maxHeartbeats 1000000

/-- A call of a function that answers new objects. -/
theorem callV_new {T : TT} {fns : FuncId → Option AFn} {g : FuncId} {fn : AFn} (hfn : fns g = some fn) {args : List V} {r : V} {H : Heap} (ha : V.allPlain args = true) (h : lim T fns g args [] = some (r, H)) {n : Nat} {r' : V} {us : Upd}
    (hr : V.re (back [] n H.length) r = some r') (hp : pushObs (back [] n H.length) H 0 = some us) (he : H.isEmpty = false) : callV (LX T fns) n (.clo g []) args = .pure (r', us) := by
  unfold callV
  simp only [hfn, List.append_nil]
  unfold callR
  rw [plainArgs_frz _ _ _ ha, plainAll_ids _ ha]
  show withR (lim T fns g) n args [] [] = _
  unfold withR
  simp only [List.map_nil, upd1, List.all_nil, Bool.and_self, if_true, plainAll_re _ args ha, pullObs, h, List.length_nil, Nat.zero_le]
  unfold afterR
  simp only [hr, hp, he, Bool.and_false, Bool.false_and, Bool.false_eq_true, if_false, List.append_nil]
theorem stL_get {l : List Int} {i : Nat} (h : i < l.length) : (stL l i)[i]? = some [.int .u8 0] := by
  unfold stL
  have hl : ((l.take i).length) = i := by simp; omega
  rw [List.getElem?_append_right (by rw [List.length_map, hl]; exact Nat.le_refl _), List.length_map, hl, Nat.sub_self, List.getElem?_replicate, if_pos (by omega)]
theorem coL_get {l : List Int} {i : Nat} (h : i < l.length) : (coL l i)[i]? = some [.int .u32 0] := by
  unfold coL
  have hl : ((l.take i).length) = i := by simp; omega
  rw [List.getElem?_append_right (by rw [List.length_map, hl]; exact Nat.le_refl _), List.length_map, hl, Nat.sub_self, List.getElem?_replicate, if_pos (by omega)]
theorem eqPT (i r o : Nat) : eqV T 83 (.ptr i r o) .nilp = some false := by
  unfold eqV
  rw [T_83]
theorem lim29 (l : List Int) (h : 1 ≤ l.length ∧ l.length ≤ 4096) (hw : ∀ n ∈ l, 0 ≤ n ∧ n < 4294967296) : lim T fns 29 [.fz (l.map (Cd.int .u32).enc)] [] = some (.tup [.ptr 0 0 0, .int .i64 0], [some (tabO l.length 1 2), some (.buf 1 (stL l l.length) false true), some (.buf 1 (coL l l.length) false true)]) := by
  have hc : ∀ n, callV (LX T fns) n (.clo 67 []) [.int .i64 l.length] = .pure (.tup [.ptr n 0 0, .int .i64 0], [(n, some (tabO l.length (n + 1) (n + 2))), (n + 1, some (.buf 1 (List.replicate l.length [.int .u8 0]) false true)), (n + 2, some (.buf 1 (List.replicate l.length [.int .u32 0]) false true))]) :=
    fun n => callV_new (fn := fn67) rfl rfl (lim67 l.length h) rfl rfl rfl
  have n00 : ((0 : Int) != 0) = false := rfl
  refine fn_rule (fn := fn29) rfl rfl (by simp [fn29]) ?_
  unfold fn29
  simp only [Tryz.f29, Option.getD_some, argEnv, List.map_nil, List.length_nil]
  simp only [tabO] at hc ⊢
  simp only [go_sem, T_3, T_24, T_34, T_54, T_125, T_126, T_128, hc, n00, nilCheckR, Nat.zero_add]
  refine loop_rule (ι := Nat) (S := fun i => ⟨[(4, .ptr 0 0 0), (17, .fz (l.map (Cd.int .u32).enc)), (18, .int .i64 l.length), (19, .int .i64 i)], [some (.buf 2 [[.ms 1 1 0 l.length none, .ms 2 1 0 l.length none]] false false), some (.buf 1 (stL l i) false true), some (.buf 1 (coL l i) false true)]⟩) (m := fun i => l.length + 1 - i) (I := fun i => i ≤ l.length) ?_ 0 _ (Nat.zero_le _) (by simp only [stL, coL, List.take_zero, List.map_nil, List.nil_append, Nat.sub_zero]; rfl)
  intro i hi
  by_cases hlt : i < l.length
  · have x0 : l[i]? = some l[i] := List.getElem?_eq_getElem hlt
    have hlt' : ((i : Int) < (l.length : Int)) := by omega
    have hp := hw l[i] (List.getElem_mem _)
    by_cases g1 : 0 < l[i]
    · have f1 : (l[i] > 0) = True := eq_true g1
      simp only [go_sem, T_3, T_24, T_34, T_54, T_125, T_126, T_128, hlt, hlt', x0, f1, nilCheckR, natOf_cast, stL_len l i hi, coL_len l i hi, stL_get hlt, coL_get hlt, stL_set hlt g1, coL_set hlt, wrap_i64s (show i < 1000000000000000000 by omega)]
      refine ⟨i + 1, by omega, by simp only; omega, ?_⟩
      show _ = _
      kernel_rfl
    · have f1 : (l[i] > 0) = False := eq_false g1
      simp only [go_sem, T_3, T_24, T_34, T_54, T_125, T_126, T_128, hlt, hlt', x0, f1, nilCheckR, wrap_i64s (show i < 1000000000000000000 by omega)]
      refine ⟨i + 1, by omega, by simp only; omega, ?_⟩
      rw [stL_same hlt g1, coL_same hlt (by omega)]
      rfl
  · have : i = l.length := by omega
    subst this
    simp only [go_sem, T_3, T_24, T_34, T_54, T_125, T_126, T_128, hlt]
    show _ = _
    kernel_rfl
end Go.Proofs.YtoggbcckkjfkhaaGreat.R
/- Calls whose arguments are slices of objects: they are frozen, then the callee's answer is as at plain ones. -/
namespace Go.Proofs.YtoggbcckkjfkhaaGreat.R
open Go
set_option linter.unusedVariables false
set_option linter.unusedSimpArgs false

/-- A slice of an object, looked at. -/
def fzB (p st o l : Nat) (x : Option Ob) : Option (V × Upd × List Nat) := match x with
  | some (.buf st' rows _ true) => if st' = st ∧ o + l ≤ rows.length then some (.fz ((rows.drop o).take l), [(p, some (.buf st rows true true))], [p]) else none
  | _ => none
def fzP (v : V) : Option (V × Upd × List Nat) := if v.plain = true then some (v, [], []) else none
/-- An argument, frozen: its value, what was turned, what was looked at. -/
def fzArg (h : Heap) : V → Option (V × Upd × List Nat)
  | .ms p st o l _ => fzB p st o l (h.at? p)
  | .nils => some (.fz [], [], [])
  | v => fzP v
def fz2 (x y : Option (V × Upd × List Nat)) (r : V × Upd × List Nat → Option (List V × Upd × List Nat)) : Option (List V × Upd × List Nat) := match x with
  | some v => r v
  | none => none
def fzJ (x : Option (V × Upd × List Nat)) (y : Option (List V × Upd × List Nat)) : Option (List V × Upd × List Nat) := match x, y with
  | some (v, u, l), some (r, u', l') => some (v :: r, u ++ u', l' ++ l)
  | _, _ => none
def fzArgs (h : Heap) : List V → Option (List V × Upd × List Nat)
  | [] => some ([], [], [])
  | v :: r => fzJ (fzArg h v) (fzArgs h r)

theorem fzP_frz {α : Type} {v v' : V} {u : Upd} {l : List Nat} (hx : fzP v = some (v', u, l)) (k : V → Upd → Rd α) (h : Heap) (tr : List Nat) : (frz v k).run h tr = (k v' u).run h (l ++ tr) ∧ v'.plain = true := by
  unfold fzP at hx
  split at hx
  · rename_i hp
    cases hx
    exact ⟨by rw [plain_frz k v hp]; rfl, hp⟩
  · cases hx
theorem fzArg_frz {α : Type} {h : Heap} {v v' : V} {u : Upd} {l : List Nat} (hx : fzArg h v = some (v', u, l)) (k : V → Upd → Rd α) (tr : List Nat) : (frz v k).run h tr = (k v' u).run h (l ++ tr) ∧ v'.plain = true := by
  cases v with
  | ms p st o n c =>
    simp only [fzArg, fzB] at hx
    simp only [frz, frzAll, frzG, frzGAll, ms2, msUp, frzG, ms2, msUp, Rd.run]
    cases ho : h.at? p with
    | none => rw [ho] at hx; cases hx
    | some ob =>
      rw [ho] at hx
      cases ob with
      | mp es q => cases hx
      | buf st' rows f q =>
        cases q with
        | false => cases hx
        | true =>
          simp only at hx ⊢
          split at hx
          · rename_i hc
            cases hx
            rw [if_pos hc]
            exact ⟨rfl, rfl⟩
          · cases hx
  | nils =>
    simp only [fzArg] at hx
    cases hx
    exact ⟨by simp only [frz, frzAll, frzG, frzGAll, ms2, msUp, frzG]; rfl, rfl⟩
  | _ => exact fzP_frz hx k h tr
theorem fzArgs_frz {α : Type} {h : Heap} : ∀ {l l' : List V} {u : Upd} {rs : List Nat} {m : List Bool}, fzArgs h l = some (l', u, rs) → m.all id = true → l.length ≤ m.length → ∀ (k : List V → Upd → Rd α) (tr : List Nat), (frzArgs l m k).run h tr = (k l' u).run h (rs ++ tr) ∧ V.allPlain l' = true
  | [], l', u, rs, m, hx, _, _, k, tr => by
    simp only [fzArgs] at hx
    cases hx
    exact ⟨by simp only [frzArgs]; rfl, rfl⟩
  | v :: r, l', u, rs, m, hx, hm, hl, k, tr => by
    cases m with
    | nil => simp at hl
    | cons b m =>
      simp only [List.all_cons, id_eq, Bool.and_eq_true] at hm
      obtain ⟨rfl, hm⟩ := hm
      simp only [fzArgs] at hx
      cases h1 : fzArg h v with
      | none => rw [h1] at hx; simp [fzJ] at hx
      | some x =>
        obtain ⟨v1, u1, l1⟩ := x
        cases h2 : fzArgs h r with
        | none => rw [h1, h2] at hx; simp [fzJ] at hx
        | some y =>
          obtain ⟨r2, u2, l2⟩ := y
          rw [h1, h2] at hx
          simp only [fzJ, Option.some.injEq, Prod.mk.injEq] at hx
          obtain ⟨rfl, rfl, rfl⟩ := hx
          simp only [frzArgs]
          have a := fzArg_frz h1 (fun v u => frzArgs r m fun r u' => k (v :: r) (u ++ u')) tr
          have b := fzArgs_frz h2 hm (by simpa using hl) (fun r u' => k (v1 :: r) (u1 ++ u')) (l1 ++ tr)
          refine ⟨?_, ?_⟩
          · rw [a.1, b.1, List.append_assoc]
          · simp only [V.allPlain, a.2, b.2, Bool.and_self]

noncomputable def fzBad (T : TT) (fns : FuncId → Option AFn) (g : FuncId) (n : Nat) (args : List V) (h : Heap) (tr : List Nat) : Option ((V × Upd) × List Nat) := (callV (LX T fns) n (.clo g []) args).run h tr
noncomputable def fzC (T : TT) (fns : FuncId → Option AFn) (g : FuncId) (n : Nat) (args : List V) (h : Heap) (tr : List Nat) (u : Upd) (rs : List Nat) (y : Option (V × Heap)) : Option ((V × Upd) × List Nat) := match y with
  | some (r, []) => if r.plain = true then some ((r, if r.noFz = true then [] else u), rs ++ tr) else fzBad T fns g n args h tr
  | _ => fzBad T fns g n args h tr
noncomputable def fzCall (T : TT) (fns : FuncId → Option AFn) (g : FuncId) (n : Nat) (args : List V) (h : Heap) (tr : List Nat) (x : Option (List V × Upd × List Nat)) : Option ((V × Upd) × List Nat) := match x with
  | some (args', u, rs) => fzC T fns g n args h tr u rs (lim T fns g args' [])
  | none => fzBad T fns g n args h tr

theorem callFz {T : TT} {fns : FuncId → Option AFn} (g : FuncId) (fn : AFn) (hfn : fns g = some fn) (hp : fn.pfz.all id = true) (np : Nat) (hnp : fn.pfz.length = np) (n : Nat) (args : List V) (h : Heap) (tr : List Nat) (hl : args.length ≤ np) :
    (callV (LX T fns) n (.clo g []) args).run h tr = fzCall T fns g n args h tr (fzArgs h args) := by
  subst hnp
  unfold fzCall
  split
  · rename_i args' u rs hx
    unfold fzC
    split
    · rename_i r hr
      split
      · rename_i hpl
        unfold callV
        simp only [hfn, List.append_nil]
        unfold callR
        have key := fzArgs_frz (α := V × Upd) hx hp hl (fun args u => collect 4096 (V.allIds args) [] fun obs => withR ((LX T fns).call g) n args u obs) tr
        rw [key.1]
        rw [plainAll_ids _ key.2]
        show (withR (lim T fns g) n args' u []).run h (rs ++ tr) = _
        unfold withR
        simp only [List.map_nil, upd1, List.contains_nil, Bool.not_false, List.all_nil, Bool.and_true, plainAll_re _ _ key.2, pullObs, hr, List.length_nil, Nat.le_refl, if_true]
        rw [if_pos (by simp)]
        unfold afterR
        simp only [List.length_nil, plain_re _ _ hpl, pushObs, List.isEmpty_nil, Bool.true_and, List.nil_append]
        split <;> rfl
      · rfl
    · rfl
  · rfl

section
variable {T : TT} {fns : FuncId → Option AFn} {g : FuncId} {n : Nat} {args args' : List V} {h : Heap} {tr rs : List Nat} {u : Upd} {r : V}
theorem fzCall_some : fzCall T fns g n args h tr (some (args', u, rs)) = fzC T fns g n args h tr u rs (lim T fns g args' []) := rfl
theorem fzC_some : fzC T fns g n args h tr u rs (some (r, [])) = if r.plain = true then some ((r, if r.noFz = true then [] else u), rs ++ tr) else fzBad T fns g n args h tr := rfl
theorem fzArgs_nil : fzArgs h [] = some ([], [], []) := rfl
theorem fzArgs_cons {v : V} {r : List V} : fzArgs h (v :: r) = fzJ (fzArg h v) (fzArgs h r) := rfl
theorem fzJ_some {v : V} {l l' : List Nat} {u u' : Upd} {r : List V} : fzJ (some (v, u, l)) (some (r, u', l')) = some (v :: r, u ++ u', l' ++ l) := rfl
theorem fzArg_ms {p st o l : Nat} {c : Option Nat} : fzArg h (.ms p st o l c) = fzB p st o l (h.at? p) := rfl
theorem fzArg_nils : fzArg h .nils = some (.fz [], [], []) := rfl
theorem fzArg_int {k : IntKind} {m : Int} : fzArg h (.int k m) = some (.int k m, [], []) := rfl
theorem fzArg_bool {b : Bool} : fzArg h (.bool b) = some (.bool b, [], []) := rfl
theorem fzArg_str {s : ByteArray} : fzArg h (.str s) = some (.str s, [], []) := rfl
theorem fzArg_fz {rows : List (List V)} : fzArg h (.fz rows) = some (.fz rows, [], []) := rfl
theorem fzArg_agg {cs : List V} : fzArg h (.agg cs) = if V.allPlain cs = true then some (.agg cs, [], []) else none := rfl
theorem fzB_all {p st l : Nat} {rows : List (List V)} {f : Bool} (hl : rows.length = l) : fzB p st 0 l (some (.buf st rows f true)) = some (.fz rows, [(p, some (.buf st rows true true))], [p]) := by
  subst hl
  unfold fzB
  simp
theorem nfz_int (k : IntKind) (n : Int) : V.noFz (.int k n) = true := id rfl
theorem nfz_bool (b : Bool) : V.noFz (.bool b) = true := id rfl
theorem nfz_str (s : ByteArray) : V.noFz (.str s) = true := id rfl
theorem nfz_fz (rows : List (List V)) : V.noFz (.fz rows) = false := id rfl
theorem nfz_agg (cs : List V) : V.noFz (.agg cs) = V.allNoFz cs := id rfl
theorem nfz_tup (cs : List V) : V.noFz (.tup cs) = V.allNoFz cs := id rfl
theorem nfz_nil : V.allNoFz [] = true := id rfl
theorem nfz_cons (v : V) (r : List V) : V.allNoFz (v :: r) = (V.noFz v && V.allNoFz r) := id rfl
end
attribute [go_sem] fzCall_some fzC_some fzArgs_nil fzArgs_cons fzJ_some fzArg_ms fzArg_nils fzArg_int fzArg_bool fzArg_str fzArg_fz fzArg_agg fzB_all nfz_int nfz_bool nfz_str nfz_fz nfz_agg nfz_tup nfz_nil nfz_cons
end Go.Proofs.YtoggbcckkjfkhaaGreat.R
/- Chapter 27's laws: slices and calls. (printed by mk27.py out of R31a .. R31i) -/
namespace Go.Proofs.YtoggbcckkjfkhaaGreat.R
open Go Go.Proofs
set_option linter.unusedSimpArgs false
set_option linter.unusedVariables false
set_option maxRecDepth 10000
set_option maxHeartbeats 4000000

attribute [go_sem] sliceR List.length_map cutS optNat Option.map_none Option.isSome_none Option.isNone_none Option.isNone_some Bool.and_true Bool.false_and Bool.and_false List.map_cons List.map_nil Nat.sub_zero Nat.zero_add Nat.add_zero Nat.sub_self capB Int.toNat_natCast
theorem one_cast : ((1 : Nat) : Int) = 1 := rfl
theorem wrap_add1 {n : Nat} (h : n < 1000000000000000000) : IntKind.i64.wrap ((n : Int) + ((1 : Nat) : Int)) = ((n + 1 : Nat) : Int) := wrap_i64s h
theorem wrap_sub {a b : Nat} (h : a < 1000000000000000000) (hb : b ≤ a) : IntKind.i64.wrap ((a : Int) - (b : Int)) = ((a - b : Nat) : Int) := by
  rw [wrap_i64 (by omega) (by omega)]
  omega
theorem cast_eq0 {n : Nat} : (((n : Nat) : Int) == ((0 : Nat) : Int)) = decide (n = 0) := by
  rw [Bool.eq_iff_iff]
  simp
theorem cast_beq {a b : Nat} : (((a : Nat) : Int) == ((b : Nat) : Int)) = decide (a = b) := by
  rw [Bool.eq_iff_iff]
  simp only [beq_iff_eq, decide_eq_true_eq]
  omega
theorem cast_lt {a b : Nat} : ((a : Int) < (b : Int)) = (a < b) := by simp
theorem append_grow {ti : TI} {n i st l c : Nat} {new : List (List V)} {np : Bool} {h : Heap} {tr : List Nat} {st' : Nat} {rows : List (List V)} {f p : Bool} (hat : h.at? i = some (.buf st' rows f p)) (h0 : new.length ≠ 0) (h1 : st = ti.size) (h2 : st' = ti.size) (h3 : l ≤ rows.length) (h4 : (l + new.length) * ti.bytes ≤ 140737488355328) (h5 : l + new.length ≤ 140737488355328) (h6 : c < l + new.length) :
    (appendR ti n (.ms i st 0 l (some c)) new np).run h tr = some ((.ms n st 0 (l + new.length) none, [(n, some (.buf st (rows.take l ++ new) false (p && np)))]), i :: tr) := by
  subst h1
  subst h2
  unfold appendR
  simp only [h0, if_false, if_true, Rd.run, hat]
  rw [if_pos ⟨trivial, by omega, h4, h5⟩]
  unfold appendM
  simp only
  rw [if_pos h6]
  simp [Rd.run]
theorem copy_fz {ti : TI} {i st o n : Nat} {c : Option Nat} {new : List (List V)} {h : Heap} {tr : List Nat} {st' : Nat} {rows : List (List V)} {p : Bool} (hat : h.at? i = some (.buf st' rows false p)) (h1 : st = ti.size) (h2 : st' = ti.size) (ha : (new.all fun r => r.length == ti.size) = true) (h3 : o + n ≤ rows.length) :
    (copyR ti (.ms i st o n c) (.fz new)).run h tr = some ((.int .i64 (min new.length n : Nat), [(i, some (.buf st (rows.take o ++ new.take n ++ rows.drop (o + min new.length n)) false p))]), i :: tr) := by
  subst h1
  subst h2
  unfold copyR
  simp only [if_true, rows?, ha, Rd.run, hat]
  rw [if_pos ⟨trivial, h3⟩]
  simp [Rd.run]
theorem copy_ms {ti : TI} {i st o n j o2 n2 : Nat} {c c2 : Option Nat} {h : Heap} {tr : List Nat} {st' st2 st2' : Nat} {rows rows2 : List (List V)} {f2 p p2 : Bool} (hat : h.at? i = some (.buf st' rows false p)) (h1 : st = ti.size) (h2 : st' = ti.size) (h3 : o + n ≤ rows.length)
    (hat2 : h.at? j = some (.buf st2' rows2 f2 p2)) (h4 : st2 = ti.size) (h5 : st2' = ti.size) (h6 : o2 + n2 ≤ rows2.length) :
    (copyR ti (.ms i st o n c) (.ms j st2 o2 n2 c2)).run h tr = some ((.int .i64 (min n2 n : Nat), [(i, some (.buf st (rows.take o ++ ((rows2.drop o2).take n2).take n ++ rows.drop (o + min n2 n)) false (p && p2)))]), i :: j :: tr) := by
  subst h1
  subst h2
  subst h4
  subst h5
  have hl : ((rows2.drop o2).take n2).length = n2 := by simp; omega
  unfold copyR
  simp only [if_true, rows?, Rd.run, hat2]
  rw [if_pos ⟨trivial, h6⟩]
  simp only [Rd.run, hat]
  rw [if_pos ⟨trivial, h3⟩]
  simp [Rd.run, hl]
theorem natOf_lit (k : IntKind) (n : Nat) : natOf (.int k (n : Int)) = some n := natOf_cast k n
/-- What slices.Insert does: zeros behind, the new one, the rest. -/
theorem ins_facts {ti : TI} {z kr : List V} {rows : List (List V)} {n i : Nat} {f : Bool} (hkr : kr.length = ti.size) (hl : rows.length = n) (hn : n < 1000000000000) (hi : i < n) (hb : ti.bytes ≤ 100) :
    (appendR ti 1 (.ms 0 ti.size 0 i (some n)) (List.replicate (n + 1 - i) z) true).run [some (.buf ti.size rows f true)] [] = some ((.ms 1 ti.size 0 (n + 1) none, [(1, some (.buf ti.size (rows.take i ++ List.replicate (n + 1 - i) z) false true))]), [0]) ∧
    (copyR ti (.ms 1 ti.size i (n + 1 - i) none) (.fz [kr])).run [some (.buf ti.size rows f true), some (.buf ti.size (rows.take i ++ List.replicate (n + 1 - i) z) false true)] [] = some ((.int .i64 ((min 1 (n + 1 - i) : Nat) : Int), [(1, some (.buf ti.size (rows.take i ++ [kr] ++ List.replicate (n - i) z) false true))]), [1]) ∧
    ∀ rest : Heap, (copyR ti (.ms 1 ti.size (i + 1) (n + 1 - (i + 1)) none) (.ms 0 ti.size i (n - i) (some (n - i)))).run (some (.buf ti.size rows f true) :: some (.buf ti.size (rows.take i ++ [kr] ++ List.replicate (n - i) z) false true) :: rest) [] = some ((.int .i64 ((min (n - i) (n + 1 - (i + 1)) : Nat) : Int), [(1, some (.buf ti.size (rows.take i ++ [kr] ++ rows.drop i) false true))]), [1, 0]) := by
  have hlt : (rows.take i).length = i := by simp; omega
  have hm : (n + 1) * ti.bytes ≤ (n + 1) * 100 := Nat.mul_le_mul_left _ hb
  refine ⟨?_, ?_, ?_⟩
  · have ha := append_grow (ti := ti) (n := 1) (i := 0) (st := ti.size) (l := i) (c := n) (new := List.replicate (n + 1 - i) z) (np := true) (h := [some (.buf ti.size rows f true)]) (tr := []) rfl (by simp; omega) rfl rfl (by omega) (by rw [List.length_replicate, show i + (n + 1 - i) = n + 1 by omega]; omega) (by simp; omega) (by simp; omega)
    rw [List.length_replicate, show i + (n + 1 - i) = n + 1 by omega] at ha
    exact ha
  · have hA : (rows.take i ++ List.replicate (n + 1 - i) z).length = n + 1 := by simp; omega
    have hc := copy_fz (ti := ti) (i := 1) (st := ti.size) (o := i) (n := n + 1 - i) (c := none) (new := [kr]) (tr := []) (h := [some (.buf ti.size rows f true), some (.buf ti.size (rows.take i ++ List.replicate (n + 1 - i) z) false true)]) rfl rfl rfl (by simp [hkr]) (by omega)
    rw [hc]
    have e1 : List.take i (rows.take i ++ List.replicate (n + 1 - i) z) = rows.take i := by rw [List.take_left' hlt]
    have e2 : List.drop (i + min 1 (n + 1 - i)) (rows.take i ++ List.replicate (n + 1 - i) z) = List.replicate (n - i) z := by
      rw [show i + min 1 (n + 1 - i) = i + 1 by omega, List.drop_append, hlt, List.drop_eq_nil_of_le (by omega), List.nil_append, List.drop_replicate]
      congr 1
      omega
    rw [e1, show [kr].length = 1 from rfl, e2, show List.take (n + 1 - i) [kr] = [kr] from List.take_of_length_le (by simp; omega)]
  · intro rest
    have hB : (rows.take i ++ [kr] ++ List.replicate (n - i) z).length = n + 1 := by simp; omega
    have hc := copy_ms (ti := ti) (i := 1) (st := ti.size) (o := i + 1) (n := n + 1 - (i + 1)) (c := none) (j := 0) (st2 := ti.size) (o2 := i) (n2 := n - i) (c2 := some (n - i)) (tr := []) (h := some (.buf ti.size rows f true) :: some (.buf ti.size (rows.take i ++ [kr] ++ List.replicate (n - i) z) false true) :: rest) rfl rfl rfl (by omega) rfl rfl rfl (by omega)
    rw [hc]
    have e3 : List.take (i + 1) (rows.take i ++ [kr] ++ List.replicate (n - i) z) = rows.take i ++ [kr] := by rw [List.take_left' (by simp; omega)]
    have e4 : List.drop (i + 1 + min (n - i) (n + 1 - (i + 1))) (rows.take i ++ [kr] ++ List.replicate (n - i) z) = [] := List.drop_eq_nil_of_le (by omega)
    rw [e3, e4, show ((rows.drop i).take (n - i)).take (n + 1 - (i + 1)) = rows.drop i by rw [List.take_of_length_le (by simp; omega), List.take_of_length_le (by simp; omega)], List.append_nil]
    rfl
theorem nan_no (a : ByteArray) : (!(a.toList == a.toList)) = false := by simp
theorem wrap_u64 {n : Nat} (h : n < 1000000000000000000) : IntKind.u64.wrap (n : Int) = n := by
  simp [IntKind.wrap, IntKind.signed, IntKind.bits]
  omega
theorem wrap_add2 {a b : Nat} (h : a + b < 1000000000000000000) : IntKind.i64.wrap ((a : Int) + (b : Int)) = ((a + b : Nat) : Int) := by
  rw [wrap_i64 (by omega) (by omega)]
  omega
theorem wrap_nat {n : Nat} (h : n < 1000000000000000000) : IntKind.i64.wrap (n : Int) = n := wrap_i64 (by omega) (by omega)
theorem half {i j : Nat} (h : i + j < 1000000000000000) : (IntKind.u64.wrap (IntKind.i64.wrap ((i : Int) + (j : Int)))).fdiv (2 ^ min (Int.toNat 1) 64) = (((i + j) / 2 : Nat) : Int) := by
  rw [wrap_add2 (by omega), wrap_u64 (by omega), show (2 : Int) ^ min (Int.toNat 1) 64 = 2 from rfl]
  rw [Int.fdiv_eq_ediv_of_nonneg _ (by omega)]
  omega
/-- A call whose arguments are plain once they are frozen, and such an answer. -/
theorem callV_leaf {T : TT} {fns : FuncId → Option AFn} {g : FuncId} {fn : AFn} (hfn : fns g = some fn) {args caps args' : List V} {u : Upd} {r : V} {h : Heap} {tr tr' : List Nat} {n : Nat} (hz : ∀ K : List V → Upd → Rd (V × Upd), (frzArgs (args ++ caps) fn.pfz K).run h tr = (K args' u).run h tr')
    (ha : V.allPlain args' = true) (hr : r.plain = true) (hf : r.noFz = true) (hl : lim T fns g args' [] = some (r, [])) : (callV (LX T fns) n (.clo g caps) args).run h tr = some ((r, []), tr') := by
  unfold callV
  simp only [hfn]
  unfold callR
  rw [hz, plainAll_ids _ ha]
  show (withR (lim T fns g) n args' u []).run h tr' = _
  unfold withR
  simp only [List.map_nil, upd1, List.contains_nil, Bool.not_false, List.all_nil, Bool.and_true, plainAll_re _ _ ha, pullObs, hl, List.length_nil, Nat.le_refl, if_true]
  rw [if_pos (by simp)]
  unfold afterR
  simp [plain_re _ _ hr, pushObs, hf, Rd.run]
def insAt {α : Type} (i : Nat) (x : α) (l : List α) : List α := l.take i ++ [x] ++ l.drop i
/-- A call that is handed no object, and answers with new ones. -/
theorem callV_newf {T : TT} {fns : FuncId → Option AFn} {g : FuncId} {fn : AFn} (hfn : fns g = some fn) {args caps args' : List V} {u us : Upd} {r r' : V} {H : Heap} {h : Heap} {tr tr' : List Nat} {n : Nat} (hz : ∀ K : List V → Upd → Rd (V × Upd), (frzArgs (args ++ caps) fn.pfz K).run h tr = (K args' u).run h tr')
    (ha : V.allPlain args' = true) (hl : lim T fns g args' [] = some (r, H)) (hr : V.re (back [] n H.length) r = some r') (hp : pushObs (back [] n H.length) H 0 = some us) (he : H.isEmpty = false) : (callV (LX T fns) n (.clo g caps) args).run h tr = some ((r', us ++ u), tr') := by
  unfold callV
  simp only [hfn]
  unfold callR
  rw [hz, plainAll_ids _ ha]
  show (withR (lim T fns g) n args' u []).run h tr' = _
  unfold withR
  simp only [List.map_nil, upd1, List.contains_nil, Bool.not_false, List.all_nil, Bool.and_true, plainAll_re _ _ ha, pullObs, hl, List.length_nil, Nat.zero_le, if_true]
  rw [if_pos (by simp)]
  unfold afterR
  simp [hr, hp, he, Rd.run]
/-- A call that is handed one object, which leads to no other one. -/
theorem callV_one {T : TT} {fns : FuncId → Option AFn} {g : FuncId} {fn : AFn} (hfn : fns g = some fn) {args caps args' args2 : List V} {u us : Upd} {r r' : V} {o : Ob} {H : Heap} {h : Heap} {tr tr' : List Nat} {n p : Nat} (hz : ∀ K : List V → Upd → Rd (V × Upd), (frzArgs (args ++ caps) fn.pfz K).run h tr = (K args' u).run h tr')
    (hat : h.at? p = some o) (hid : V.allIds args' = [p]) (ho : o.ids = []) (hu : (u.all fun q => !([p].contains q.1)) = true) (hpn : p < n) (h2 : V.reAll (idx [p]) args' = some args2) (h3 : o.re (idx [p]) = some o) (hl : lim T fns g args2 [o] = some (r, H)) (h1 : 1 ≤ H.length)
    (hr : V.re (back [p] n H.length) r = some r') (hp : pushObs (back [p] n H.length) H 0 = some us) : (callV (LX T fns) n (.clo g caps) args).run h tr = some ((r', us ++ u), p :: tr') := by
  unfold callV
  simp only [hfn]
  unfold callR
  rw [hz, hid]
  simp only [collect, List.map_nil, List.contains_nil, Bool.false_eq_true, if_false, Rd.run, hat, ho, List.nil_append, List.append_nil]
  unfold withR
  simp only [List.map_cons, List.map_nil, upd1, hu, List.all_cons, List.all_nil, hpn, decide_true, Bool.and_self, if_true, h2, pullObs, h3, Option.bind_some, Option.map_some, hl, List.length_cons, List.length_nil, Nat.zero_add, h1]
  unfold afterR
  simp only [hr, hp, List.isEmpty_cons, Bool.false_and, Bool.false_eq_true, if_false, Rd.run]
theorem insAt_map {α β : Type} {f : α → β} {i : Nat} {x : α} {l : List α} : insAt i (f x) (l.map f) = (insAt i x l).map f := by
  unfold insAt
  simp only [List.map_append, List.map_cons, List.map_nil, List.map_take, List.map_drop]
end Go.Proofs.YtoggbcckkjfkhaaGreat.R
/- Numbers in order: where one stands among those that rise. -/
namespace Go.Proofs.YtoggbcckkjfkhaaGreat.R
open Go
set_option linter.unusedVariables false
set_option linter.unusedSimpArgs false

def ltI (a b : Int) : Bool := decide (a < b)
theorem ltI_iff {a b : Int} : ltI a b = true ↔ a < b := decide_eq_true_iff
theorem ltI_no {a b : Int} : ltI a b = false ↔ ¬ a < b := decide_eq_false_iff_not
def risesI : List Int → Bool
  | a :: b :: r => ltI a b && risesI (b :: r)
  | _ => true
theorem risesI_tail {a : Int} {r : List Int} (h : risesI (a :: r) = true) : risesI r = true := by
  cases r with
  | nil => rfl
  | cons b r => simp only [risesI, Bool.and_eq_true] at h; exact h.2
theorem risesI_lt : ∀ {r : List Int} {a : Int}, risesI (a :: r) = true → ∀ x ∈ r, a < x
  | [], a, _, x, hx => by simp at hx
  | b :: r, a, h, x, hx => by
    simp only [risesI, Bool.and_eq_true, ltI_iff] at h
    rcases List.mem_cons.1 hx with rfl | hx
    · exact h.1
    · exact Int.lt_trans h.1 (risesI_lt h.2 x hx)
theorem risesI_cons {a : Int} {r : List Int} (h : risesI r = true) (k : ∀ x ∈ r, a < x) : risesI (a :: r) = true := by
  cases r with
  | nil => rfl
  | cons b r => simp only [risesI, Bool.and_eq_true, ltI_iff]; exact ⟨k b (.head _), h⟩
def posI (k : Int) : List Int → Nat
  | [] => 0
  | x :: r => if ltI x k = true then posI k r + 1 else 0
theorem posI_le (k : Int) : ∀ l : List Int, posI k l ≤ l.length
  | [] => Nat.le_refl _
  | x :: r => by
    have := posI_le k r
    simp only [posI, List.length_cons]
    split <;> omega
theorem posI_lt {k : Int} : ∀ {l : List Int}, risesI l = true → ∀ {h : Nat} (hh : h < l.length), ltI l[h] k = decide (h < posI k l)
  | [], _, h, hh => by simp at hh
  | x :: r, hr, h, hh => by
    simp only [posI]
    cases h with
    | zero =>
      simp only [List.getElem_cons_zero]
      split
      · rename_i e; rw [e]; simp
      · rename_i e; simp at e; rw [e]; simp
    | succ h =>
      simp only [List.getElem_cons_succ]
      split
      · rename_i e
        rw [posI_lt (risesI_tail hr) (by simpa using hh)]
        simp
      · rename_i e
        have hh' : h < r.length := by simpa using hh
        have h1 := risesI_lt hr _ (List.getElem_mem hh')
        rw [ltI_iff] at e
        rw [ltI_no.2 (by omega)]
        simp
def hasI (k : Int) (l : List Int) : Bool := match l[posI k l]? with
  | some x => decide (x = k)
  | none => false
theorem hasI_get {k : Int} {ks : List Int} (h : posI k ks < ks.length) : hasI k ks = decide (ks[posI k ks] = k) := by
  unfold hasI
  rw [List.getElem?_eq_getElem h]
theorem hasI_end {k : Int} {ks : List Int} (h : ks.length ≤ posI k ks) : hasI k ks = false := by
  unfold hasI
  rw [List.getElem?_eq_none h]
theorem hasI_lt {k : Int} {ks : List Int} (h : hasI k ks = true) : posI k ks < ks.length := by
  rcases Nat.lt_or_ge (posI k ks) ks.length with h1 | h1
  · exact h1
  · rw [hasI_end h1] at h; cases h
def gtI {α : Type} (z : α) (k : Int) (ks : List Int) (vs : List α) : α := if hasI k ks = true then (vs[posI k ks]?).getD z else z

section
variable {β : Type}
def lookI (k : Int) : List Int → List β → Option β
  | x :: r, v :: s => if x = k then some v else lookI k r s
  | _, _ => none
theorem lookI_gt {k : Int} : ∀ {ks : List Int} {vs : List β}, (∀ x ∈ ks, k < x) → lookI k ks vs = none
  | [], _, _ => by simp [lookI]
  | x :: r, [], _ => by simp [lookI]
  | x :: r, v :: s, h => by
    have h1 : ¬ x = k := fun e => by have := h x (.head _); omega
    simp only [lookI, h1, if_false]
    exact lookI_gt fun y hy => h y (.tail _ hy)
theorem posI_here {k x : Int} {r : List Int} (h : ¬ x < k) : posI k (x :: r) = 0 := by simp only [posI]; rw [if_neg (by rw [ltI_iff]; exact h)]
theorem posI_next {k x : Int} {r : List Int} (h : x < k) : posI k (x :: r) = posI k r + 1 := by simp only [posI]; rw [if_pos (ltI_iff.2 h)]
theorem hasI_here {k x : Int} {r : List Int} (h : ¬ x < k) : hasI k (x :: r) = decide (x = k) := by
  unfold hasI
  rw [posI_here h]
  rfl
theorem hasI_next {k x : Int} {r : List Int} (h : x < k) : hasI k (x :: r) = hasI k r := by
  unfold hasI
  rw [posI_next h]
  rfl
theorem lookI_get {k : Int} : ∀ {ks : List Int} {vs : List β}, risesI ks = true → vs.length = ks.length → lookI k ks vs = if hasI k ks = true then vs[posI k ks]? else none
  | [], vs, _, _ => by simp [lookI, hasI]
  | x :: r, [], _, h => by simp at h
  | x :: r, v :: s, hr, h => by
    simp only [lookI]
    by_cases h1 : x < k
    · rw [if_neg (by omega), hasI_next h1, posI_next h1, lookI_get (risesI_tail hr) (by simpa using h)]
      rfl
    · rw [hasI_here h1, posI_here h1]
      by_cases h2 : x = k
      · simp [h2]
      · simp [h2, lookI_gt (vs := s) fun y hy => (by have := risesI_lt hr y hy; omega : k < y)]
theorem lookI_has {k : Int} {ks : List Int} {vs : List β} (hr : risesI ks = true) (hl : vs.length = ks.length) : hasI k ks = (lookI k ks vs).isSome := by
  rw [lookI_get hr hl]
  cases h : hasI k ks with
  | false => rfl
  | true =>
    have : posI k ks < vs.length := by rw [hl]; exact hasI_lt h
    rw [if_pos rfl, List.getElem?_eq_getElem this]
    rfl
theorem gtI_look {z : β} {k : Int} {ks : List Int} {vs : List β} (hr : risesI ks = true) (hl : vs.length = ks.length) : gtI z k ks vs = (lookI k ks vs).getD z := by
  unfold gtI
  rw [lookI_get hr hl]
  cases h : hasI k ks with
  | true => rw [if_pos rfl, if_pos rfl]
  | false => simp
theorem lookI_set {k j : Int} {c : β} : ∀ {ks : List Int} {vs : List β}, risesI ks = true → vs.length = ks.length → hasI k ks = true → lookI j ks (vs.set (posI k ks) c) = if k = j then some c else lookI j ks vs
  | [], vs, _, _, hb => by simp [hasI] at hb
  | x :: r, [], _, h, _ => by simp at h
  | x :: r, v :: s, hr, h, hb => by
    by_cases h1 : x < k
    · rw [hasI_next h1] at hb
      rw [posI_next h1]
      simp only [List.set_cons_succ, lookI]
      rw [lookI_set (risesI_tail hr) (by simpa using h) hb]
      by_cases hx : x = j
      · have : ¬ k = j := by omega
        simp [hx, this]
      · simp [hx]
    · rw [hasI_here h1] at hb
      have hb : x = k := by simpa using hb
      subst hb
      rw [posI_here h1]
      simp only [List.set_cons_zero, lookI]
      split <;> rfl
theorem insI0 {α : Type} (x : α) (l : List α) : l.take 0 ++ [x] ++ l.drop 0 = x :: l := by simp
theorem insIS {α : Type} (i : Nat) (x y : α) (l : List α) : (y :: l).take (i + 1) ++ [x] ++ (y :: l).drop (i + 1) = y :: (l.take i ++ [x] ++ l.drop i) := by simp
theorem lookI_ins {k j : Int} {c : β} : ∀ {ks : List Int} {vs : List β}, risesI ks = true → vs.length = ks.length → hasI k ks = false →
    lookI j (ks.take (posI k ks) ++ [k] ++ ks.drop (posI k ks)) (vs.take (posI k ks) ++ [c] ++ vs.drop (posI k ks)) = if k = j then some c else lookI j ks vs
  | [], vs, _, h, _ => by
    obtain rfl : vs = [] := List.eq_nil_of_length_eq_zero (by simpa using h)
    simp [posI, lookI]
  | x :: r, [], _, h, _ => by simp at h
  | x :: r, v :: s, hr, h, hb => by
    by_cases h1 : x < k
    · rw [hasI_next h1] at hb
      rw [posI_next h1, insIS, insIS]
      simp only [lookI]
      rw [lookI_ins (risesI_tail hr) (by simpa using h) hb]
      by_cases hx : x = j
      · have : ¬ k = j := by omega
        simp [hx, this]
      · simp [hx]
    · rw [posI_here h1, insI0, insI0]
      simp only [lookI]
theorem insI_mem {α : Type} {i : Nat} {x y : α} {l : List α} (h : y ∈ l.take i ++ [x] ++ l.drop i) : y = x ∨ y ∈ l := by
  simp only [List.mem_append, List.mem_singleton] at h
  rcases h with (h | h) | h
  · exact .inr (List.mem_of_mem_take h)
  · exact .inl h
  · exact .inr (List.mem_of_mem_drop h)
theorem risesI_ins {k : Int} : ∀ {l : List Int}, risesI l = true → hasI k l = false → risesI (l.take (posI k l) ++ [k] ++ l.drop (posI k l)) = true
  | [], _, _ => rfl
  | x :: r, hr, hb => by
    by_cases h1 : x < k
    · rw [hasI_next h1] at hb
      rw [posI_next h1, insIS]
      refine risesI_cons (risesI_ins (risesI_tail hr) hb) fun y hy => ?_
      rcases insI_mem hy with rfl | hy
      · exact h1
      · exact risesI_lt hr y hy
    · rw [hasI_here h1] at hb
      have hb : ¬ x = k := by simpa using hb
      rw [posI_here h1, insI0]
      refine risesI_cons hr fun y hy => ?_
      rcases List.mem_cons.1 hy with rfl | hy
      · omega
      · have := risesI_lt hr y hy
        omega
end
end Go.Proofs.YtoggbcckkjfkhaaGreat.R
/- Chapter 27's laws: a map of numbers to numbers. (printed by mk27.py out of R31a .. R31i) -/
namespace Go.Proofs.YtoggbcckkjfkhaaGreat.R
open Go Go.Proofs
set_option linter.unusedSimpArgs false
set_option linter.unusedVariables false
set_option maxRecDepth 10000
set_option maxHeartbeats 4000000

theorem nanU (a : Int) : (a != a) = false := by simp
theorem lim117_lt (n i : Nat) (kr : List V) (rows : List (List V)) (f : Bool) (hk : kr.length = 1) (hl : rows.length = n) (hn : n < 1000000000000) (hi : i < n) : lim T fns 117 [.ms 0 1 0 n (some n), .int .i64 i, .fz [kr]] [.buf 1 rows f true] =
    some (.ms 1 1 0 (n + 1) none, [some (.buf 1 rows f true), some (.buf 1 (rows.take i ++ [kr] ++ rows.drop i) false true)]) := by
  refine fn_rule (fn := fn117) rfl rfl (by simp [fn117]) ?_
  unfold fn117
  simp only [Tryz.f117, Option.getD_some, argEnv, List.map_nil, List.length_nil]
  have hi' : i ≤ n := Nat.le_of_lt hi
  have hc1 : (0 : Int) ≤ ((n + 1 - i : Nat) : Int) ∧ (n + 1 - i) * 4 ≤ 140737488355328 ∧ ((n + 1 - i : Nat) : Int) ≤ 140737488355328 := ⟨by omega, by omega, by omega⟩
  obtain ⟨f1, f2, f3⟩ := ins_facts (ti := ⟨.int .u32, 1, 4, .int .u32 0⟩) (z := [.int .u32 0]) (kr := kr) (f := f) hk hl hn hi (by decide)
  simp only at f1 f2 f3
  simp only [go_sem, T_3, T_4, T_24, T_54, Nat.le_refl, Nat.zero_le, hi, hi', hl, cast_eq0, cast_beq, wrap_add1 (show n < 1000000000000000000 by omega), wrap_add1 (show i < 1000000000000000000 by omega), wrap_sub (show n + 1 < 1000000000000000000 by omega) (show i ≤ n + 1 by omega), natOf_lit, show ¬ i = n by omega, hc1, f1, f2, f3, show i ≤ n + 1 by omega, show i + 1 ≤ n + 1 by omega, hk]
  repeat (refine ⟨by kernel_rfl, ?_⟩)
  show _ = _
  kernel_rfl
theorem lim117_eq (n : Nat) (kr : List V) (rows : List (List V)) (f : Bool) (hk : kr.length = 1) (hl : rows.length = n) (hn : n < 1000000000000) : lim T fns 117 [.ms 0 1 0 n (some n), .int .i64 n, .fz [kr]] [.buf 1 rows f true] =
    some (.ms 1 1 0 (n + 1) none, [some (.buf 1 rows f true), some (.buf 1 (rows.take n ++ [kr]) false true)]) := by
  refine fn_rule (fn := fn117) rfl rfl (by simp [fn117]) ?_
  unfold fn117
  simp only [Tryz.f117, Option.getD_some, argEnv, List.map_nil, List.length_nil]
  have ha := append_grow (ti := ⟨.int .u32, 1, 4, .int .u32 0⟩) (n := 1) (i := 0) (st := 1) (l := n) (c := n) (new := [kr]) (np := true) (h := [some (.buf 1 rows f true)]) (tr := []) rfl (by simp) rfl rfl (by omega) (by simp; omega) (by simp; omega) (by simp)
  simp only [List.length_cons, List.length_nil, Nat.zero_add, Bool.and_self] at ha
  simp only [go_sem, T_3, T_4, T_24, T_54, Nat.le_refl, Nat.zero_le, hl, cast_eq0, cast_beq, natOf_lit, ha, hk]
  repeat (refine ⟨by kernel_rfl, ?_⟩)
  show _ = _
  kernel_rfl
theorem lim117 (n i : Nat) (kr : List V) (rows : List (List V)) (f : Bool) (hk : kr.length = 1) (hl : rows.length = n) (hn : n < 1000000000000) (hi : i ≤ n) : lim T fns 117 [.ms 0 1 0 n (some n), .int .i64 i, .fz [kr]] [.buf 1 rows f true] =
    some (.ms 1 1 0 (n + 1) none, [some (.buf 1 rows f true), some (.buf 1 (rows.take i ++ [kr] ++ rows.drop i) false true)]) := by
  rcases Nat.lt_or_ge i n with h | h
  · exact lim117_lt n i kr rows f hk hl hn h
  · obtain rfl : i = n := by omega
    rw [lim117_eq i kr rows f hk hl hn, List.drop_eq_nil_of_le (by omega), List.append_nil]
theorem lim118 (n : Nat) (rows : List (List V)) (f : Bool) (hn : n < 1000000000000) : lim T fns 118 [.ms 0 1 0 n none] [.buf 1 rows f true] = some (.ms 0 1 0 n (some n), [some (.buf 1 rows f true)]) := by
  refine fn_rule (fn := fn118) rfl rfl (by simp [fn118]) ?_
  unfold fn118
  simp only [Tryz.f118, Option.getD_some, argEnv, List.map_nil, List.length_nil]
  simp only [go_sem, T_24, T_54, Nat.le_refl, Nat.zero_le]
  show _ = _
  kernel_rfl
theorem lim234 (a : Int) : lim T fns 234 [.int .u32 a] [] = some (.bool false, []) := by
  refine fn_rule (fn := fn234) rfl rfl (by simp [fn234]) ?_
  unfold fn234
  simp only [Tryz.f234, Option.getD_some, argEnv, List.map_nil, List.length_nil]
  simp only [go_sem, T_54, nanU]
theorem call234 (a : Int) (n : Nat) : callV (LX T fns) n (.clo 234 []) [.int .u32 a] = .pure (.bool false, []) := callV_plain (fn := fn234) rfl rfl rfl (lim234 a) n
theorem lim284 (a : Int) : lim T fns 284 [.int .u32 a] [] = some (.bool false, []) := by
  refine fn_rule (fn := fn284) rfl rfl (by simp [fn284]) ?_
  unfold fn284
  simp only [Tryz.f284, Option.getD_some, argEnv, List.map_nil, List.length_nil]
  simp only [go_sem, T_54, nanU]
theorem call284 (a : Int) (n : Nat) : callV (LX T fns) n (.clo 284 []) [.int .u32 a] = .pure (.bool false, []) := callV_plain (fn := fn284) rfl rfl rfl (lim284 a) n
theorem lim233 (a b : Int) : lim T fns 233 [.int .u32 a, .int .u32 b] [] = some (.bool (ltI a b), []) := by
  refine fn_rule (fn := fn233) rfl rfl (by simp [fn233]) ?_
  unfold fn233
  simp only [Tryz.f233, Option.getD_some, argEnv, List.map_nil, List.length_nil]
  have hl : decide (a < b) = ltI a b := rfl
  simp only [go_sem, T_4, T_54, call284, hl]
theorem call233 (a b : Int) (n : Nat) : callV (LX T fns) n (.clo 233 []) [.int .u32 a, .int .u32 b] = .pure (.bool (ltI a b), []) := callV_plain (fn := fn233) rfl rfl rfl (lim233 a b) n
theorem lim171 (k : Int) (ks : List Int) (hr : risesI ks = true) (hl : ks.length < 1000000000000) : lim T fns 171 [.fz (ks.map (Cd.int .u32).enc), .int .u32 k] [] = some (.tup [.int .i64 (posI k ks), .bool (hasI k ks)], []) := by
  refine fn_rule (fn := fn171) rfl rfl (by simp [fn171]) ?_
  unfold fn171
  simp only [Tryz.f171, Option.getD_some, argEnv, List.map_nil, List.length_nil]
  simp only [go_sem, T_3, T_24, T_54, T_220]
  refine loop_rule (ι := Nat × Nat) (S := fun p => ⟨[(0, .fz (ks.map (Cd.int .u32).enc)), (1, .int .u32 k), (6, .int .i64 ks.length), (7, .int .i64 p.1), (8, .int .i64 p.2)], []⟩) (m := fun p => p.2 - p.1)
    (I := fun p => p.1 ≤ posI k ks ∧ posI k ks ≤ p.2 ∧ p.2 ≤ ks.length) ?_ (0, ks.length) _ ⟨by simp, posI_le k ks, Nat.le_refl _⟩ (by kernel_rfl)
  rintro ⟨i, j⟩ ⟨h1, h2, h3⟩
  simp only at h1 h2 h3
  by_cases hlt : i < j
  · have hm : (i + j) / 2 < ks.length := by omega
    have hx : ks[(i + j) / 2]? = some ks[(i + j) / 2] := List.getElem?_eq_getElem hm
    have hp := posI_lt (k := k) hr hm
    simp only [go_sem, T_3, T_24, T_54, T_220, hlt, show (0 : Int) ≤ 1 by decide, half (show i + j < 1000000000000000 by omega), wrap_nat (show (i + j) / 2 < 1000000000000000000 by omega), hm, hx, call233, hp, wrap_i64s (show (i + j) / 2 < 1000000000000000000 by omega)]
    split
    · rename_i hlt2
      exact ⟨((i + j) / 2 + 1, j), ⟨by simp only; omega, by simp only; omega, by simp only; omega⟩, by simp only; omega, by kernel_rfl⟩
    · rename_i hlt2
      exact ⟨(i, (i + j) / 2), ⟨by simp only; omega, by simp only; omega, by simp only; omega⟩, by simp only; omega, by kernel_rfl⟩
  · have hij : i = posI k ks := by omega
    by_cases hend : i < ks.length
    · have hx : ks[i]? = some ks[i] := List.getElem?_eq_getElem hend
      have hb : hasI k ks = decide (ks[i] = k) := by subst hij; exact hasI_get hend
      rw [hb, ← hij]
      by_cases he : ks[i] = k
      · have heb : (ks[i] == k) = true := by simpa using he
        simp only [go_sem, T_3, T_24, T_54, T_220, hlt, hend, hx, heb, call234]
        simp [he]
      · have heb : (ks[i] == k) = false := by simpa using he
        simp only [go_sem, T_3, T_24, T_54, T_220, hlt, hend, hx, heb, call234]
        simp [he]
    · rw [hasI_end (by omega), ← hij]
      simp only [go_sem, T_3, T_24, T_54, T_220, hlt, hend]
theorem call171 (k : Int) (ks : List Int) (hr : risesI ks = true) (hl : ks.length < 1000000000000) (n : Nat) : callV (LX T fns) n (.clo 171 []) [.fz (ks.map (Cd.int .u32).enc), .int .u32 k] = .pure (.tup [.int .i64 (posI k ks), .bool (hasI k ks)], []) :=
  callV_plain (fn := fn171) rfl rfl rfl (lim171 k ks hr hl) n
theorem call171_at {ks : List Int} {ex : List (List V)} {k : Int} {n p l : Nat} {c : Option Nat} {f : Bool} {h : Heap} {tr : List Nat} (hat : h.at? p = some (.buf 1 (ks.map (Cd.int .u32).enc ++ ex) f true)) (hl : l = ks.length) (hr : risesI ks = true) (hb : ks.length < 1000000000000) :
    (callV (LX T fns) n (.clo 171 []) [.ms p 1 0 l c, .int .u32 k]).run h tr = some ((.tup [.int .i64 (posI k ks), .bool (hasI k ks)], []), p :: tr) := by
  subst hl
  refine callV_leaf (fn := fn171) rfl (args' := [.fz (ks.map (Cd.int .u32).enc), .int .u32 k]) (u := [(p, some (.buf 1 (ks.map (Cd.int .u32).enc ++ ex) true true))]) (fun K => ?_) rfl rfl rfl (lim171 k ks hr hb)
  simp only [fn171, List.append_nil, frzArgs, frz, frzAll, frzG, frzGAll, ms2, msUp, frzG, frzGAll, ms2, msUp, Rd.run, hat, List.tail]
  rw [if_pos ⟨trivial, by simp⟩]
  simp only [List.drop_zero, List.nil_append, List.append_nil, List.singleton_append]
  rw [List.take_left' (by simp)]
/-- Keys (and what lies behind them). -/
def kobU (ks : List Int) (ex : List (List V)) (f : Bool) : Ob := .buf 1 (ks.map (Cd.int .u32).enc ++ ex) f true
def mobU (i j n : Nat) : Ob := .buf 2 [[.ms i 1 0 n none, .ms j 1 0 n none]] false false
def vobU (vs : List Int) (ex : List (List V)) (f : Bool) : Ob := .buf 1 (vs.map (Cd.int .u32).enc ++ ex) f true
theorem eqPU (i r o : Nat) : eqV T 130 (.ptr i r o) .nilp = some false := by
  unfold eqV
  rw [T_130]
theorem lim116 (k : Int) (ks : List Int) (vs : List Int) (ex ey : List (List V)) (f g : Bool) (hr : risesI ks = true) (hl : ks.length < 1000000000000) : lim T fns 116 [.ptr 0 0 0, .int .u32 k] [mobU 1 2 ks.length, kobU ks ex f, vobU vs ey g] =
    some (.tup [.int .i64 (posI k ks), .bool (hasI k ks)], [some (mobU 1 2 ks.length), some (kobU ks ex f), some (vobU vs ey g)]) := by
  refine fn_rule (fn := fn116) rfl rfl (by simp [fn116]) ?_
  unfold fn116
  simp only [Tryz.f116, Option.getD_some, argEnv, List.map_nil, List.length_nil]
  have hc := fun (n : Nat) (a : Option Ob) (rest : Heap) => call171_at (ks := ks) (k := k) (n := n) (p := 1) (l := ks.length) (c := none) (f := f) (h := a :: some (.buf 1 (ks.map (Cd.int .u32).enc ++ ex) f true) :: rest) (tr := []) rfl rfl hr hl
  simp only [mobU, kobU, vobU]
  simp only [go_sem, T_24, T_54, T_130, T_200, hc, eqPU, nilCheckR, extractR]
  show _ = _
  kernel_rfl
theorem call116 (k : Int) (ks : List Int) (vs : List Int) (ex ey : List (List V)) (f g : Bool) (hr : risesI ks = true) (hl : ks.length < 1000000000000) (n : Nat) (hn : 3 ≤ n) (rest : Heap) : (callV (LX T fns) n (.clo 116 []) [.ptr 0 0 0, .int .u32 k]).run (some (mobU 1 2 ks.length) :: some (kobU ks ex f) :: some (vobU vs ey g) :: rest) [] =
    some ((.tup [.int .i64 (posI k ks), .bool (hasI k ks)], [(0, some (mobU 1 2 ks.length)), (1, some (kobU ks ex f)), (2, some (vobU vs ey g))]), [2, 1, 0]) := by
  have h := lim116 k ks vs ex ey f g hr hl
  simp only [mobU, kobU, vobU] at h ⊢
  have hf : fns 116 = some fn116 := rfl
  unfold callV
  simp only [hf]
  unfold callR
  simp only [fn116, List.cons_append, List.nil_append, List.append_nil, frzArgs, frz, frzAll, frzG, frzGAll, ms2, msUp, List.tail]
  simp only [V.allIds, V.ids, List.append_nil, List.nil_append, collect, List.map_nil, List.contains_nil, Bool.false_eq_true, if_false, Rd.run, Heap.at?, Ob.ids, rowsIds, List.map_cons, List.cons_append, List.contains_cons, Nat.reduceBEq, Bool.or_self, Bool.or_false, Bool.false_or, Bool.or_true, Bool.true_or, if_true]
  unfold withR
  simp only [List.map_cons, List.map_nil, upd1, List.all_nil, List.all_cons, show 0 < n by omega, show 1 < n by omega, show 2 < n by omega, decide_true, Bool.and_self, if_true, V.reAll, V.re, idx, Nat.beq, cond_true, cond_false, Option.bind_some, Option.map_some, pullObs, Ob.re, reRows, Nat.reduceAdd, h, List.length_cons, List.length_nil, Nat.le_refl]
  unfold afterR
  simp only [V.re, V.reAll, pushObs, back, nth, Ob.re, reRows, Option.bind_some, Option.map_some, List.isEmpty_cons, Bool.false_and, Bool.false_eq_true, if_false, Rd.run, List.append_nil, Nat.reduceAdd]
def valU (x : Int) : V := .int .u32 x
def zU : Int := 0
theorem lim159 (k : Int) (ks : List Int) (vs : List Int) (ex ey : List (List V)) (f g : Bool) (hr : risesI ks = true) (hl : ks.length < 1000000000000) (hv : vs.length = ks.length) : lim T fns 159 [.ptr 0 0 0, .int .u32 k] [mobU 1 2 ks.length, kobU ks ex f, vobU vs ey g] =
    some (.tup [valU (gtI zU k ks vs), .bool (hasI k ks)], [some (mobU 1 2 ks.length), some (kobU ks ex f), some (vobU vs ey g)]) := by
  refine fn_rule (fn := fn159) rfl rfl (by simp [fn159]) ?_
  unfold fn159
  simp only [Tryz.f159, Option.getD_some, argEnv, List.map_nil, List.length_nil]
  have hc := fun (n : Nat) (hn : 3 ≤ n) (rest : Heap) => call116 k ks vs ex ey f g hr hl n hn rest
  cases hb : hasI k ks with
  | true =>
    have hp : posI k ks < vs.length := by rw [hv]; exact hasI_lt hb
    have hx : vs[posI k ks]? = some vs[posI k ks] := List.getElem?_eq_getElem hp
    have hy : (vs.map (Cd.int .u32).enc ++ ey)[posI k ks]? = some ((Cd.int .u32).enc vs[posI k ks]) := by
      rw [List.getElem?_append_left (by simpa using hp), List.getElem?_map, hx]
      rfl
    have hp2 : posI k ks < ks.length := by omega
    rw [hb] at hc
    simp only [mobU, kobU, vobU] at hc ⊢
    have hy : (vs.map (Cd.int .u32).enc ++ ey)[posI k ks]? = some [V.int .u32 vs[posI k ks]] := hy
    simp only [go_sem, T_4, T_24, T_54, T_130, T_200, hc, eqPU, nilCheckR, extractR, hx, hy, hp, hp2, hv, valU, gtI, hb, Option.getD_some]
    show _ = _
    kernel_rfl
  | false =>
    rw [hb] at hc
    simp only [mobU, kobU, vobU] at hc ⊢
    simp only [go_sem, T_4, T_24, T_54, T_130, T_200, hc, eqPU, nilCheckR, extractR, valU, gtI, hb, zU]
    show _ = _
    kernel_rfl
theorem call159 (k : Int) (ks : List Int) (vs : List Int) (ex ey : List (List V)) (f g : Bool) (hr : risesI ks = true) (hl : ks.length < 1000000000000) (hv : vs.length = ks.length) (n : Nat) (hn : 3 ≤ n) (rest : Heap) : (callV (LX T fns) n (.clo 159 []) [.ptr 0 0 0, .int .u32 k]).run (some (mobU 1 2 ks.length) :: some (kobU ks ex f) :: some (vobU vs ey g) :: rest) [] =
    some ((.tup [valU (gtI zU k ks vs), .bool (hasI k ks)], [(0, some (mobU 1 2 ks.length)), (1, some (kobU ks ex f)), (2, some (vobU vs ey g))]), [2, 1, 0]) := by
  have h := lim159 k ks vs ex ey f g hr hl hv
  simp only [mobU, kobU, vobU, valU] at h ⊢
  have hf : fns 159 = some fn159 := rfl
  unfold callV
  simp only [hf]
  unfold callR
  simp only [fn159, List.cons_append, List.nil_append, List.append_nil, frzArgs, frz, frzAll, frzG, frzGAll, ms2, msUp, List.tail]
  simp only [V.allIds, V.ids, List.append_nil, List.nil_append, collect, List.map_nil, List.contains_nil, Bool.false_eq_true, if_false, Rd.run, Heap.at?, Ob.ids, rowsIds, List.map_cons, List.cons_append, List.contains_cons, Nat.reduceBEq, Bool.or_self, Bool.or_false, Bool.false_or, Bool.or_true, Bool.true_or, if_true]
  unfold withR
  simp only [List.map_cons, List.map_nil, upd1, List.all_nil, List.all_cons, show 0 < n by omega, show 1 < n by omega, show 2 < n by omega, decide_true, Bool.and_self, if_true, V.reAll, V.re, idx, Nat.beq, cond_true, cond_false, Option.bind_some, Option.map_some, pullObs, Ob.re, reRows, Nat.reduceAdd, h, List.length_cons, List.length_nil, Nat.le_refl]
  unfold afterR
  simp only [V.re, V.reAll, pushObs, back, nth, Ob.re, reRows, Option.bind_some, Option.map_some, List.isEmpty_cons, Bool.false_and, Bool.false_eq_true, if_false, Rd.run, List.append_nil, Nat.reduceAdd]
theorem cloneU_at {n p l : Nat} {c : Option Nat} {rows : List (List V)} {f : Bool} {h : Heap} {tr : List Nat} (hat : h.at? p = some (.buf 1 rows f true)) (hl : l ≤ rows.length) (ha : ((rows.take l).all fun r => r.length == 1) = true) (hb : l < 1000000000000) :
    (callV (LX T fns) n (.clo 72 []) [.ms p 1 0 l c]).run h tr = some ((.ms n 1 0 l none, [(n, some (.buf 1 (rows.take l) false true)), (p, some (.buf 1 rows true true))]), p :: tr) := by
  have hlen : (rows.take l).length = l := by simp; omega
  refine callV_newf (fn := fn72) rfl (args' := [.fz (rows.take l)]) (u := [(p, some (.buf 1 rows true true))]) (us := [(n, some (.buf 1 (rows.take l) false true))]) (r := .ms 0 1 0 l none) (H := [some (.buf 1 (rows.take l) false true)]) (fun K => ?_) rfl ?_ ?_ ?_ rfl
  · simp only [fn72, List.append_nil, frzArgs, frz, frzAll, frzG, frzGAll, ms2, msUp, frzG, frzGAll, ms2, msUp, Rd.run, hat, List.tail]
    rw [if_pos ⟨trivial, by omega⟩]
    simp only [List.drop_zero, List.nil_append, List.append_nil]
  · refine lim_clone T fns (fn := fn72) rfl (st := 1) (bytes := 4) rfl ?_
    simp only [cloneFn]
    rw [if_pos ⟨by decide, ha, by omega⟩, hlen]
  · simp [V.re, back, nth]
  · simp [pushObs, back, nth, Ob.re]
theorem clipU_at {n p l : Nat} {rows : List (List V)} {f : Bool} {h : Heap} {tr : List Nat} (hat : h.at? p = some (.buf 1 rows f true)) (hpn : p < n) (hb : l < 1000000000000) :
    (callV (LX T fns) n (.clo 118 []) [.ms p 1 0 l none]).run h tr = some ((.ms p 1 0 l (some l), [(p, some (.buf 1 rows f true))]), p :: tr) := by
  have := callV_one (T := T) (fns := fns) (g := 118) (fn := fn118) rfl (args := [.ms p 1 0 l none]) (caps := []) (args' := [.ms p 1 0 l none]) (args2 := [.ms 0 1 0 l none]) (u := []) (us := [(p, some (.buf 1 rows f true))]) (r := .ms 0 1 0 l (some l)) (r' := .ms p 1 0 l (some l)) (o := .buf 1 rows f true) (H := [some (.buf 1 rows f true)]) (h := h) (tr := tr) (tr' := tr) (n := n) (p := p)
    (fun K => by simp only [fn118, List.append_nil, frzArgs, List.tail]) hat rfl rfl rfl hpn (by simp [V.reAll, V.re, idx]) rfl (lim118 l rows f hb) (Nat.le_refl _) (by simp [V.re, back, nth]) (by simp [pushObs, back, nth, Ob.re])
  simpa using this
theorem insU_at {n p q l i : Nat} {kr : List V} {rows : List (List V)} {f g : Bool} {h : Heap} {tr : List Nat} (hat : h.at? p = some (.buf 1 rows f true)) (hat2 : h.at? q = some (.buf 1 [kr] g true)) (hpq : q ≠ p) (hpn : p < n) (hk : kr.length = 1) (hl : rows.length = l) (hb : l < 1000000000000) (hi : i ≤ l) :
    (callV (LX T fns) n (.clo 117 []) [.ms p 1 0 l (some l), .int .i64 i, .ms q 1 0 1 none]).run h tr = some ((.ms n 1 0 (l + 1) none, [(p, some (.buf 1 rows f true)), (n, some (.buf 1 (rows.take i ++ [kr] ++ rows.drop i) false true)), (q, some (.buf 1 [kr] true true))]), p :: q :: tr) := by
  have := callV_one (T := T) (fns := fns) (g := 117) (fn := fn117) rfl (args := [.ms p 1 0 l (some l), .int .i64 i, .ms q 1 0 1 none]) (caps := []) (args' := [.ms p 1 0 l (some l), .int .i64 i, .fz [kr]]) (args2 := [.ms 0 1 0 l (some l), .int .i64 i, .fz [kr]]) (u := [(q, some (.buf 1 [kr] true true))]) (us := [(p, some (.buf 1 rows f true)), (n, some (.buf 1 (rows.take i ++ [kr] ++ rows.drop i) false true))])
    (r := .ms 1 1 0 (l + 1) none) (r' := .ms n 1 0 (l + 1) none) (o := .buf 1 rows f true) (H := [some (.buf 1 rows f true), some (.buf 1 (rows.take i ++ [kr] ++ rows.drop i) false true)]) (h := h) (tr := tr) (tr' := q :: tr) (n := n) (p := p)
    (fun K => by
      simp only [fn117, List.append_nil, frzArgs, frz, frzAll, frzG, frzGAll, ms2, msUp, frzG, frzGAll, ms2, msUp, Rd.run, hat2, List.tail]
      rw [if_pos ⟨trivial, by simp⟩]
      simp) hat (by simp [V.allIds, V.ids]) rfl (by simp [hpq]) hpn (by simp [V.reAll, V.re, idx]) rfl (lim117 l i kr rows f hk hl hb hi) (by simp) (by simp [V.re, back, nth]) (by simp [pushObs, back, nth, Ob.re])
  simpa using this
/-! As simp sees them: the objects first. -/
open Classical in
noncomputable def clU (n p l : Nat) (c : Option Nat) (h : Heap) (tr : List Nat) (x : Option Ob) : Option ((V × Upd) × List Nat) := match x with
  | some (.buf st rows _ true) => if st = 1 ∧ l ≤ rows.length ∧ ((rows.take l).all fun r => r.length == 1) = true ∧ l < 1000000000000 then some ((.ms n 1 0 l none, [(n, some (.buf 1 (rows.take l) false true)), (p, some (.buf 1 rows true true))]), p :: tr) else (callV (LX T fns) n (.clo 72 []) [.ms p 1 0 l c]).run h tr
  | _ => (callV (LX T fns) n (.clo 72 []) [.ms p 1 0 l c]).run h tr
theorem cloneU_look {n p l : Nat} {c : Option Nat} {h : Heap} {tr : List Nat} : (callV (LX T fns) n (.clo 72 []) [.ms p 1 0 l c]).run h tr = clU n p l c h tr (h.at? p) := by
  unfold clU
  split
  · rename_i st rows f hx
    split
    · rename_i hc
      obtain ⟨rfl, h1, h2, h3⟩ := hc
      exact cloneU_at hx h1 h2 h3
    · rfl
  · rfl
theorem cloneU_got {n p l : Nat} {c : Option Nat} {h : Heap} {tr : List Nat} {rows ex : List (List V)} {f : Bool} (h1 : rows.length = l) (h2 : (rows.all fun r => r.length == 1) = true) (h3 : l < 1000000000000) :
    clU n p l c h tr (some (.buf 1 (rows ++ ex) f true)) = some ((.ms n 1 0 l none, [(n, some (.buf 1 rows false true)), (p, some (.buf 1 (rows ++ ex) true true))]), p :: tr) := by
  have e : (rows ++ ex).take l = rows := List.take_left' h1
  unfold clU
  simp only
  rw [if_pos ⟨trivial, by simp; omega, by rw [e]; exact h2, h3⟩, e]
open Classical in
noncomputable def cpU (n p l : Nat) (h : Heap) (tr : List Nat) (x : Option Ob) : Option ((V × Upd) × List Nat) := match x with
  | some (.buf st rows f true) => if st = 1 ∧ p < n ∧ l < 1000000000000 then some ((.ms p 1 0 l (some l), [(p, some (.buf 1 rows f true))]), p :: tr) else (callV (LX T fns) n (.clo 118 []) [.ms p 1 0 l none]).run h tr
  | _ => (callV (LX T fns) n (.clo 118 []) [.ms p 1 0 l none]).run h tr
theorem clipU_look {n p l : Nat} {h : Heap} {tr : List Nat} : (callV (LX T fns) n (.clo 118 []) [.ms p 1 0 l none]).run h tr = cpU n p l h tr (h.at? p) := by
  unfold cpU
  split
  · rename_i st rows f hx
    split
    · rename_i hc
      obtain ⟨rfl, h1, h2⟩ := hc
      exact clipU_at hx h1 h2
    · rfl
  · rfl
theorem clipU_got {n p l : Nat} {h : Heap} {tr : List Nat} {rows : List (List V)} {f : Bool} (h1 : p < n) (h3 : l < 1000000000000) :
    cpU n p l h tr (some (.buf 1 rows f true)) = some ((.ms p 1 0 l (some l), [(p, some (.buf 1 rows f true))]), p :: tr) := by
  unfold cpU
  simp only
  rw [if_pos ⟨trivial, h1, h3⟩]
open Classical in
noncomputable def inU (n p q l i : Nat) (h : Heap) (tr : List Nat) (x y : Option Ob) : Option ((V × Upd) × List Nat) := match x, y with
  | some (.buf st rows f true), some (.buf st2 [kr] g true) => if st = 1 ∧ st2 = 1 ∧ q ≠ p ∧ p < n ∧ kr.length = 1 ∧ rows.length = l ∧ l < 1000000000000 ∧ i ≤ l then
      some ((.ms n 1 0 (l + 1) none, [(p, some (.buf 1 rows f true)), (n, some (.buf 1 (rows.take i ++ [kr] ++ rows.drop i) false true)), (q, some (.buf 1 [kr] true true))]), p :: q :: tr) else (callV (LX T fns) n (.clo 117 []) [.ms p 1 0 l (some l), .int .i64 i, .ms q 1 0 1 none]).run h tr
  | _, _ => (callV (LX T fns) n (.clo 117 []) [.ms p 1 0 l (some l), .int .i64 i, .ms q 1 0 1 none]).run h tr
theorem insU_look {n p q l i : Nat} {h : Heap} {tr : List Nat} : (callV (LX T fns) n (.clo 117 []) [.ms p 1 0 l (some l), .int .i64 i, .ms q 1 0 1 none]).run h tr = inU n p q l i h tr (h.at? p) (h.at? q) := by
  unfold inU
  split
  · rename_i st rows f st2 kr g hx hy
    split
    · rename_i hc
      obtain ⟨rfl, rfl, h1, h2, h3, h4, h5, h6⟩ := hc
      exact insU_at hx hy h1 h2 h3 h4 h5 h6
    · rfl
  · rfl
theorem insU_got {n p q l i : Nat} {h : Heap} {tr : List Nat} {rows : List (List V)} {kr : List V} {f g : Bool} (h1 : q ≠ p) (h2 : p < n) (h3 : kr.length = 1) (h4 : rows.length = l) (h5 : l < 1000000000000) (h6 : i ≤ l) :
    inU n p q l i h tr (some (.buf 1 rows f true)) (some (.buf 1 [kr] g true)) = some ((.ms n 1 0 (l + 1) none, [(p, some (.buf 1 rows f true)), (n, some (.buf 1 (insAt i kr rows) false true)), (q, some (.buf 1 [kr] true true))]), p :: q :: tr) := by
  unfold inU
  exact if_pos ⟨rfl, rfl, h1, h2, h3, h4, h5, h6⟩
attribute [go_sem] cloneU_look cloneU_got clipU_look clipU_got insU_look insU_got
theorem insAt_u32 {i : Nat} {x : Int} {l : List Int} : insAt i [V.int .u32 x] (l.map (Cd.int .u32).enc) = (insAt i x l).map (Cd.int .u32).enc := insAt_map (f := (Cd.int .u32).enc)
theorem lim69_new (k : Int) (c : Int) (ks : List Int) (vs : List Int) (ex ey : List (List V)) (f g : Bool) (hr : risesI ks = true) (hl : ks.length < 1000000000) (hv : vs.length = ks.length) (hb : hasI k ks = false) : lim T fns 69 [.ptr 0 0 0, .int .u32 k, valU c] [mobU 1 2 ks.length, kobU ks ex f, vobU vs ey g] =
    some (.bool true, [some (mobU 3 4 (ks.length + 1)), some (kobU ks ex true), some (vobU vs ey true), some (kobU (insAt (posI k ks) k ks) [] false), some (vobU (insAt (posI k ks) c vs) [] false)]) := by
  refine fn_rule (fn := fn69) rfl rfl (by simp [fn69]) ?_
  unfold fn69
  simp only [Tryz.f69, Option.getD_some, argEnv, List.map_nil, List.length_nil]
  have hc := fun (n : Nat) (hn : 3 ≤ n) (rest : Heap) => call116 k ks vs ex ey f g hr (by omega) n hn rest
  have hp := posI_le k ks
  have hl12 : ks.length < 1000000000000 := by omega
  rw [hb] at hc
  simp only [mobU, kobU, vobU, List.append_nil] at hc ⊢
  simp only [go_sem, T_1, T_3, T_24, T_54, T_130, T_200, hc, eqPU, nilCheckR, extractR, hv, hp, hl12, valU, all_int, insAt_u32, buildSliceR, fillR, List.replicate, List.set_cons_zero, ne_eq, Nat.reduceEqDiff]
  repeat (refine ⟨by kernel_rfl, ?_⟩)
  show _ = _
  kernel_rfl
theorem lim69_old (k : Int) (c : Int) (ks : List Int) (vs : List Int) (ex ey : List (List V)) (f g : Bool) (hr : risesI ks = true) (hl : ks.length < 1000000000) (hv : vs.length = ks.length) (hb : hasI k ks = true) : lim T fns 69 [.ptr 0 0 0, .int .u32 k, valU c] [mobU 1 2 ks.length, kobU ks ex f, vobU vs ey g] =
    some (.bool false, [some (mobU 1 3 ks.length), some (kobU ks ex f), some (vobU vs ey true), some (vobU (vs.set (posI k ks) c) [] false)]) := by
  refine fn_rule (fn := fn69) rfl rfl (by simp [fn69]) ?_
  unfold fn69
  simp only [Tryz.f69, Option.getD_some, argEnv, List.map_nil, List.length_nil]
  have hc := fun (n : Nat) (hn : 3 ≤ n) (rest : Heap) => call116 k ks vs ex ey f g hr (by omega) n hn rest
  have hp2 := hasI_lt hb
  have hp : posI k ks < vs.length := by omega
  have hl12 : ks.length < 1000000000000 := by omega
  have hx : vs[posI k ks]? = some vs[posI k ks] := List.getElem?_eq_getElem hp
  rw [hb] at hc
  simp only [mobU, kobU, vobU, List.append_nil] at hc ⊢
  simp only [go_sem, T_1, T_3, T_24, T_54, T_130, T_200, hc, eqPU, nilCheckR, extractR, hv, hp, hp2, hl12, hx, valU, all_int, ne_eq, Nat.reduceEqDiff]
  repeat (refine ⟨by kernel_rfl, ?_⟩)
  rw [show [V.int .u32 c] = (Cd.int .u32).enc c from rfl, ← List.map_set]
  show _ = _
  kernel_rfl
theorem call69_new (k : Int) (c : Int) (ks : List Int) (vs : List Int) (ex ey : List (List V)) (f g : Bool) (hr : risesI ks = true) (hl : ks.length < 1000000000) (hv : vs.length = ks.length) (hb : hasI k ks = false) (n : Nat) (hn : 3 ≤ n) (rest : Heap) :
    (callV (LX T fns) n (.clo 69 []) [.ptr 0 0 0, .int .u32 k, valU c]).run (some (mobU 1 2 ks.length) :: some (kobU ks ex f) :: some (vobU vs ey g) :: rest) [] =
    some ((.bool true, [(0, some (mobU n (n + 1) (ks.length + 1))), (1, some (kobU ks ex true)), (2, some (vobU vs ey true)), (n, some (kobU (insAt (posI k ks) k ks) [] false)), (n + 1, some (vobU (insAt (posI k ks) c vs) [] false))]), [2, 1, 0]) := by
  have h := lim69_new k c ks vs ex ey f g hr hl hv hb
  simp only [mobU, kobU, vobU, valU, List.append_nil] at h ⊢
  have hf : fns 69 = some fn69 := rfl
  unfold callV
  simp only [hf]
  unfold callR
  simp only [fn69, List.cons_append, List.nil_append, List.append_nil, frzArgs, frz, frzAll, frzG, frzGAll, ms2, msUp, List.tail]
  simp only [V.allIds, V.ids, List.append_nil, List.nil_append, collect, List.map_nil, List.contains_nil, Bool.false_eq_true, if_false, Rd.run, Heap.at?, Ob.ids, rowsIds, List.map_cons, List.cons_append, List.contains_cons, Nat.reduceBEq, Bool.or_self, Bool.or_false, Bool.false_or, Bool.or_true, Bool.true_or, if_true]
  unfold withR
  simp only [List.map_cons, List.map_nil, upd1, List.all_nil, List.all_cons, show 0 < n by omega, show 1 < n by omega, show 2 < n by omega, decide_true, Bool.and_self, if_true, V.reAll, V.re, idx, Nat.beq, cond_true, cond_false, Option.bind_some, Option.map_some, pullObs, Ob.re, reRows, Nat.reduceAdd, h, List.length_cons, List.length_nil, Nat.le_refl]
  unfold afterR
  simp only [V.re, V.reAll, pushObs, back, nth, Ob.re, reRows, Option.bind_some, Option.map_some, List.isEmpty_cons, Bool.false_and, Bool.false_eq_true, if_false, Rd.run, List.append_nil, Nat.reduceAdd]
  simp only [List.length_cons, List.length_nil, Nat.zero_add, Nat.reduceAdd, Nat.reduceLT, Nat.reduceLeDiff, if_true, Option.map_some, Option.bind_some, Nat.reduceSub, Nat.sub_self, Nat.add_zero]
  show _ = _
  kernel_rfl
theorem call69_old (k : Int) (c : Int) (ks : List Int) (vs : List Int) (ex ey : List (List V)) (f g : Bool) (hr : risesI ks = true) (hl : ks.length < 1000000000) (hv : vs.length = ks.length) (hb : hasI k ks = true) (n : Nat) (hn : 3 ≤ n) (rest : Heap) :
    (callV (LX T fns) n (.clo 69 []) [.ptr 0 0 0, .int .u32 k, valU c]).run (some (mobU 1 2 ks.length) :: some (kobU ks ex f) :: some (vobU vs ey g) :: rest) [] =
    some ((.bool false, [(0, some (mobU 1 n ks.length)), (1, some (kobU ks ex f)), (2, some (vobU vs ey true)), (n, some (vobU (vs.set (posI k ks) c) [] false))]), [2, 1, 0]) := by
  have h := lim69_old k c ks vs ex ey f g hr hl hv hb
  simp only [mobU, kobU, vobU, valU, List.append_nil] at h ⊢
  have hf : fns 69 = some fn69 := rfl
  unfold callV
  simp only [hf]
  unfold callR
  simp only [fn69, List.cons_append, List.nil_append, List.append_nil, frzArgs, frz, frzAll, frzG, frzGAll, ms2, msUp, List.tail]
  simp only [V.allIds, V.ids, List.append_nil, List.nil_append, collect, List.map_nil, List.contains_nil, Bool.false_eq_true, if_false, Rd.run, Heap.at?, Ob.ids, rowsIds, List.map_cons, List.cons_append, List.contains_cons, Nat.reduceBEq, Bool.or_self, Bool.or_false, Bool.false_or, Bool.or_true, Bool.true_or, if_true]
  unfold withR
  simp only [List.map_cons, List.map_nil, upd1, List.all_nil, List.all_cons, show 0 < n by omega, show 1 < n by omega, show 2 < n by omega, decide_true, Bool.and_self, if_true, V.reAll, V.re, idx, Nat.beq, cond_true, cond_false, Option.bind_some, Option.map_some, pullObs, Ob.re, reRows, Nat.reduceAdd, h, List.length_cons, List.length_nil, Nat.le_refl]
  unfold afterR
  simp only [V.re, V.reAll, pushObs, back, nth, Ob.re, reRows, Option.bind_some, Option.map_some, List.isEmpty_cons, Bool.false_and, Bool.false_eq_true, if_false, Rd.run, List.append_nil, Nat.reduceAdd]
  simp only [List.length_cons, List.length_nil, Nat.zero_add, Nat.reduceAdd, Nat.reduceLT, Nat.reduceLeDiff, if_true, Option.map_some, Option.bind_some, Nat.reduceSub, Nat.sub_self, Nat.add_zero]
  show _ = _
  kernel_rfl
theorem lim115 : lim T fns 115 [] [] = some (.ptr 0 0 0, [some (.buf 2 [[.nils, .nils]] false true)]) := by
  refine fn_rule (fn := fn115) rfl rfl (by simp [fn115]) ?_
  unfold fn115
  simp only [Tryz.f115, Option.getD_some, argEnv, List.map_nil, List.length_nil]
  simp only [go_sem, T_24, T_54, T_200]
  show _ = _
  kernel_rfl
theorem call115 {n : Nat} {h : Heap} {tr : List Nat} : (callV (LX T fns) n (.clo 115 []) []).run h tr = some ((.ptr n 0 0, [(n, some (.buf 2 [[.nils, .nils]] false true))]), tr) :=
  callV_newf (fn := fn115) rfl (args' := []) (u := []) (us := [(n, some (.buf 2 [[.nils, .nils]] false true))]) (fun K => by simp only [fn115, List.append_nil, frzArgs]) rfl lim115 (by simp [V.re, back, nth]) (by simp [pushObs, back, nth, Ob.re]) rfl
theorem lim121 (ks : List Int) (vs : List Int) (ex ey : List (List V)) (f g : Bool) : lim T fns 121 [.ptr 0 0 0, .int .i64 0] [mobU 1 2 ks.length, kobU ks ex f, vobU vs ey g] =
    some (.clo 178 [.ptr 3 0 0, .ptr 4 0 0], [some (mobU 1 2 ks.length), some (kobU ks ex f), some (vobU vs ey g), some (.buf 1 [[.ptr 0 0 0]] false false), some (.buf 1 [[.int .i64 0]] false true)]) := by
  refine fn_rule (fn := fn121) rfl rfl (by simp [fn121]) ?_
  unfold fn121
  simp only [Tryz.f121, Option.getD_some, argEnv, List.map_nil, List.length_nil]
  simp only [mobU, kobU, vobU]
  simp only [go_sem, T_3, T_130]
  show _ = _
  kernel_rfl
theorem call121 (ks : List Int) (vs : List Int) (ex ey : List (List V)) (f g : Bool) (n : Nat) (hn : 3 ≤ n) (rest : Heap) :
    (callV (LX T fns) n (.clo 121 []) [.ptr 0 0 0, .int .i64 0]).run (some (mobU 1 2 ks.length) :: some (kobU ks ex f) :: some (vobU vs ey g) :: rest) [] =
    some ((.clo 178 [.ptr n 0 0, .ptr (n + 1) 0 0], [(0, some (mobU 1 2 ks.length)), (1, some (kobU ks ex f)), (2, some (vobU vs ey g)), (n, some (.buf 1 [[.ptr 0 0 0]] false false)), (n + 1, some (.buf 1 [[.int .i64 0]] false true))]), [2, 1, 0]) := by
  have h := lim121 ks vs ex ey f g
  simp only [mobU, kobU, vobU] at h ⊢
  have hf : fns 121 = some fn121 := rfl
  unfold callV
  simp only [hf]
  unfold callR
  simp only [fn121, List.cons_append, List.nil_append, List.append_nil, frzArgs, frz, frzAll, frzG, frzGAll, ms2, msUp, List.tail]
  simp only [V.allIds, V.ids, List.append_nil, List.nil_append, collect, List.map_nil, List.contains_nil, Bool.false_eq_true, if_false, Rd.run, Heap.at?, Ob.ids, rowsIds, List.map_cons, List.cons_append, List.contains_cons, Nat.reduceBEq, Bool.or_self, Bool.or_false, Bool.false_or, Bool.or_true, Bool.true_or, if_true]
  unfold withR
  simp only [List.map_cons, List.map_nil, upd1, List.all_nil, List.all_cons, show 0 < n by omega, show 1 < n by omega, show 2 < n by omega, decide_true, Bool.and_self, if_true, V.reAll, V.re, idx, Nat.beq, cond_true, cond_false, Option.bind_some, Option.map_some, pullObs, Ob.re, reRows, Nat.reduceAdd, h, List.length_cons, List.length_nil, Nat.le_refl]
  unfold afterR
  simp only [V.re, V.reAll, pushObs, back, nth, Ob.re, reRows, Option.bind_some, Option.map_some, List.isEmpty_cons, Bool.false_and, Bool.false_eq_true, if_false, Rd.run, List.append_nil, Nat.reduceAdd]
  simp only [List.length_cons, List.length_nil, Nat.zero_add, Nat.reduceAdd, Nat.reduceLT, Nat.reduceLeDiff, if_true, Option.map_some, Option.bind_some, Nat.reduceSub, Nat.sub_self, Nat.add_zero]
  show _ = _
  kernel_rfl
theorem lim73 (ks : List Int) (vs : List Int) (ex ey : List (List V)) (f g : Bool) : lim T fns 73 [.ptr 0 0 0] [mobU 1 2 ks.length, kobU ks ex f, vobU vs ey g] =
    some (.clo 178 [.ptr 3 0 0, .ptr 4 0 0], [some (mobU 1 2 ks.length), some (kobU ks ex f), some (vobU vs ey g), some (.buf 1 [[.ptr 0 0 0]] false false), some (.buf 1 [[.int .i64 0]] false true)]) := by
  refine fn_rule (fn := fn73) rfl rfl (by simp [fn73]) ?_
  unfold fn73
  simp only [Tryz.f73, Option.getD_some, argEnv, List.map_nil, List.length_nil]
  have hc := fun (n : Nat) (hn : 3 ≤ n) (rest : Heap) => call121 ks vs ex ey f g n hn rest
  simp only [mobU, kobU, vobU] at hc ⊢
  simp only [go_sem, T_3, T_130, hc]
  show _ = _
  kernel_rfl
theorem call73 (ks : List Int) (vs : List Int) (ex ey : List (List V)) (f g : Bool) (n : Nat) (hn : 3 ≤ n) (rest : Heap) :
    (callV (LX T fns) n (.clo 73 []) [.ptr 0 0 0]).run (some (mobU 1 2 ks.length) :: some (kobU ks ex f) :: some (vobU vs ey g) :: rest) [] =
    some ((.clo 178 [.ptr n 0 0, .ptr (n + 1) 0 0], [(0, some (mobU 1 2 ks.length)), (1, some (kobU ks ex f)), (2, some (vobU vs ey g)), (n, some (.buf 1 [[.ptr 0 0 0]] false false)), (n + 1, some (.buf 1 [[.int .i64 0]] false true))]), [2, 1, 0]) := by
  have h := lim73 ks vs ex ey f g
  simp only [mobU, kobU, vobU] at h ⊢
  have hf : fns 73 = some fn73 := rfl
  unfold callV
  simp only [hf]
  unfold callR
  simp only [fn73, List.cons_append, List.nil_append, List.append_nil, frzArgs, frz, frzAll, frzG, frzGAll, ms2, msUp, List.tail]
  simp only [V.allIds, V.ids, List.append_nil, List.nil_append, collect, List.map_nil, List.contains_nil, Bool.false_eq_true, if_false, Rd.run, Heap.at?, Ob.ids, rowsIds, List.map_cons, List.cons_append, List.contains_cons, Nat.reduceBEq, Bool.or_self, Bool.or_false, Bool.false_or, Bool.or_true, Bool.true_or, if_true]
  unfold withR
  simp only [List.map_cons, List.map_nil, upd1, List.all_nil, List.all_cons, show 0 < n by omega, show 1 < n by omega, show 2 < n by omega, decide_true, Bool.and_self, if_true, V.reAll, V.re, idx, Nat.beq, cond_true, cond_false, Option.bind_some, Option.map_some, pullObs, Ob.re, reRows, Nat.reduceAdd, h, List.length_cons, List.length_nil, Nat.le_refl]
  unfold afterR
  simp only [V.re, V.reAll, pushObs, back, nth, Ob.re, reRows, Option.bind_some, Option.map_some, List.isEmpty_cons, Bool.false_and, Bool.false_eq_true, if_false, Rd.run, List.append_nil, Nat.reduceAdd]
  simp only [List.length_cons, List.length_nil, Nat.zero_add, Nat.reduceAdd, Nat.reduceLT, Nat.reduceLeDiff, if_true, Option.map_some, Option.bind_some, Nat.reduceSub, Nat.sub_self, Nat.add_zero]
  show _ = _
  kernel_rfl
end Go.Proofs.YtoggbcckkjfkhaaGreat.R
/- Chapter 25's law DagWrong: a set of pending counts is loaded. -/
namespace Go.Proofs.YtoggbcckkjfkhaaGreat.R
open Go Go.Proofs
set_option linter.unusedSimpArgs false
set_option linter.unusedVariables false
set_option maxRecDepth 10000
set_option maxHeartbeats 4000000

theorem posI_all {k : Int} : ∀ {l : List Int}, (∀ x ∈ l, x < k) → posI k l = l.length
  | [], _ => rfl
  | x :: l, h => by
    rw [posI, if_pos (by simp only [ltI, decide_eq_true_eq]; exact h x (.head _)), posI_all fun y hy => h y (.tail _ hy)]
    rfl
theorem hasI_all {k : Int} {l : List Int} (h : ∀ x ∈ l, x < k) : hasI k l = false := by
  unfold hasI
  rw [posI_all h, List.getElem?_eq_none (Nat.le_refl _)]
theorem insAt_end {α : Type} (l : List α) (x : α) : insAt l.length x l = l ++ [x] := by simp [insAt]
theorem rises_pw : ∀ {l : List Int}, l.Pairwise (· < ·) → risesI l = true
  | [], _ => rfl
  | [_], _ => rfl
  | a :: b :: r, h => by
    rw [risesI, rises_pw (List.pairwise_cons.1 h).2, Bool.and_true]
    simp only [ltI, decide_eq_true_eq]
    exact (List.pairwise_cons.1 h).1 b (.head _)
theorem pw_snoc {l : List Int} {b : Int} (h : l.Pairwise (· < ·)) (hb : ∀ x ∈ l, x < b) : (l ++ [b]).Pairwise (· < ·) := by
  rw [List.pairwise_append]
  exact ⟨h, List.pairwise_singleton _ _, fun x hx y hy => by rw [List.mem_singleton] at hy; rw [hy]; exact hb x hx⟩
theorem put_1 (k : Int) (c : Int) (ks : List Int) (vs : List Int) (hr : ks.Pairwise (· < ·)) (hk : ∀ x ∈ ks, x < k) (hl : ks.length < 1000000000) (hv : vs.length = ks.length) (n : Nat) (hn : 4 ≤ n) (o0 : Option Ob) (rest : Heap) :
    (callV (LX T fns) n (.clo 69 []) [.ptr 1 0 0, .int .u32 k, .int .u32 c]).run (o0 :: some (mobU 2 3 ks.length) :: some (kobU ks [] false) :: some (vobU vs [] false) :: rest) [] =
    some ((.bool true, [(1, some (mobU n (n + 1) (ks.length + 1))), (2, some (kobU ks [] true)), (3, some (vobU vs [] true)), (n, some (kobU (ks ++ [k]) [] false)), (n + 1, some (vobU (vs ++ [c]) [] false))]), [3, 2, 1]) := by
  have h := lim69_new k c ks vs [] [] false false (rises_pw hr) hl hv (hasI_all hk)
  rw [posI_all hk, insAt_end, ← hv, insAt_end, hv] at h
  simp only [mobU, kobU, vobU, valU, List.append_nil] at h ⊢
  have hf : fns 69 = some fn69 := rfl
  unfold callV
  simp only [hf]
  unfold callR
  simp only [fn69, List.cons_append, List.nil_append, List.append_nil, frzArgs, frz, frzAll, frzG, frzGAll, ms2, msUp, List.tail]
  simp only [V.allIds, V.ids, List.append_nil, List.nil_append, collect, List.map_nil, List.contains_nil, Bool.false_eq_true, if_false, Rd.run, Heap.at?, Ob.ids, rowsIds, List.map_cons, List.cons_append, List.contains_cons, Nat.reduceBEq, Bool.or_self, Bool.or_false, Bool.false_or, Bool.or_true, Bool.true_or, if_true]
  unfold withR
  simp only [List.map_cons, List.map_nil, upd1, List.all_nil, List.all_cons, show 1 < n by omega, show 2 < n by omega, show 3 < n by omega, decide_true, Bool.and_self, if_true, V.reAll, V.re, idx, Nat.beq, cond_true, cond_false, Option.bind_some, Option.map_some, pullObs, Ob.re, reRows, Nat.reduceAdd, h, List.length_cons, List.length_nil, Nat.le_refl]
  unfold afterR
  simp only [V.re, V.reAll, pushObs, back, nth, Ob.re, reRows, Option.bind_some, Option.map_some, List.isEmpty_cons, Bool.false_and, Bool.false_eq_true, if_false, Rd.run, List.append_nil, Nat.reduceAdd]
  simp only [List.length_cons, List.length_nil, Nat.zero_add, Nat.reduceAdd, Nat.reduceLT, Nat.reduceLeDiff, if_true, Option.map_some, Option.bind_some, Nat.reduceSub, Nat.sub_self, Nat.add_zero]
  show _ = _
  kernel_rfl
def setO (j : Nat) : Ob := .buf 1 [[.ptr j 0 0]] false false
theorem lim68 : lim T fns 68 [] [] = some (.ptr 0 0 0, [some (setO 1), some (.buf 2 [[.nils, .nils]] false true)]) := acall_lim (R := 3) (d := 4) (by kernel_rfl)
theorem call68 (n : Nat) : callV (LX T fns) n (.clo 68 []) [] = .pure (.ptr n 0 0, [(n, some (setO (n + 1))), (n + 1, some (.buf 2 [[.nils, .nils]] false true))]) := callV_new (fn := fn68) rfl rfl lim68 rfl rfl rfl
def ksR (l : List S96) (i : Nat) : List Int := (l.take i).map (·.f0)
def vsR (l : List S96) (i : Nat) : List Int := (l.take i).map (·.f1)
theorem ksR_succ {l : List S96} {i : Nat} (h : i < l.length) : ksR l (i + 1) = ksR l i ++ [l[i].f0] := by
  unfold ksR; rw [List.take_succ_eq_append_getElem h, List.map_append]; rfl
theorem vsR_succ {l : List S96} {i : Nat} (h : i < l.length) : vsR l (i + 1) = vsR l i ++ [l[i].f1] := by
  unfold vsR; rw [List.take_succ_eq_append_getElem h, List.map_append]; rfl
theorem ksR_len {l : List S96} {i : Nat} (h : i ≤ l.length) : (ksR l i).length = i := by simp [ksR]; omega
theorem vsR_len {l : List S96} {i : Nat} (h : i ≤ l.length) : (vsR l i).length = i := by simp [vsR]; omega
theorem below_last {l : List S96} {i : Nat} (h : i < l.length) (hp : (ksR l (i + 1)).Pairwise (· < ·)) {k : Int} (hk : l[i].f0 < k) : ∀ x ∈ ksR l (i + 1), x < k := by
  rw [ksR_succ h] at hp ⊢
  rw [List.pairwise_append] at hp
  intro x hx
  rcases List.mem_append.1 hx with hx | hx
  · have := hp.2.2 x hx l[i].f0 (by simp); omega
  · rw [List.mem_singleton] at hx; omega
def pendP (l : List S96) : V × Heap := if rfs none l = true then (.tup [.ptr 0 0 0, .int .i64 0], [some (setO 1), some (mobU 2 3 l.length), some (kobU (ksR l l.length) [] false), some (vobU (vsR l l.length) [] false)]) else (.tup [.nilp, .int .i64 1], [])
theorem pend_bad {l : List S96} (h : false = rfs none l) : pendP l = (.tup [.nilp, .int .i64 1], []) := by unfold pendP; rw [← h]; rfl
theorem lim30 (l : List S96) (hl : l.length < 1000000) (hw : ∀ r ∈ l, 0 ≤ r.f1) : lim T fns 30 [.fz (l.map k96.enc)] [] =
    some (pendP l) := by
  have hc := fun n => call68 n
  have hput := fun k c ks vs hr hk hl hv n hn o0 rest => put_1 k c ks vs hr hk hl hv n hn o0 rest
  refine fn_rule (fn := fn30) rfl rfl (by simp [fn30]) ?_
  unfold fn30
  simp only [Tryz.f30, Option.getD_some, argEnv, List.map_nil, List.length_nil]
  simp only [setO, mobU, kobU, vobU, List.append_nil] at hc hput ⊢
  simp only [go_sem, T_3, T_25, T_54, T_96, T_130, T_132, hc, Nat.zero_add]
  refine loop_rule (ι := Nat) (S := fun i => ⟨[(0, .fz (l.map k96.enc)), (4, .ptr 0 0 0), (8, .fz (l.map k96.enc)), (9, .int .i64 l.length), (10, .int .i64 i)], [some (.buf 1 [[.ptr 1 0 0]] false false), some (.buf 2 [[.ms 2 1 0 i none, .ms 3 1 0 i none]] false false), some (.buf 1 ((ksR l i).map (Cd.int .u32).enc) false true), some (.buf 1 ((vsR l i).map (Cd.int .u32).enc) false true)]⟩) (m := fun i => l.length + 1 - i)
    (I := fun i => i ≤ l.length ∧ (ksR l i).Pairwise (· < ·) ∧ rfs (prR l i) (l.drop i) = rfs none l) ?_ 0 _ ⟨by omega, by simp [ksR], rfl⟩ rfl
  intro i ⟨hi, hpw, hg⟩
  by_cases hlt : i < l.length
  · have x0 : l[i]? = some l[i] := List.getElem?_eq_getElem hlt
    have hlt' : ((i : Int) < (l.length : Int)) := by omega
    rw [List.drop_eq_getElem_cons hlt, rfs] at hg
    have hw0 := hw l[i] (List.getElem_mem _)
    have kl := ksR_len hi
    have vl := vsR_len hi
    by_cases g1 : l[i].f1 = 0
    · have f1 : (l[i].f1 == 0) = true := by simp [g1]
      have hz : decide (1 ≤ l[i].f1) = false := by simp; omega
      rw [hz, Bool.false_and, Bool.false_and] at hg
      rw [pend_bad hg]
      simp only [go_sem, T_3, T_25, T_54, T_96, T_130, T_132, hlt, hlt', x0, all96, k96_enc, f1]
      show _ = _
      kernel_rfl
    · have f1 : (l[i].f1 == 0) = false := by simp [g1]
      have hz : decide (1 ≤ l[i].f1) = true := by simp; omega
      rw [hz, Bool.true_and] at hg
      cases i with
      | zero =>
        have f3 : ((((0 : Nat) : Int)) > 0) = False := by simp
        have hp := hput l[0].f0 l[0].f1 (ksR l 0) (vsR l 0) hpw (by simp [ksR]) (by omega) (by omega)
        rw [kl, ← ksR_succ hlt, ← vsR_succ hlt] at hp
        simp only [go_sem, T_3, T_25, T_54, T_96, T_130, T_132, hlt, hlt', x0, all96, k96_enc, f1, f3, nilCheckR, hp, wrap_i64s (show 0 < 1000000000000000000 by omega)]
        exact ⟨1, ⟨by omega, by rw [ksR_succ hlt]; exact pw_snoc hpw (by simp [ksR]), by simpa [prR, x0] using hg⟩, by simp only; omega, rfl⟩
      | succ i =>
        have f3 : ((((i + 1 : Nat) : Int)) > 0) = True := eq_true (by omega)
        have hi2 : i < l.length := by omega
        have x1 : l[i]? = some l[i] := List.getElem?_eq_getElem hi2
        have w1 : IntKind.i64.wrap (((i + 1 : Nat) : Int) - 1) = (i : Int) := by
          rw [show ((i + 1 : Nat) : Int) - 1 = (i : Int) by omega, IntKind.wrap_i64]; omega
        simp only [prR, x1, Option.map_some, Option.all_some] at hg
        by_cases hq : l[i + 1].f0 ≤ l[i].f0
        · have q1 : (l[i + 1].f0 ≤ l[i].f0) = True := eq_true hq
          have hz2 : decide (l[i].f0 < l[i + 1].f0) = false := by simp; omega
          rw [hz2, Bool.false_and] at hg
          rw [pend_bad hg]
          simp only [go_sem, T_3, T_25, T_54, T_96, T_130, T_132, hlt, hlt', hi2, x0, x1, w1, all96, k96_enc, f1, f3, q1]
          show _ = _
          kernel_rfl
        · have q1 : (l[i + 1].f0 ≤ l[i].f0) = False := eq_false hq
          have hz2 : decide (l[i].f0 < l[i + 1].f0) = true := by simp; omega
          rw [hz2, Bool.true_and] at hg
          have hk := below_last hi2 hpw (k := l[i + 1].f0) (by omega)
          have hp := hput l[i + 1].f0 l[i + 1].f1 (ksR l (i + 1)) (vsR l (i + 1)) hpw hk (by omega) (by omega)
          rw [kl, ← ksR_succ hlt, ← vsR_succ hlt] at hp
          simp only [go_sem, T_3, T_25, T_54, T_96, T_130, T_132, hlt, hlt', hi2, x0, x1, w1, all96, k96_enc, f1, f3, q1, nilCheckR, hp, wrap_i64s (show i + 1 < 1000000000000000000 by omega)]
          exact ⟨i + 1 + 1, ⟨by omega, by rw [ksR_succ hlt]; exact pw_snoc hpw hk, by simpa [prR, x0] using hg⟩, by simp only; omega, rfl⟩
  · have : i = l.length := by omega
    subst this
    rw [List.drop_eq_nil_of_le (by omega), rfs] at hg
    have e : pendP l = (.tup [.ptr 0 0 0, .int .i64 0], [some (setO 1), some (mobU 2 3 l.length), some (kobU (ksR l l.length) [] false), some (vobU (vsR l l.length) [] false)]) := by unfold pendP; rw [← hg]; rfl
    rw [e]
    simp only [setO, mobU, kobU, vobU, List.append_nil]
    simp only [go_sem, T_3, T_25, T_54, T_96, T_130, T_132, hlt]
    show _ = _
    kernel_rfl
end Go.Proofs.YtoggbcckkjfkhaaGreat.R
/- Chapter 31's laws: slices.Clip and slices.Insert of texts. -/
namespace Go.Proofs.YtoggbcckkjfkhaaGreat.R.Vol
open Go Go.Proofs
set_option linter.unusedSimpArgs false
set_option linter.unusedVariables false
set_option maxRecDepth 10000
set_option maxHeartbeats 2000000

attribute [go_sem] sliceR List.length_map cutS optNat Option.map_none Option.isSome_none Option.isNone_none Option.isNone_some Bool.and_true Bool.false_and Bool.and_false List.map_cons List.map_nil Nat.sub_zero Nat.zero_add Nat.add_zero Nat.sub_self capB Int.toNat_natCast
theorem one_cast : ((1 : Nat) : Int) = 1 := rfl
theorem wrap_add1 {n : Nat} (h : n < 1000000000000000000) : IntKind.i64.wrap ((n : Int) + ((1 : Nat) : Int)) = ((n + 1 : Nat) : Int) := wrap_i64s h
theorem wrap_sub {a b : Nat} (h : a < 1000000000000000000) (hb : b ≤ a) : IntKind.i64.wrap ((a : Int) - (b : Int)) = ((a - b : Nat) : Int) := by
  rw [wrap_i64 (by omega) (by omega)]
  omega
theorem cast_eq0 {n : Nat} : (((n : Nat) : Int) == ((0 : Nat) : Int)) = decide (n = 0) := by
  rw [Bool.eq_iff_iff]
  simp
theorem cast_beq {a b : Nat} : (((a : Nat) : Int) == ((b : Nat) : Int)) = decide (a = b) := by
  rw [Bool.eq_iff_iff]
  simp only [beq_iff_eq, decide_eq_true_eq]
  omega
theorem cast_lt {a b : Nat} : ((a : Int) < (b : Int)) = (a < b) := by simp
theorem append_grow {ti : TI} {n i st l c : Nat} {new : List (List V)} {np : Bool} {h : Heap} {tr : List Nat} {st' : Nat} {rows : List (List V)} {f p : Bool} (hat : h.at? i = some (.buf st' rows f p)) (h0 : new.length ≠ 0) (h1 : st = ti.size) (h2 : st' = ti.size) (h3 : l ≤ rows.length) (h4 : (l + new.length) * ti.bytes ≤ 140737488355328) (h5 : l + new.length ≤ 140737488355328) (h6 : c < l + new.length) :
    (appendR ti n (.ms i st 0 l (some c)) new np).run h tr = some ((.ms n st 0 (l + new.length) none, [(n, some (.buf st (rows.take l ++ new) false (p && np)))]), i :: tr) := by
  subst h1
  subst h2
  unfold appendR
  simp only [h0, if_false, if_true, Rd.run, hat]
  rw [if_pos ⟨trivial, by omega, h4, h5⟩]
  unfold appendM
  simp only
  rw [if_pos h6]
  simp [Rd.run]
theorem copy_fz {ti : TI} {i st o n : Nat} {c : Option Nat} {new : List (List V)} {h : Heap} {tr : List Nat} {st' : Nat} {rows : List (List V)} {p : Bool} (hat : h.at? i = some (.buf st' rows false p)) (h1 : st = ti.size) (h2 : st' = ti.size) (ha : (new.all fun r => r.length == ti.size) = true) (h3 : o + n ≤ rows.length) :
    (copyR ti (.ms i st o n c) (.fz new)).run h tr = some ((.int .i64 (min new.length n : Nat), [(i, some (.buf st (rows.take o ++ new.take n ++ rows.drop (o + min new.length n)) false p))]), i :: tr) := by
  subst h1
  subst h2
  unfold copyR
  simp only [if_true, rows?, ha, Rd.run, hat]
  rw [if_pos ⟨trivial, h3⟩]
  simp [Rd.run]
theorem copy_ms {ti : TI} {i st o n j o2 n2 : Nat} {c c2 : Option Nat} {h : Heap} {tr : List Nat} {st' st2 st2' : Nat} {rows rows2 : List (List V)} {f2 p p2 : Bool} (hat : h.at? i = some (.buf st' rows false p)) (h1 : st = ti.size) (h2 : st' = ti.size) (h3 : o + n ≤ rows.length)
    (hat2 : h.at? j = some (.buf st2' rows2 f2 p2)) (h4 : st2 = ti.size) (h5 : st2' = ti.size) (h6 : o2 + n2 ≤ rows2.length) :
    (copyR ti (.ms i st o n c) (.ms j st2 o2 n2 c2)).run h tr = some ((.int .i64 (min n2 n : Nat), [(i, some (.buf st (rows.take o ++ ((rows2.drop o2).take n2).take n ++ rows.drop (o + min n2 n)) false (p && p2)))]), i :: j :: tr) := by
  subst h1
  subst h2
  subst h4
  subst h5
  have hl : ((rows2.drop o2).take n2).length = n2 := by simp; omega
  unfold copyR
  simp only [if_true, rows?, Rd.run, hat2]
  rw [if_pos ⟨trivial, h6⟩]
  simp only [Rd.run, hat]
  rw [if_pos ⟨trivial, h3⟩]
  simp [Rd.run, hl]
theorem natOf_lit (k : IntKind) (n : Nat) : natOf (.int k (n : Int)) = some n := natOf_cast k n

/-- What slices.Insert does: zeros behind, the new one, the rest. -/
theorem ins_facts {ti : TI} {z kr : List V} {rows : List (List V)} {n i : Nat} {f : Bool} (hkr : kr.length = ti.size) (hl : rows.length = n) (hn : n < 1000000000000) (hi : i < n) (hb : ti.bytes ≤ 100) :
    (appendR ti 1 (.ms 0 ti.size 0 i (some n)) (List.replicate (n + 1 - i) z) true).run [some (.buf ti.size rows f true)] [] = some ((.ms 1 ti.size 0 (n + 1) none, [(1, some (.buf ti.size (rows.take i ++ List.replicate (n + 1 - i) z) false true))]), [0]) ∧
    (copyR ti (.ms 1 ti.size i (n + 1 - i) none) (.fz [kr])).run [some (.buf ti.size rows f true), some (.buf ti.size (rows.take i ++ List.replicate (n + 1 - i) z) false true)] [] = some ((.int .i64 ((min 1 (n + 1 - i) : Nat) : Int), [(1, some (.buf ti.size (rows.take i ++ [kr] ++ List.replicate (n - i) z) false true))]), [1]) ∧
    ∀ rest : Heap, (copyR ti (.ms 1 ti.size (i + 1) (n + 1 - (i + 1)) none) (.ms 0 ti.size i (n - i) (some (n - i)))).run (some (.buf ti.size rows f true) :: some (.buf ti.size (rows.take i ++ [kr] ++ List.replicate (n - i) z) false true) :: rest) [] = some ((.int .i64 ((min (n - i) (n + 1 - (i + 1)) : Nat) : Int), [(1, some (.buf ti.size (rows.take i ++ [kr] ++ rows.drop i) false true))]), [1, 0]) := by
  have hlt : (rows.take i).length = i := by simp; omega
  have hm : (n + 1) * ti.bytes ≤ (n + 1) * 100 := Nat.mul_le_mul_left _ hb
  refine ⟨?_, ?_, ?_⟩
  · have ha := append_grow (ti := ti) (n := 1) (i := 0) (st := ti.size) (l := i) (c := n) (new := List.replicate (n + 1 - i) z) (np := true) (h := [some (.buf ti.size rows f true)]) (tr := []) rfl (by simp; omega) rfl rfl (by omega) (by rw [List.length_replicate, show i + (n + 1 - i) = n + 1 by omega]; omega) (by simp; omega) (by simp; omega)
    rw [List.length_replicate, show i + (n + 1 - i) = n + 1 by omega] at ha
    exact ha
  · have hA : (rows.take i ++ List.replicate (n + 1 - i) z).length = n + 1 := by simp; omega
    have hc := copy_fz (ti := ti) (i := 1) (st := ti.size) (o := i) (n := n + 1 - i) (c := none) (new := [kr]) (tr := []) (h := [some (.buf ti.size rows f true), some (.buf ti.size (rows.take i ++ List.replicate (n + 1 - i) z) false true)]) rfl rfl rfl (by simp [hkr]) (by omega)
    rw [hc]
    have e1 : List.take i (rows.take i ++ List.replicate (n + 1 - i) z) = rows.take i := by rw [List.take_left' hlt]
    have e2 : List.drop (i + min 1 (n + 1 - i)) (rows.take i ++ List.replicate (n + 1 - i) z) = List.replicate (n - i) z := by
      rw [show i + min 1 (n + 1 - i) = i + 1 by omega, List.drop_append, hlt, List.drop_eq_nil_of_le (by omega), List.nil_append, List.drop_replicate]
      congr 1
      omega
    rw [e1, show [kr].length = 1 from rfl, e2, show List.take (n + 1 - i) [kr] = [kr] from List.take_of_length_le (by simp; omega)]
  · intro rest
    have hB : (rows.take i ++ [kr] ++ List.replicate (n - i) z).length = n + 1 := by simp; omega
    have hc := copy_ms (ti := ti) (i := 1) (st := ti.size) (o := i + 1) (n := n + 1 - (i + 1)) (c := none) (j := 0) (st2 := ti.size) (o2 := i) (n2 := n - i) (c2 := some (n - i)) (tr := []) (h := some (.buf ti.size rows f true) :: some (.buf ti.size (rows.take i ++ [kr] ++ List.replicate (n - i) z) false true) :: rest) rfl rfl rfl (by omega) rfl rfl rfl (by omega)
    rw [hc]
    have e3 : List.take (i + 1) (rows.take i ++ [kr] ++ List.replicate (n - i) z) = rows.take i ++ [kr] := by rw [List.take_left' (by simp; omega)]
    have e4 : List.drop (i + 1 + min (n - i) (n + 1 - (i + 1))) (rows.take i ++ [kr] ++ List.replicate (n - i) z) = [] := List.drop_eq_nil_of_le (by omega)
    rw [e3, e4, show ((rows.drop i).take (n - i)).take (n + 1 - (i + 1)) = rows.drop i by rw [List.take_of_length_le (by simp; omega), List.take_of_length_le (by simp; omega)], List.append_nil]
    rfl

theorem lim174_lt (n i : Nat) (kr : List V) (rows : List (List V)) (f : Bool) (hk : kr.length = 1) (hl : rows.length = n) (hn : n < 1000000000000) (hi : i < n) : lim T fns 174 [.ms 0 1 0 n (some n), .int .i64 i, .fz [kr]] [.buf 1 rows f true] =
    some (.ms 1 1 0 (n + 1) none, [some (.buf 1 rows f true), some (.buf 1 (rows.take i ++ [kr] ++ rows.drop i) false true)]) := by
  refine fn_rule (fn := fn174) rfl rfl (by simp [fn174]) ?_
  unfold fn174
  simp only [Tryz.f174, Option.getD_some, argEnv, List.map_nil, List.length_nil]
  have hi' : i ≤ n := Nat.le_of_lt hi
  have hc1 : (0 : Int) ≤ ((n + 1 - i : Nat) : Int) ∧ (n + 1 - i) * 16 ≤ 140737488355328 ∧ ((n + 1 - i : Nat) : Int) ≤ 140737488355328 := ⟨by omega, by omega, by omega⟩
  obtain ⟨f1, f2, f3⟩ := ins_facts (ti := ⟨.str, 1, 16, .str ⟨#[]⟩⟩) (z := [.str ⟨#[]⟩]) (kr := kr) (f := f) hk hl hn hi (by decide)
  simp only at f1 f2 f3
  simp only [go_sem, T_3, T_4, T_9, T_47, Nat.le_refl, Nat.zero_le, hi, hi', hl, cast_eq0, cast_beq, wrap_add1 (show n < 1000000000000000000 by omega), wrap_add1 (show i < 1000000000000000000 by omega), wrap_sub (show n + 1 < 1000000000000000000 by omega) (show i ≤ n + 1 by omega), natOf_lit, show ¬ i = n by omega, hc1, f1, f2, f3, show i ≤ n + 1 by omega, show i + 1 ≤ n + 1 by omega, hk]
  repeat (refine ⟨by kernel_rfl, ?_⟩)
  show _ = _
  kernel_rfl
theorem lim174_eq (n : Nat) (kr : List V) (rows : List (List V)) (f : Bool) (hk : kr.length = 1) (hl : rows.length = n) (hn : n < 1000000000000) : lim T fns 174 [.ms 0 1 0 n (some n), .int .i64 n, .fz [kr]] [.buf 1 rows f true] =
    some (.ms 1 1 0 (n + 1) none, [some (.buf 1 rows f true), some (.buf 1 (rows.take n ++ [kr]) false true)]) := by
  refine fn_rule (fn := fn174) rfl rfl (by simp [fn174]) ?_
  unfold fn174
  simp only [Tryz.f174, Option.getD_some, argEnv, List.map_nil, List.length_nil]
  have ha := append_grow (ti := ⟨.str, 1, 16, .str ⟨#[]⟩⟩) (n := 1) (i := 0) (st := 1) (l := n) (c := n) (new := [kr]) (np := true) (h := [some (.buf 1 rows f true)]) (tr := []) rfl (by simp) rfl rfl (by omega) (by simp; omega) (by simp; omega) (by simp)
  simp only [List.length_cons, List.length_nil, Nat.zero_add, Bool.and_self] at ha
  simp only [go_sem, T_3, T_4, T_9, T_47, Nat.le_refl, Nat.zero_le, hl, cast_eq0, cast_beq, natOf_lit, ha, hk]
  repeat (refine ⟨by kernel_rfl, ?_⟩)
  show _ = _
  kernel_rfl
theorem lim174 (n i : Nat) (kr : List V) (rows : List (List V)) (f : Bool) (hk : kr.length = 1) (hl : rows.length = n) (hn : n < 1000000000000) (hi : i ≤ n) : lim T fns 174 [.ms 0 1 0 n (some n), .int .i64 i, .fz [kr]] [.buf 1 rows f true] =
    some (.ms 1 1 0 (n + 1) none, [some (.buf 1 rows f true), some (.buf 1 (rows.take i ++ [kr] ++ rows.drop i) false true)]) := by
  rcases Nat.lt_or_ge i n with h | h
  · exact lim174_lt n i kr rows f hk hl hn h
  · obtain rfl : i = n := by omega
    rw [lim174_eq i kr rows f hk hl hn, List.drop_eq_nil_of_le (by omega), List.append_nil]

theorem lim176_lt (n i : Nat) (kr : List V) (rows : List (List V)) (f : Bool) (hk : kr.length = 3) (hl : rows.length = n) (hn : n < 1000000000000) (hi : i < n) : lim T fns 176 [.ms 0 3 0 n (some n), .int .i64 i, .fz [kr]] [.buf 3 rows f true] =
    some (.ms 1 3 0 (n + 1) none, [some (.buf 3 rows f true), some (.buf 3 (rows.take i ++ [kr] ++ rows.drop i) false true)]) := by
  refine fn_rule (fn := fn176) rfl rfl (by simp [fn176]) ?_
  unfold fn176
  simp only [Tryz.f176, Option.getD_some, argEnv, List.map_nil, List.length_nil]
  have hi' : i ≤ n := Nat.le_of_lt hi
  have hc1 : (0 : Int) ≤ ((n + 1 - i : Nat) : Int) ∧ (n + 1 - i) * 24 ≤ 140737488355328 ∧ ((n + 1 - i : Nat) : Int) ≤ 140737488355328 := ⟨by omega, by omega, by omega⟩
  obtain ⟨f1, f2, f3⟩ := ins_facts (ti := ⟨.struct [(0, 9), (1, 54), (2, 55)], 3, 24, .agg [.str ⟨#[]⟩, .int .u32 0, .int .u16 0]⟩) (z := [.str ⟨#[]⟩, .int .u32 0, .int .u16 0]) (kr := kr) (f := f) hk hl hn hi (by decide)
  simp only at f1 f2 f3
  simp only [go_sem, T_3, T_4, T_9, T_26, T_54, T_55, T_57, Nat.le_refl, Nat.zero_le, hi, hi', hl, cast_eq0, cast_beq, wrap_add1 (show n < 1000000000000000000 by omega), wrap_add1 (show i < 1000000000000000000 by omega), wrap_sub (show n + 1 < 1000000000000000000 by omega) (show i ≤ n + 1 by omega), natOf_lit, show ¬ i = n by omega, hc1, f1, f2, f3, show i ≤ n + 1 by omega, show i + 1 ≤ n + 1 by omega, hk]
  repeat (refine ⟨by kernel_rfl, ?_⟩)
  show _ = _
  kernel_rfl
theorem lim176_eq (n : Nat) (kr : List V) (rows : List (List V)) (f : Bool) (hk : kr.length = 3) (hl : rows.length = n) (hn : n < 1000000000000) : lim T fns 176 [.ms 0 3 0 n (some n), .int .i64 n, .fz [kr]] [.buf 3 rows f true] =
    some (.ms 1 3 0 (n + 1) none, [some (.buf 3 rows f true), some (.buf 3 (rows.take n ++ [kr]) false true)]) := by
  refine fn_rule (fn := fn176) rfl rfl (by simp [fn176]) ?_
  unfold fn176
  simp only [Tryz.f176, Option.getD_some, argEnv, List.map_nil, List.length_nil]
  have ha := append_grow (ti := ⟨.struct [(0, 9), (1, 54), (2, 55)], 3, 24, .agg [.str ⟨#[]⟩, .int .u32 0, .int .u16 0]⟩) (n := 1) (i := 0) (st := 3) (l := n) (c := n) (new := [kr]) (np := true) (h := [some (.buf 3 rows f true)]) (tr := []) rfl (by simp) rfl rfl (by omega) (by simp; omega) (by simp; omega) (by simp)
  simp only [List.length_cons, List.length_nil, Nat.zero_add, Bool.and_self] at ha
  simp only [go_sem, T_3, T_4, T_9, T_26, T_54, T_55, T_57, Nat.le_refl, Nat.zero_le, hl, cast_eq0, cast_beq, natOf_lit, ha, hk]
  repeat (refine ⟨by kernel_rfl, ?_⟩)
  show _ = _
  kernel_rfl
theorem lim176 (n i : Nat) (kr : List V) (rows : List (List V)) (f : Bool) (hk : kr.length = 3) (hl : rows.length = n) (hn : n < 1000000000000) (hi : i ≤ n) : lim T fns 176 [.ms 0 3 0 n (some n), .int .i64 i, .fz [kr]] [.buf 3 rows f true] =
    some (.ms 1 3 0 (n + 1) none, [some (.buf 3 rows f true), some (.buf 3 (rows.take i ++ [kr] ++ rows.drop i) false true)]) := by
  rcases Nat.lt_or_ge i n with h | h
  · exact lim176_lt n i kr rows f hk hl hn h
  · obtain rfl : i = n := by omega
    rw [lim176_eq i kr rows f hk hl hn, List.drop_eq_nil_of_le (by omega), List.append_nil]

theorem lim175 (n : Nat) (rows : List (List V)) (f : Bool) (hn : n < 1000000000000) : lim T fns 175 [.ms 0 1 0 n none] [.buf 1 rows f true] = some (.ms 0 1 0 n (some n), [some (.buf 1 rows f true)]) := by
  refine fn_rule (fn := fn175) rfl rfl (by simp [fn175]) ?_
  unfold fn175
  simp only [Tryz.f175, Option.getD_some, argEnv, List.map_nil, List.length_nil]
  simp only [go_sem, T_9, T_47, Nat.le_refl, Nat.zero_le]
  show _ = _
  kernel_rfl
theorem lim177 (n : Nat) (rows : List (List V)) (f : Bool) (hn : n < 1000000000000) : lim T fns 177 [.ms 0 3 0 n none] [.buf 3 rows f true] = some (.ms 0 3 0 n (some n), [some (.buf 3 rows f true)]) := by
  refine fn_rule (fn := fn177) rfl rfl (by simp [fn177]) ?_
  unfold fn177
  simp only [Tryz.f177, Option.getD_some, argEnv, List.map_nil, List.length_nil]
  simp only [go_sem, T_9, T_26, T_54, T_55, T_57, Nat.le_refl, Nat.zero_le]
  show _ = _
  kernel_rfl
end Go.Proofs.YtoggbcckkjfkhaaGreat.R.Vol
/- Texts in order. -/
namespace Go.Proofs.YtoggbcckkjfkhaaGreat.R.Vol
open Go

theorem less_or_eq : ∀ x y : List UInt8, (Op.bytesLess x y || x == y) = !(Op.bytesLess y x)
  | [], [] => by simp [Op.bytesLess]
  | [], _ :: _ => by simp [Op.bytesLess]
  | _ :: _, [] => by simp [Op.bytesLess]
  | a :: x, b :: y => by
    have ih := less_or_eq x y
    rw [Op.bytesLess, Op.bytesLess, Bool.eq_iff_iff]
    simp only [Bool.or_eq_true, Bool.and_eq_true, decide_eq_true_eq, beq_iff_eq, List.cons.injEq, Bool.not_eq_true', Bool.or_eq_false_iff, decide_eq_false_iff_not, Bool.and_eq_false_iff, beq_eq_false_iff_ne]
    have h : (Op.bytesLess x y = true ∨ x = y) ↔ Op.bytesLess y x = false := by
      rw [Bool.eq_iff_iff] at ih
      simpa using ih
    rcases Nat.lt_trichotomy a.toNat b.toNat with h1 | h1 | h1
    · have h2 : a < b := UInt8.lt_iff_toNat_lt.2 h1
      have h3 : ¬ b < a := fun h => by have := UInt8.lt_iff_toNat_lt.1 h; omega
      have h4 : ¬ b = a := fun h => by rw [h] at h1; omega
      simp [h2, h3, h4]
    · have h2 : a = b := UInt8.toNat_inj.1 h1
      subst h2
      have h3 : ¬ a < a := fun h => by have := UInt8.lt_iff_toNat_lt.1 h; omega
      simp only [h3, true_and, false_or, not_false_eq_true, ne_eq, not_true_eq_false, false_or]
      exact h
    · have h2 : b < a := UInt8.lt_iff_toNat_lt.2 h1
      have h3 : ¬ a < b := fun h => by have := UInt8.lt_iff_toNat_lt.1 h; omega
      have h4 : ¬ a = b := fun h => by rw [h] at h1; omega
      simp [h2, h3, h4]
theorem bl_trans : ∀ {x y z : List UInt8}, Op.bytesLess x y = true → Op.bytesLess y z = true → Op.bytesLess x z = true
  | x, [], z, h, _ => by cases x <;> simp [Op.bytesLess] at h
  | x, _ :: _, [], _, h => by simp [Op.bytesLess] at h
  | [], _ :: _, _ :: _, _, _ => by simp [Op.bytesLess]
  | a :: x, b :: y, c :: z, h, k => by
    rw [Op.bytesLess] at h k ⊢
    simp only [Bool.or_eq_true, Bool.and_eq_true, decide_eq_true_eq, beq_iff_eq] at h k ⊢
    have lt : ∀ p q : UInt8, p < q ↔ p.toNat < q.toNat := fun p q => UInt8.lt_iff_toNat_lt
    rw [lt] at h k ⊢
    rcases h with h | ⟨rfl, h⟩
    · rcases k with k | ⟨rfl, k⟩
      · left; omega
      · left; exact h
    · rcases k with k | ⟨rfl, k⟩
      · left; exact k
      · exact .inr ⟨rfl, bl_trans h k⟩

def ltS (a b : ByteArray) : Bool := Op.bytesLess a.toList b.toList
theorem toList_inj {a b : ByteArray} (h : a.toList = b.toList) : a = b := by
  have := ba_toList a b
  rw [h] at this
  simpa using this
theorem ltS_not {a b : ByteArray} : ltS b a = !(ltS a b || decide (a = b)) := by
  have := less_or_eq a.toList b.toList
  rw [ba_toList] at this
  unfold ltS
  rw [this, Bool.not_not]
theorem ltS_irrefl (a : ByteArray) : ltS a a = false := by
  have := ltS_not (a := a) (b := a)
  simpa using this
theorem ltS_trans {a b c : ByteArray} (h : ltS a b = true) (k : ltS b c = true) : ltS a c = true := bl_trans h k
theorem ltS_asymm {a b : ByteArray} (h : ltS a b = true) : ltS b a = false := by rw [ltS_not, h]; rfl
theorem ltS_ne {a b : ByteArray} (h : ltS a b = true) : a ≠ b := fun e => by rw [e, ltS_irrefl] at h; cases h
theorem ltS_tri {a b : ByteArray} (h : ltS a b = false) (k : ltS b a = false) : a = b := by
  rw [ltS_not, h] at k
  simpa using k

/-- Rising. -/
def risesK : List ByteArray → Bool
  | a :: b :: r => ltS a b && risesK (b :: r)
  | _ => true
theorem risesK_tail {a : ByteArray} {r : List ByteArray} (h : risesK (a :: r) = true) : risesK r = true := by
  cases r with
  | nil => rfl
  | cons b r => simp only [risesK, Bool.and_eq_true] at h; exact h.2
theorem risesK_lt : ∀ {r : List ByteArray} {a : ByteArray}, risesK (a :: r) = true → ∀ x ∈ r, ltS a x = true
  | [], a, _, x, hx => by simp at hx
  | b :: r, a, h, x, hx => by
    simp only [risesK, Bool.and_eq_true] at h
    rcases List.mem_cons.1 hx with rfl | hx
    · exact h.1
    · exact ltS_trans h.1 (risesK_lt h.2 x hx)
theorem risesK_cons {a : ByteArray} {r : List ByteArray} (h : risesK r = true) (k : ∀ x ∈ r, ltS a x = true) : risesK (a :: r) = true := by
  cases r with
  | nil => rfl
  | cons b r => simp only [risesK, Bool.and_eq_true]; exact ⟨k b (.head _), h⟩

/-- Where a key stands, or would. -/
def posB (k : ByteArray) : List ByteArray → Nat
  | [] => 0
  | x :: r => if ltS x k = true then posB k r + 1 else 0
theorem posB_le (k : ByteArray) : ∀ l : List ByteArray, posB k l ≤ l.length
  | [] => Nat.le_refl _
  | x :: r => by
    have := posB_le k r
    simp only [posB, List.length_cons]
    split <;> omega
theorem posB_lt {k : ByteArray} : ∀ {l : List ByteArray}, risesK l = true → ∀ {h : Nat} (hh : h < l.length), ltS l[h] k = decide (h < posB k l)
  | [], _, h, hh => by simp at hh
  | x :: r, hr, h, hh => by
    simp only [posB]
    cases h with
    | zero =>
      simp only [List.getElem_cons_zero]
      split
      · rename_i e; rw [e]; simp
      · rename_i e; simp at e; rw [e]; simp
    | succ h =>
      simp only [List.getElem_cons_succ]
      split
      · rename_i e
        rw [posB_lt (risesK_tail hr) (by simpa using hh)]
        simp
      · rename_i e
        have hh' : h < r.length := by simpa using hh
        have h1 := risesK_lt hr _ (List.getElem_mem hh')
        cases h2 : ltS r[h] k with
        | false => simp
        | true => exact absurd (ltS_trans h1 h2) e
def hasB (k : ByteArray) (l : List ByteArray) : Bool := match l[posB k l]? with
  | some x => decide (x = k)
  | none => false
end Go.Proofs.YtoggbcckkjfkhaaGreat.R.Vol
/- Chapter 31's laws: a key found among texts that rise. -/
namespace Go.Proofs.YtoggbcckkjfkhaaGreat.R.Vol
open Go Go.Proofs
set_option linter.unusedSimpArgs false
set_option linter.unusedVariables false
set_option maxRecDepth 10000
set_option maxHeartbeats 2000000

theorem nan_no (a : ByteArray) : (!(a.toList == a.toList)) = false := by simp
theorem lim241 (a : ByteArray) : lim T fns 241 [.str a] [] = some (.bool false, []) := by
  refine fn_rule (fn := fn241) rfl rfl (by simp [fn241]) ?_
  unfold fn241
  simp only [Tryz.f241, Option.getD_some, argEnv, List.map_nil, List.length_nil]
  simp only [go_sem, T_9, nan_no]
theorem call241 (a : ByteArray) (n : Nat) : callV (LX T fns) n (.clo 241 []) [.str a] = .pure (.bool false, []) := callV_plain (fn := fn241) rfl rfl rfl (lim241 a) n
theorem lim288 (a : ByteArray) : lim T fns 288 [.str a] [] = some (.bool false, []) := by
  refine fn_rule (fn := fn288) rfl rfl (by simp [fn288]) ?_
  unfold fn288
  simp only [Tryz.f288, Option.getD_some, argEnv, List.map_nil, List.length_nil]
  simp only [go_sem, T_9, nan_no]
theorem call288 (a : ByteArray) (n : Nat) : callV (LX T fns) n (.clo 288 []) [.str a] = .pure (.bool false, []) := callV_plain (fn := fn288) rfl rfl rfl (lim288 a) n
theorem lim240 (a b : ByteArray) : lim T fns 240 [.str a, .str b] [] = some (.bool (ltS a b), []) := by
  refine fn_rule (fn := fn240) rfl rfl (by simp [fn240]) ?_
  unfold fn240
  simp only [Tryz.f240, Option.getD_some, argEnv, List.map_nil, List.length_nil]
  have hl : Op.bytesLess a.toList b.toList = ltS a b := rfl
  simp only [go_sem, T_4, T_9, call288, hl]
theorem call240 (a b : ByteArray) (n : Nat) : callV (LX T fns) n (.clo 240 []) [.str a, .str b] = .pure (.bool (ltS a b), []) := callV_plain (fn := fn240) rfl rfl rfl (lim240 a b) n

theorem wrap_u64 {n : Nat} (h : n < 1000000000000000000) : IntKind.u64.wrap (n : Int) = n := by
  simp [IntKind.wrap, IntKind.signed, IntKind.bits]
  omega
theorem wrap_add2 {a b : Nat} (h : a + b < 1000000000000000000) : IntKind.i64.wrap ((a : Int) + (b : Int)) = ((a + b : Nat) : Int) := by
  rw [wrap_i64 (by omega) (by omega)]
  omega
theorem wrap_nat {n : Nat} (h : n < 1000000000000000000) : IntKind.i64.wrap (n : Int) = n := wrap_i64 (by omega) (by omega)
theorem half {i j : Nat} (h : i + j < 1000000000000000) : (IntKind.u64.wrap (IntKind.i64.wrap ((i : Int) + (j : Int)))).fdiv (2 ^ min (Int.toNat 1) 64) = (((i + j) / 2 : Nat) : Int) := by
  rw [wrap_add2 (by omega), wrap_u64 (by omega), show (2 : Int) ^ min (Int.toNat 1) 64 = 2 from rfl]
  rw [Int.fdiv_eq_ediv_of_nonneg _ (by omega)]
  omega
theorem hasB_get {k : ByteArray} {ks : List ByteArray} (h : posB k ks < ks.length) : hasB k ks = decide (ks[posB k ks] = k) := by
  unfold hasB
  rw [List.getElem?_eq_getElem h]
theorem hasB_end {k : ByteArray} {ks : List ByteArray} (h : ks.length ≤ posB k ks) : hasB k ks = false := by
  unfold hasB
  rw [List.getElem?_eq_none h]
theorem lim180 (k : ByteArray) (ks : List ByteArray) (hr : risesK ks = true) (hl : ks.length < 1000000000000) : lim T fns 180 [.fz (ks.map Cd.str.enc), .str k] [] = some (.tup [.int .i64 (posB k ks), .bool (hasB k ks)], []) := by
  refine fn_rule (fn := fn180) rfl rfl (by simp [fn180]) ?_
  unfold fn180
  simp only [Tryz.f180, Option.getD_some, argEnv, List.map_nil, List.length_nil]
  simp only [go_sem, T_3, T_9, T_47, T_220]
  refine loop_rule (ι := Nat × Nat) (S := fun p => ⟨[(0, .fz (ks.map Cd.str.enc)), (1, .str k), (6, .int .i64 ks.length), (7, .int .i64 p.1), (8, .int .i64 p.2)], []⟩) (m := fun p => p.2 - p.1)
    (I := fun p => p.1 ≤ posB k ks ∧ posB k ks ≤ p.2 ∧ p.2 ≤ ks.length) ?_ (0, ks.length) _ ⟨by simp, posB_le k ks, Nat.le_refl _⟩ (by kernel_rfl)
  rintro ⟨i, j⟩ ⟨h1, h2, h3⟩
  simp only at h1 h2 h3
  by_cases hlt : i < j
  · have hm : (i + j) / 2 < ks.length := by omega
    have hx : ks[(i + j) / 2]? = some ks[(i + j) / 2] := List.getElem?_eq_getElem hm
    have hp := posB_lt (k := k) hr hm
    simp only [go_sem, T_3, T_9, T_47, T_220, hlt, show (0 : Int) ≤ 1 by decide, half (show i + j < 1000000000000000 by omega), wrap_nat (show (i + j) / 2 < 1000000000000000000 by omega), hm, hx, call240, hp, wrap_i64s (show (i + j) / 2 < 1000000000000000000 by omega)]
    split
    · rename_i hlt2
      exact ⟨((i + j) / 2 + 1, j), ⟨by simp only; omega, by simp only; omega, by simp only; omega⟩, by simp only; omega, by kernel_rfl⟩
    · rename_i hlt2
      exact ⟨(i, (i + j) / 2), ⟨by simp only; omega, by simp only; omega, by simp only; omega⟩, by simp only; omega, by kernel_rfl⟩
  · have hij : i = posB k ks := by omega
    by_cases hend : i < ks.length
    · have hx : ks[i]? = some ks[i] := List.getElem?_eq_getElem hend
      have hb : hasB k ks = decide (ks[i] = k) := by subst hij; exact hasB_get hend
      rw [hb, ← hij]
      by_cases he : ks[i] = k
      · simp only [go_sem, T_3, T_9, T_47, T_220, hlt, hend, hx, ba_toList, he, call241]
      · simp only [go_sem, T_3, T_9, T_47, T_220, hlt, hend, hx, ba_toList, he, call241]
    · rw [hasB_end (by omega), ← hij]
      simp only [go_sem, T_3, T_9, T_47, T_220, hlt, hend]
theorem call180 (k : ByteArray) (ks : List ByteArray) (hr : risesK ks = true) (hl : ks.length < 1000000000000) (n : Nat) : callV (LX T fns) n (.clo 180 []) [.fz (ks.map Cd.str.enc), .str k] = .pure (.tup [.int .i64 (posB k ks), .bool (hasB k ks)], []) :=
  callV_plain (fn := fn180) rfl rfl rfl (lim180 k ks hr hl) n
end Go.Proofs.YtoggbcckkjfkhaaGreat.R.Vol
/- Chapter 31's laws: a map's objects; a key found. (printed by mk31.py out of t31c.txt) -/
namespace Go.Proofs.YtoggbcckkjfkhaaGreat.R.Vol
open Go Go.Proofs
set_option linter.unusedSimpArgs false
set_option linter.unusedVariables false
set_option maxRecDepth 10000
set_option maxHeartbeats 2000000

/-- A call whose arguments are plain once they are frozen, and such an answer. -/
theorem callV_leaf {T : TT} {fns : FuncId → Option AFn} {g : FuncId} {fn : AFn} (hfn : fns g = some fn) {args caps args' : List V} {u : Upd} {r : V} {h : Heap} {tr tr' : List Nat} {n : Nat} (hz : ∀ K : List V → Upd → Rd (V × Upd), (frzArgs (args ++ caps) fn.pfz K).run h tr = (K args' u).run h tr')
    (ha : V.allPlain args' = true) (hr : r.plain = true) (hf : r.noFz = true) (hl : lim T fns g args' [] = some (r, [])) : (callV (LX T fns) n (.clo g caps) args).run h tr = some ((r, []), tr') := by
  unfold callV
  simp only [hfn]
  unfold callR
  rw [hz, plainAll_ids _ ha]
  show (withR (lim T fns g) n args' u []).run h tr' = _
  unfold withR
  simp only [List.map_nil, upd1, List.contains_nil, Bool.not_false, List.all_nil, Bool.and_true, plainAll_re _ _ ha, pullObs, hl, List.length_nil, Nat.le_refl, if_true]
  rw [if_pos (by simp)]
  unfold afterR
  simp [plain_re _ _ hr, pushObs, hf, Rd.run]
theorem call180_at {ks : List ByteArray} {ex : List (List V)} {k : ByteArray} {n p l : Nat} {c : Option Nat} {f : Bool} {h : Heap} {tr : List Nat} (hat : h.at? p = some (.buf 1 (ks.map Cd.str.enc ++ ex) f true)) (hl : l = ks.length) (hr : risesK ks = true) (hb : ks.length < 1000000000000) :
    (callV (LX T fns) n (.clo 180 []) [.ms p 1 0 l c, .str k]).run h tr = some ((.tup [.int .i64 (posB k ks), .bool (hasB k ks)], []), p :: tr) := by
  subst hl
  refine callV_leaf (fn := fn180) rfl (args' := [.fz (ks.map Cd.str.enc), .str k]) (u := [(p, some (.buf 1 (ks.map Cd.str.enc ++ ex) true true))]) (fun K => ?_) rfl rfl rfl (lim180 k ks hr hb)
  simp only [fn180, List.append_nil, frzArgs, frz, frzAll, frzG, frzGAll, ms2, msUp, frzG, frzGAll, ms2, msUp, Rd.run, hat, List.tail]
  rw [if_pos ⟨trivial, by simp⟩]
  simp only [List.drop_zero, List.nil_append, List.append_nil, List.singleton_append]
  rw [List.take_left' (by simp)]

/-- Keys (and what lies behind them). -/
def kob (ks : List ByteArray) (ex : List (List V)) (f : Bool) : Ob := .buf 1 (ks.map Cd.str.enc ++ ex) f true
def insAt {α : Type} (i : Nat) (x : α) (l : List α) : List α := l.take i ++ [x] ++ l.drop i
def mobC (i j n : Nat) : Ob := .buf 2 [[.ms i 1 0 n none, .ms j 3 0 n none]] false false
def vobC (vs : List S57) (ex : List (List V)) (f : Bool) : Ob := .buf 3 (vs.map k57.enc ++ ex) f true
theorem eqPC (i r o : Nat) : eqV T 142 (.ptr i r o) .nilp = some false := by
  unfold eqV
  rw [T_142]
theorem lim123 (k : ByteArray) (ks : List ByteArray) (vs : List S57) (ex ey : List (List V)) (f g : Bool) (hr : risesK ks = true) (hl : ks.length < 1000000000000) : lim T fns 123 [.ptr 0 0 0, .str k] [mobC 1 2 ks.length, kob ks ex f, vobC vs ey g] =
    some (.tup [.int .i64 (posB k ks), .bool (hasB k ks)], [some (mobC 1 2 ks.length), some (kob ks ex f), some (vobC vs ey g)]) := by
  refine fn_rule (fn := fn123) rfl rfl (by simp [fn123]) ?_
  unfold fn123
  simp only [Tryz.f123, Option.getD_some, argEnv, List.map_nil, List.length_nil]
  have hc := fun (n : Nat) (a : Option Ob) (rest : Heap) => call180_at (ks := ks) (k := k) (n := n) (p := 1) (l := ks.length) (c := none) (f := f) (h := a :: some (.buf 1 (ks.map Cd.str.enc ++ ex) f true) :: rest) (tr := []) rfl rfl hr hl
  simp only [mobC, kob, vobC]
  simp only [go_sem, T_9, T_26, T_47, T_54, T_55, T_57, T_142, T_208, hc, eqPC, nilCheckR, extractR]
  show _ = _
  kernel_rfl
theorem call123 (k : ByteArray) (ks : List ByteArray) (vs : List S57) (ex ey : List (List V)) (f g : Bool) (hr : risesK ks = true) (hl : ks.length < 1000000000000) (n : Nat) (hn : 3 ≤ n) (rest : Heap) : (callV (LX T fns) n (.clo 123 []) [.ptr 0 0 0, .str k]).run (some (mobC 1 2 ks.length) :: some (kob ks ex f) :: some (vobC vs ey g) :: rest) [] =
    some ((.tup [.int .i64 (posB k ks), .bool (hasB k ks)], [(0, some (mobC 1 2 ks.length)), (1, some (kob ks ex f)), (2, some (vobC vs ey g))]), [2, 1, 0]) := by
  have h := lim123 k ks vs ex ey f g hr hl
  simp only [mobC, kob, vobC] at h ⊢
  have hf : fns 123 = some fn123 := rfl
  unfold callV
  simp only [hf]
  unfold callR
  simp only [fn123, List.cons_append, List.nil_append, List.append_nil, frzArgs, frz, frzAll, frzG, frzGAll, ms2, msUp, List.tail]
  simp only [V.allIds, V.ids, List.append_nil, List.nil_append, collect, List.map_nil, List.contains_nil, Bool.false_eq_true, if_false, Rd.run, Heap.at?, Ob.ids, rowsIds, List.map_cons, List.cons_append, List.contains_cons, Nat.reduceBEq, Bool.or_self, Bool.or_false, Bool.false_or, Bool.or_true, Bool.true_or, if_true]
  unfold withR
  simp only [List.map_cons, List.map_nil, upd1, List.all_nil, List.all_cons, show 0 < n by omega, show 1 < n by omega, show 2 < n by omega, decide_true, Bool.and_self, if_true, V.reAll, V.re, idx, Nat.beq, cond_true, cond_false, Option.bind_some, Option.map_some, pullObs, Ob.re, reRows, Nat.reduceAdd, h, List.length_cons, List.length_nil, Nat.le_refl]
  unfold afterR
  simp only [V.re, V.reAll, pushObs, back, nth, Ob.re, reRows, Option.bind_some, Option.map_some, List.isEmpty_cons, Bool.false_and, Bool.false_eq_true, if_false, Rd.run, List.append_nil, Nat.reduceAdd]
def mobS (i j n : Nat) : Ob := .buf 2 [[.ms i 1 0 n none, .ms j 1 0 n none]] false false
def vobS (vs : List ByteArray) (ex : List (List V)) (f : Bool) : Ob := .buf 1 (vs.map Cd.str.enc ++ ex) f true
theorem eqPS (i r o : Nat) : eqV T 290 (.ptr i r o) .nilp = some false := by
  unfold eqV
  rw [T_290]
theorem lim259 (k : ByteArray) (ks : List ByteArray) (vs : List ByteArray) (ex ey : List (List V)) (f g : Bool) (hr : risesK ks = true) (hl : ks.length < 1000000000000) : lim T fns 259 [.ptr 0 0 0, .str k] [mobS 1 2 ks.length, kob ks ex f, vobS vs ey g] =
    some (.tup [.int .i64 (posB k ks), .bool (hasB k ks)], [some (mobS 1 2 ks.length), some (kob ks ex f), some (vobS vs ey g)]) := by
  refine fn_rule (fn := fn259) rfl rfl (by simp [fn259]) ?_
  unfold fn259
  simp only [Tryz.f259, Option.getD_some, argEnv, List.map_nil, List.length_nil]
  have hc := fun (n : Nat) (a : Option Ob) (rest : Heap) => call180_at (ks := ks) (k := k) (n := n) (p := 1) (l := ks.length) (c := none) (f := f) (h := a :: some (.buf 1 (ks.map Cd.str.enc ++ ex) f true) :: rest) (tr := []) rfl rfl hr hl
  simp only [mobS, kob, vobS]
  simp only [go_sem, T_9, T_47, T_290, T_337, hc, eqPS, nilCheckR, extractR]
  show _ = _
  kernel_rfl
theorem call259 (k : ByteArray) (ks : List ByteArray) (vs : List ByteArray) (ex ey : List (List V)) (f g : Bool) (hr : risesK ks = true) (hl : ks.length < 1000000000000) (n : Nat) (hn : 3 ≤ n) (rest : Heap) : (callV (LX T fns) n (.clo 259 []) [.ptr 0 0 0, .str k]).run (some (mobS 1 2 ks.length) :: some (kob ks ex f) :: some (vobS vs ey g) :: rest) [] =
    some ((.tup [.int .i64 (posB k ks), .bool (hasB k ks)], [(0, some (mobS 1 2 ks.length)), (1, some (kob ks ex f)), (2, some (vobS vs ey g))]), [2, 1, 0]) := by
  have h := lim259 k ks vs ex ey f g hr hl
  simp only [mobS, kob, vobS] at h ⊢
  have hf : fns 259 = some fn259 := rfl
  unfold callV
  simp only [hf]
  unfold callR
  simp only [fn259, List.cons_append, List.nil_append, List.append_nil, frzArgs, frz, frzAll, frzG, frzGAll, ms2, msUp, List.tail]
  simp only [V.allIds, V.ids, List.append_nil, List.nil_append, collect, List.map_nil, List.contains_nil, Bool.false_eq_true, if_false, Rd.run, Heap.at?, Ob.ids, rowsIds, List.map_cons, List.cons_append, List.contains_cons, Nat.reduceBEq, Bool.or_self, Bool.or_false, Bool.false_or, Bool.or_true, Bool.true_or, if_true]
  unfold withR
  simp only [List.map_cons, List.map_nil, upd1, List.all_nil, List.all_cons, show 0 < n by omega, show 1 < n by omega, show 2 < n by omega, decide_true, Bool.and_self, if_true, V.reAll, V.re, idx, Nat.beq, cond_true, cond_false, Option.bind_some, Option.map_some, pullObs, Ob.re, reRows, Nat.reduceAdd, h, List.length_cons, List.length_nil, Nat.le_refl]
  unfold afterR
  simp only [V.re, V.reAll, pushObs, back, nth, Ob.re, reRows, Option.bind_some, Option.map_some, List.isEmpty_cons, Bool.false_and, Bool.false_eq_true, if_false, Rd.run, List.append_nil, Nat.reduceAdd]
end Go.Proofs.YtoggbcckkjfkhaaGreat.R.Vol
/- Chapter 31's laws: a map's value. (printed by mk31.py out of t31d.txt) -/
namespace Go.Proofs.YtoggbcckkjfkhaaGreat.R.Vol
open Go Go.Proofs
set_option linter.unusedSimpArgs false
set_option linter.unusedVariables false
set_option maxRecDepth 10000
set_option maxHeartbeats 2000000

/-- A key's value. -/
def getM {α : Type} (z : α) (k : ByteArray) (ks : List ByteArray) (vs : List α) : α := if hasB k ks = true then (vs[posB k ks]?).getD z else z
theorem hasB_lt {k : ByteArray} {ks : List ByteArray} (h : hasB k ks = true) : posB k ks < ks.length := by
  rcases Nat.lt_or_ge (posB k ks) ks.length with h1 | h1
  · exact h1
  · rw [hasB_end h1] at h; cases h
def valC (x : S57) : V := .agg (k57.enc x)
def zC : S57 := ⟨⟨#[]⟩, 0, 0⟩
theorem lim75 (k : ByteArray) (ks : List ByteArray) (vs : List S57) (ex ey : List (List V)) (f g : Bool) (hr : risesK ks = true) (hl : ks.length < 1000000000000) (hv : vs.length = ks.length) : lim T fns 75 [.ptr 0 0 0, .str k] [mobC 1 2 ks.length, kob ks ex f, vobC vs ey g] =
    some (.tup [valC (getM zC k ks vs), .bool (hasB k ks)], [some (mobC 1 2 ks.length), some (kob ks ex f), some (vobC vs ey g)]) := by
  refine fn_rule (fn := fn75) rfl rfl (by simp [fn75]) ?_
  unfold fn75
  simp only [Tryz.f75, Option.getD_some, argEnv, List.map_nil, List.length_nil]
  have hc := fun (n : Nat) (hn : 3 ≤ n) (rest : Heap) => call123 k ks vs ex ey f g hr hl n hn rest
  cases hb : hasB k ks with
  | true =>
    have hp : posB k ks < vs.length := by rw [hv]; exact hasB_lt hb
    have hx : vs[posB k ks]? = some vs[posB k ks] := List.getElem?_eq_getElem hp
    have hy : (vs.map k57.enc ++ ey)[posB k ks]? = some (k57.enc vs[posB k ks]) := by
      rw [List.getElem?_append_left (by simpa using hp), List.getElem?_map, hx]
      rfl
    have hp2 : posB k ks < ks.length := by omega
    rw [hb] at hc
    simp only [mobC, kob, vobC] at hc ⊢
    simp only [go_sem, T_4, T_9, T_26, T_47, T_54, T_55, T_57, T_142, T_208, hc, eqPC, nilCheckR, extractR, hx, hy, hp, hp2, hv, k57_enc, valC, getM, hb, Option.getD_some]
    show _ = _
    kernel_rfl
  | false =>
    rw [hb] at hc
    simp only [mobC, kob, vobC] at hc ⊢
    simp only [go_sem, T_4, T_9, T_26, T_47, T_54, T_55, T_57, T_142, T_208, hc, eqPC, nilCheckR, extractR, k57_enc, valC, getM, hb, zC]
    show _ = _
    kernel_rfl
theorem call75 (k : ByteArray) (ks : List ByteArray) (vs : List S57) (ex ey : List (List V)) (f g : Bool) (hr : risesK ks = true) (hl : ks.length < 1000000000000) (hv : vs.length = ks.length) (n : Nat) (hn : 3 ≤ n) (rest : Heap) : (callV (LX T fns) n (.clo 75 []) [.ptr 0 0 0, .str k]).run (some (mobC 1 2 ks.length) :: some (kob ks ex f) :: some (vobC vs ey g) :: rest) [] =
    some ((.tup [valC (getM zC k ks vs), .bool (hasB k ks)], [(0, some (mobC 1 2 ks.length)), (1, some (kob ks ex f)), (2, some (vobC vs ey g))]), [2, 1, 0]) := by
  have h := lim75 k ks vs ex ey f g hr hl hv
  simp only [mobC, kob, vobC, valC, k57_enc] at h ⊢
  have hf : fns 75 = some fn75 := rfl
  unfold callV
  simp only [hf]
  unfold callR
  simp only [fn75, List.cons_append, List.nil_append, List.append_nil, frzArgs, frz, frzAll, frzG, frzGAll, ms2, msUp, List.tail]
  simp only [V.allIds, V.ids, List.append_nil, List.nil_append, collect, List.map_nil, List.contains_nil, Bool.false_eq_true, if_false, Rd.run, Heap.at?, Ob.ids, rowsIds, List.map_cons, List.cons_append, List.contains_cons, Nat.reduceBEq, Bool.or_self, Bool.or_false, Bool.false_or, Bool.or_true, Bool.true_or, if_true]
  unfold withR
  simp only [List.map_cons, List.map_nil, upd1, List.all_nil, List.all_cons, show 0 < n by omega, show 1 < n by omega, show 2 < n by omega, decide_true, Bool.and_self, if_true, V.reAll, V.re, idx, Nat.beq, cond_true, cond_false, Option.bind_some, Option.map_some, pullObs, Ob.re, reRows, Nat.reduceAdd, h, List.length_cons, List.length_nil, Nat.le_refl]
  unfold afterR
  simp only [V.re, V.reAll, pushObs, back, nth, Ob.re, reRows, Option.bind_some, Option.map_some, List.isEmpty_cons, Bool.false_and, Bool.false_eq_true, if_false, Rd.run, List.append_nil, Nat.reduceAdd]
def valS (x : ByteArray) : V := .str x
def zS : ByteArray := ⟨#[]⟩
end Go.Proofs.YtoggbcckkjfkhaaGreat.R.Vol
/- Chapter 31's laws: slices.Clone, Clip, Insert as they are called. (printed by mk31.py out of t31e.txt) -/
namespace Go.Proofs.YtoggbcckkjfkhaaGreat.R.Vol
open Go Go.Proofs
set_option linter.unusedSimpArgs false
set_option linter.unusedVariables false
set_option maxRecDepth 10000
set_option maxHeartbeats 2000000

/-- A call that is handed no object, and answers with new ones. -/
theorem callV_newf {T : TT} {fns : FuncId → Option AFn} {g : FuncId} {fn : AFn} (hfn : fns g = some fn) {args caps args' : List V} {u us : Upd} {r r' : V} {H : Heap} {h : Heap} {tr tr' : List Nat} {n : Nat} (hz : ∀ K : List V → Upd → Rd (V × Upd), (frzArgs (args ++ caps) fn.pfz K).run h tr = (K args' u).run h tr')
    (ha : V.allPlain args' = true) (hl : lim T fns g args' [] = some (r, H)) (hr : V.re (back [] n H.length) r = some r') (hp : pushObs (back [] n H.length) H 0 = some us) (he : H.isEmpty = false) : (callV (LX T fns) n (.clo g caps) args).run h tr = some ((r', us ++ u), tr') := by
  unfold callV
  simp only [hfn]
  unfold callR
  rw [hz, plainAll_ids _ ha]
  show (withR (lim T fns g) n args' u []).run h tr' = _
  unfold withR
  simp only [List.map_nil, upd1, List.contains_nil, Bool.not_false, List.all_nil, Bool.and_true, plainAll_re _ _ ha, pullObs, hl, List.length_nil, Nat.zero_le, if_true]
  rw [if_pos (by simp)]
  unfold afterR
  simp [hr, hp, he, Rd.run]
/-- A call that is handed one object, which leads to no other one. -/
theorem callV_one {T : TT} {fns : FuncId → Option AFn} {g : FuncId} {fn : AFn} (hfn : fns g = some fn) {args caps args' args2 : List V} {u us : Upd} {r r' : V} {o : Ob} {H : Heap} {h : Heap} {tr tr' : List Nat} {n p : Nat} (hz : ∀ K : List V → Upd → Rd (V × Upd), (frzArgs (args ++ caps) fn.pfz K).run h tr = (K args' u).run h tr')
    (hat : h.at? p = some o) (hid : V.allIds args' = [p]) (ho : o.ids = []) (hu : (u.all fun q => !([p].contains q.1)) = true) (hpn : p < n) (h2 : V.reAll (idx [p]) args' = some args2) (h3 : o.re (idx [p]) = some o) (hl : lim T fns g args2 [o] = some (r, H)) (h1 : 1 ≤ H.length)
    (hr : V.re (back [p] n H.length) r = some r') (hp : pushObs (back [p] n H.length) H 0 = some us) : (callV (LX T fns) n (.clo g caps) args).run h tr = some ((r', us ++ u), p :: tr') := by
  unfold callV
  simp only [hfn]
  unfold callR
  rw [hz, hid]
  simp only [collect, List.map_nil, List.contains_nil, Bool.false_eq_true, if_false, Rd.run, hat, ho, List.nil_append, List.append_nil]
  unfold withR
  simp only [List.map_cons, List.map_nil, upd1, hu, List.all_cons, List.all_nil, hpn, decide_true, Bool.and_self, if_true, h2, pullObs, h3, Option.bind_some, Option.map_some, hl, List.length_cons, List.length_nil, Nat.zero_add, h1]
  unfold afterR
  simp only [hr, hp, List.isEmpty_cons, Bool.false_and, Bool.false_eq_true, if_false, Rd.run]
theorem cloneC_at {n p l : Nat} {c : Option Nat} {rows : List (List V)} {f : Bool} {h : Heap} {tr : List Nat} (hat : h.at? p = some (.buf 3 rows f true)) (hl : l ≤ rows.length) (ha : ((rows.take l).all fun r => r.length == 3) = true) (hb : l < 1000000000000) :
    (callV (LX T fns) n (.clo 158 []) [.ms p 3 0 l c]).run h tr = some ((.ms n 3 0 l none, [(n, some (.buf 3 (rows.take l) false true)), (p, some (.buf 3 rows true true))]), p :: tr) := by
  have hlen : (rows.take l).length = l := by simp; omega
  refine callV_newf (fn := fn158) rfl (args' := [.fz (rows.take l)]) (u := [(p, some (.buf 3 rows true true))]) (us := [(n, some (.buf 3 (rows.take l) false true))]) (r := .ms 0 3 0 l none) (H := [some (.buf 3 (rows.take l) false true)]) (fun K => ?_) rfl ?_ ?_ ?_ rfl
  · simp only [fn158, List.append_nil, frzArgs, frz, frzAll, frzG, frzGAll, ms2, msUp, frzG, frzGAll, ms2, msUp, Rd.run, hat, List.tail]
    rw [if_pos ⟨trivial, by omega⟩]
    simp only [List.drop_zero, List.nil_append, List.append_nil]
  · refine lim_clone T fns (fn := fn158) rfl (st := 3) (bytes := 24) rfl ?_
    simp only [cloneFn]
    rw [if_pos ⟨by decide, ha, by omega⟩, hlen]
  · simp [V.re, back, nth]
  · simp [pushObs, back, nth, Ob.re]
theorem clipC_at {n p l : Nat} {rows : List (List V)} {f : Bool} {h : Heap} {tr : List Nat} (hat : h.at? p = some (.buf 3 rows f true)) (hpn : p < n) (hb : l < 1000000000000) :
    (callV (LX T fns) n (.clo 177 []) [.ms p 3 0 l none]).run h tr = some ((.ms p 3 0 l (some l), [(p, some (.buf 3 rows f true))]), p :: tr) := by
  have := callV_one (T := T) (fns := fns) (g := 177) (fn := fn177) rfl (args := [.ms p 3 0 l none]) (caps := []) (args' := [.ms p 3 0 l none]) (args2 := [.ms 0 3 0 l none]) (u := []) (us := [(p, some (.buf 3 rows f true))]) (r := .ms 0 3 0 l (some l)) (r' := .ms p 3 0 l (some l)) (o := .buf 3 rows f true) (H := [some (.buf 3 rows f true)]) (h := h) (tr := tr) (tr' := tr) (n := n) (p := p)
    (fun K => by simp only [fn177, List.append_nil, frzArgs, List.tail]) hat rfl rfl rfl hpn (by simp [V.reAll, V.re, idx]) rfl (lim177 l rows f hb) (Nat.le_refl _) (by simp [V.re, back, nth]) (by simp [pushObs, back, nth, Ob.re])
  simpa using this
theorem insC_at {n p q l i : Nat} {kr : List V} {rows : List (List V)} {f g : Bool} {h : Heap} {tr : List Nat} (hat : h.at? p = some (.buf 3 rows f true)) (hat2 : h.at? q = some (.buf 3 [kr] g true)) (hpq : q ≠ p) (hpn : p < n) (hk : kr.length = 3) (hl : rows.length = l) (hb : l < 1000000000000) (hi : i ≤ l) :
    (callV (LX T fns) n (.clo 176 []) [.ms p 3 0 l (some l), .int .i64 i, .ms q 3 0 1 none]).run h tr = some ((.ms n 3 0 (l + 1) none, [(p, some (.buf 3 rows f true)), (n, some (.buf 3 (rows.take i ++ [kr] ++ rows.drop i) false true)), (q, some (.buf 3 [kr] true true))]), p :: q :: tr) := by
  have := callV_one (T := T) (fns := fns) (g := 176) (fn := fn176) rfl (args := [.ms p 3 0 l (some l), .int .i64 i, .ms q 3 0 1 none]) (caps := []) (args' := [.ms p 3 0 l (some l), .int .i64 i, .fz [kr]]) (args2 := [.ms 0 3 0 l (some l), .int .i64 i, .fz [kr]]) (u := [(q, some (.buf 3 [kr] true true))]) (us := [(p, some (.buf 3 rows f true)), (n, some (.buf 3 (rows.take i ++ [kr] ++ rows.drop i) false true))])
    (r := .ms 1 3 0 (l + 1) none) (r' := .ms n 3 0 (l + 1) none) (o := .buf 3 rows f true) (H := [some (.buf 3 rows f true), some (.buf 3 (rows.take i ++ [kr] ++ rows.drop i) false true)]) (h := h) (tr := tr) (tr' := q :: tr) (n := n) (p := p)
    (fun K => by
      simp only [fn176, List.append_nil, frzArgs, frz, frzAll, frzG, frzGAll, ms2, msUp, frzG, frzGAll, ms2, msUp, Rd.run, hat2, List.tail]
      rw [if_pos ⟨trivial, by simp⟩]
      simp) hat (by simp [V.allIds, V.ids]) rfl (by simp [hpq]) hpn (by simp [V.reAll, V.re, idx]) rfl (lim176 l i kr rows f hk hl hb hi) (by simp) (by simp [V.re, back, nth]) (by simp [pushObs, back, nth, Ob.re])
  simpa using this
/-! As simp sees them: the objects first. -/
open Classical in
noncomputable def clC (n p l : Nat) (c : Option Nat) (h : Heap) (tr : List Nat) (x : Option Ob) : Option ((V × Upd) × List Nat) := match x with
  | some (.buf st rows _ true) => if st = 3 ∧ l ≤ rows.length ∧ ((rows.take l).all fun r => r.length == 3) = true ∧ l < 1000000000000 then some ((.ms n 3 0 l none, [(n, some (.buf 3 (rows.take l) false true)), (p, some (.buf 3 rows true true))]), p :: tr) else (callV (LX T fns) n (.clo 158 []) [.ms p 3 0 l c]).run h tr
  | _ => (callV (LX T fns) n (.clo 158 []) [.ms p 3 0 l c]).run h tr
theorem cloneC_look {n p l : Nat} {c : Option Nat} {h : Heap} {tr : List Nat} : (callV (LX T fns) n (.clo 158 []) [.ms p 3 0 l c]).run h tr = clC n p l c h tr (h.at? p) := by
  unfold clC
  split
  · rename_i st rows f hx
    split
    · rename_i hc
      obtain ⟨rfl, h1, h2, h3⟩ := hc
      exact cloneC_at hx h1 h2 h3
    · rfl
  · rfl
theorem cloneC_got {n p l : Nat} {c : Option Nat} {h : Heap} {tr : List Nat} {rows ex : List (List V)} {f : Bool} (h1 : rows.length = l) (h2 : (rows.all fun r => r.length == 3) = true) (h3 : l < 1000000000000) :
    clC n p l c h tr (some (.buf 3 (rows ++ ex) f true)) = some ((.ms n 3 0 l none, [(n, some (.buf 3 rows false true)), (p, some (.buf 3 (rows ++ ex) true true))]), p :: tr) := by
  have e : (rows ++ ex).take l = rows := List.take_left' h1
  unfold clC
  simp only
  rw [if_pos ⟨trivial, by simp; omega, by rw [e]; exact h2, h3⟩, e]
open Classical in
noncomputable def cpC (n p l : Nat) (h : Heap) (tr : List Nat) (x : Option Ob) : Option ((V × Upd) × List Nat) := match x with
  | some (.buf st rows f true) => if st = 3 ∧ p < n ∧ l < 1000000000000 then some ((.ms p 3 0 l (some l), [(p, some (.buf 3 rows f true))]), p :: tr) else (callV (LX T fns) n (.clo 177 []) [.ms p 3 0 l none]).run h tr
  | _ => (callV (LX T fns) n (.clo 177 []) [.ms p 3 0 l none]).run h tr
theorem clipC_look {n p l : Nat} {h : Heap} {tr : List Nat} : (callV (LX T fns) n (.clo 177 []) [.ms p 3 0 l none]).run h tr = cpC n p l h tr (h.at? p) := by
  unfold cpC
  split
  · rename_i st rows f hx
    split
    · rename_i hc
      obtain ⟨rfl, h1, h2⟩ := hc
      exact clipC_at hx h1 h2
    · rfl
  · rfl
theorem clipC_got {n p l : Nat} {h : Heap} {tr : List Nat} {rows : List (List V)} {f : Bool} (h1 : p < n) (h3 : l < 1000000000000) :
    cpC n p l h tr (some (.buf 3 rows f true)) = some ((.ms p 3 0 l (some l), [(p, some (.buf 3 rows f true))]), p :: tr) := by
  unfold cpC
  simp only
  rw [if_pos ⟨trivial, h1, h3⟩]
open Classical in
noncomputable def inC (n p q l i : Nat) (h : Heap) (tr : List Nat) (x y : Option Ob) : Option ((V × Upd) × List Nat) := match x, y with
  | some (.buf st rows f true), some (.buf st2 [kr] g true) => if st = 3 ∧ st2 = 3 ∧ q ≠ p ∧ p < n ∧ kr.length = 3 ∧ rows.length = l ∧ l < 1000000000000 ∧ i ≤ l then
      some ((.ms n 3 0 (l + 1) none, [(p, some (.buf 3 rows f true)), (n, some (.buf 3 (rows.take i ++ [kr] ++ rows.drop i) false true)), (q, some (.buf 3 [kr] true true))]), p :: q :: tr) else (callV (LX T fns) n (.clo 176 []) [.ms p 3 0 l (some l), .int .i64 i, .ms q 3 0 1 none]).run h tr
  | _, _ => (callV (LX T fns) n (.clo 176 []) [.ms p 3 0 l (some l), .int .i64 i, .ms q 3 0 1 none]).run h tr
theorem insC_look {n p q l i : Nat} {h : Heap} {tr : List Nat} : (callV (LX T fns) n (.clo 176 []) [.ms p 3 0 l (some l), .int .i64 i, .ms q 3 0 1 none]).run h tr = inC n p q l i h tr (h.at? p) (h.at? q) := by
  unfold inC
  split
  · rename_i st rows f st2 kr g hx hy
    split
    · rename_i hc
      obtain ⟨rfl, rfl, h1, h2, h3, h4, h5, h6⟩ := hc
      exact insC_at hx hy h1 h2 h3 h4 h5 h6
    · rfl
  · rfl
theorem insC_got {n p q l i : Nat} {h : Heap} {tr : List Nat} {rows : List (List V)} {kr : List V} {f g : Bool} (h1 : q ≠ p) (h2 : p < n) (h3 : kr.length = 3) (h4 : rows.length = l) (h5 : l < 1000000000000) (h6 : i ≤ l) :
    inC n p q l i h tr (some (.buf 3 rows f true)) (some (.buf 3 [kr] g true)) = some ((.ms n 3 0 (l + 1) none, [(p, some (.buf 3 rows f true)), (n, some (.buf 3 (insAt i kr rows) false true)), (q, some (.buf 3 [kr] true true))]), p :: q :: tr) := by
  unfold inC
  exact if_pos ⟨rfl, rfl, h1, h2, h3, h4, h5, h6⟩
theorem cloneS_at {n p l : Nat} {c : Option Nat} {rows : List (List V)} {f : Bool} {h : Heap} {tr : List Nat} (hat : h.at? p = some (.buf 1 rows f true)) (hl : l ≤ rows.length) (ha : ((rows.take l).all fun r => r.length == 1) = true) (hb : l < 1000000000000) :
    (callV (LX T fns) n (.clo 129 []) [.ms p 1 0 l c]).run h tr = some ((.ms n 1 0 l none, [(n, some (.buf 1 (rows.take l) false true)), (p, some (.buf 1 rows true true))]), p :: tr) := by
  have hlen : (rows.take l).length = l := by simp; omega
  refine callV_newf (fn := fn129) rfl (args' := [.fz (rows.take l)]) (u := [(p, some (.buf 1 rows true true))]) (us := [(n, some (.buf 1 (rows.take l) false true))]) (r := .ms 0 1 0 l none) (H := [some (.buf 1 (rows.take l) false true)]) (fun K => ?_) rfl ?_ ?_ ?_ rfl
  · simp only [fn129, List.append_nil, frzArgs, frz, frzAll, frzG, frzGAll, ms2, msUp, frzG, frzGAll, ms2, msUp, Rd.run, hat, List.tail]
    rw [if_pos ⟨trivial, by omega⟩]
    simp only [List.drop_zero, List.nil_append, List.append_nil]
  · refine lim_clone T fns (fn := fn129) rfl (st := 1) (bytes := 16) rfl ?_
    simp only [cloneFn]
    rw [if_pos ⟨by decide, ha, by omega⟩, hlen]
  · simp [V.re, back, nth]
  · simp [pushObs, back, nth, Ob.re]
theorem clipS_at {n p l : Nat} {rows : List (List V)} {f : Bool} {h : Heap} {tr : List Nat} (hat : h.at? p = some (.buf 1 rows f true)) (hpn : p < n) (hb : l < 1000000000000) :
    (callV (LX T fns) n (.clo 175 []) [.ms p 1 0 l none]).run h tr = some ((.ms p 1 0 l (some l), [(p, some (.buf 1 rows f true))]), p :: tr) := by
  have := callV_one (T := T) (fns := fns) (g := 175) (fn := fn175) rfl (args := [.ms p 1 0 l none]) (caps := []) (args' := [.ms p 1 0 l none]) (args2 := [.ms 0 1 0 l none]) (u := []) (us := [(p, some (.buf 1 rows f true))]) (r := .ms 0 1 0 l (some l)) (r' := .ms p 1 0 l (some l)) (o := .buf 1 rows f true) (H := [some (.buf 1 rows f true)]) (h := h) (tr := tr) (tr' := tr) (n := n) (p := p)
    (fun K => by simp only [fn175, List.append_nil, frzArgs, List.tail]) hat rfl rfl rfl hpn (by simp [V.reAll, V.re, idx]) rfl (lim175 l rows f hb) (Nat.le_refl _) (by simp [V.re, back, nth]) (by simp [pushObs, back, nth, Ob.re])
  simpa using this
theorem insS_at {n p q l i : Nat} {kr : List V} {rows : List (List V)} {f g : Bool} {h : Heap} {tr : List Nat} (hat : h.at? p = some (.buf 1 rows f true)) (hat2 : h.at? q = some (.buf 1 [kr] g true)) (hpq : q ≠ p) (hpn : p < n) (hk : kr.length = 1) (hl : rows.length = l) (hb : l < 1000000000000) (hi : i ≤ l) :
    (callV (LX T fns) n (.clo 174 []) [.ms p 1 0 l (some l), .int .i64 i, .ms q 1 0 1 none]).run h tr = some ((.ms n 1 0 (l + 1) none, [(p, some (.buf 1 rows f true)), (n, some (.buf 1 (rows.take i ++ [kr] ++ rows.drop i) false true)), (q, some (.buf 1 [kr] true true))]), p :: q :: tr) := by
  have := callV_one (T := T) (fns := fns) (g := 174) (fn := fn174) rfl (args := [.ms p 1 0 l (some l), .int .i64 i, .ms q 1 0 1 none]) (caps := []) (args' := [.ms p 1 0 l (some l), .int .i64 i, .fz [kr]]) (args2 := [.ms 0 1 0 l (some l), .int .i64 i, .fz [kr]]) (u := [(q, some (.buf 1 [kr] true true))]) (us := [(p, some (.buf 1 rows f true)), (n, some (.buf 1 (rows.take i ++ [kr] ++ rows.drop i) false true))])
    (r := .ms 1 1 0 (l + 1) none) (r' := .ms n 1 0 (l + 1) none) (o := .buf 1 rows f true) (H := [some (.buf 1 rows f true), some (.buf 1 (rows.take i ++ [kr] ++ rows.drop i) false true)]) (h := h) (tr := tr) (tr' := q :: tr) (n := n) (p := p)
    (fun K => by
      simp only [fn174, List.append_nil, frzArgs, frz, frzAll, frzG, frzGAll, ms2, msUp, frzG, frzGAll, ms2, msUp, Rd.run, hat2, List.tail]
      rw [if_pos ⟨trivial, by simp⟩]
      simp) hat (by simp [V.allIds, V.ids]) rfl (by simp [hpq]) hpn (by simp [V.reAll, V.re, idx]) rfl (lim174 l i kr rows f hk hl hb hi) (by simp) (by simp [V.re, back, nth]) (by simp [pushObs, back, nth, Ob.re])
  simpa using this
/-! As simp sees them: the objects first. -/
open Classical in
noncomputable def clS (n p l : Nat) (c : Option Nat) (h : Heap) (tr : List Nat) (x : Option Ob) : Option ((V × Upd) × List Nat) := match x with
  | some (.buf st rows _ true) => if st = 1 ∧ l ≤ rows.length ∧ ((rows.take l).all fun r => r.length == 1) = true ∧ l < 1000000000000 then some ((.ms n 1 0 l none, [(n, some (.buf 1 (rows.take l) false true)), (p, some (.buf 1 rows true true))]), p :: tr) else (callV (LX T fns) n (.clo 129 []) [.ms p 1 0 l c]).run h tr
  | _ => (callV (LX T fns) n (.clo 129 []) [.ms p 1 0 l c]).run h tr
theorem cloneS_look {n p l : Nat} {c : Option Nat} {h : Heap} {tr : List Nat} : (callV (LX T fns) n (.clo 129 []) [.ms p 1 0 l c]).run h tr = clS n p l c h tr (h.at? p) := by
  unfold clS
  split
  · rename_i st rows f hx
    split
    · rename_i hc
      obtain ⟨rfl, h1, h2, h3⟩ := hc
      exact cloneS_at hx h1 h2 h3
    · rfl
  · rfl
theorem cloneS_got {n p l : Nat} {c : Option Nat} {h : Heap} {tr : List Nat} {rows ex : List (List V)} {f : Bool} (h1 : rows.length = l) (h2 : (rows.all fun r => r.length == 1) = true) (h3 : l < 1000000000000) :
    clS n p l c h tr (some (.buf 1 (rows ++ ex) f true)) = some ((.ms n 1 0 l none, [(n, some (.buf 1 rows false true)), (p, some (.buf 1 (rows ++ ex) true true))]), p :: tr) := by
  have e : (rows ++ ex).take l = rows := List.take_left' h1
  unfold clS
  simp only
  rw [if_pos ⟨trivial, by simp; omega, by rw [e]; exact h2, h3⟩, e]
open Classical in
noncomputable def cpS (n p l : Nat) (h : Heap) (tr : List Nat) (x : Option Ob) : Option ((V × Upd) × List Nat) := match x with
  | some (.buf st rows f true) => if st = 1 ∧ p < n ∧ l < 1000000000000 then some ((.ms p 1 0 l (some l), [(p, some (.buf 1 rows f true))]), p :: tr) else (callV (LX T fns) n (.clo 175 []) [.ms p 1 0 l none]).run h tr
  | _ => (callV (LX T fns) n (.clo 175 []) [.ms p 1 0 l none]).run h tr
theorem clipS_look {n p l : Nat} {h : Heap} {tr : List Nat} : (callV (LX T fns) n (.clo 175 []) [.ms p 1 0 l none]).run h tr = cpS n p l h tr (h.at? p) := by
  unfold cpS
  split
  · rename_i st rows f hx
    split
    · rename_i hc
      obtain ⟨rfl, h1, h2⟩ := hc
      exact clipS_at hx h1 h2
    · rfl
  · rfl
theorem clipS_got {n p l : Nat} {h : Heap} {tr : List Nat} {rows : List (List V)} {f : Bool} (h1 : p < n) (h3 : l < 1000000000000) :
    cpS n p l h tr (some (.buf 1 rows f true)) = some ((.ms p 1 0 l (some l), [(p, some (.buf 1 rows f true))]), p :: tr) := by
  unfold cpS
  simp only
  rw [if_pos ⟨trivial, h1, h3⟩]
open Classical in
noncomputable def inS (n p q l i : Nat) (h : Heap) (tr : List Nat) (x y : Option Ob) : Option ((V × Upd) × List Nat) := match x, y with
  | some (.buf st rows f true), some (.buf st2 [kr] g true) => if st = 1 ∧ st2 = 1 ∧ q ≠ p ∧ p < n ∧ kr.length = 1 ∧ rows.length = l ∧ l < 1000000000000 ∧ i ≤ l then
      some ((.ms n 1 0 (l + 1) none, [(p, some (.buf 1 rows f true)), (n, some (.buf 1 (rows.take i ++ [kr] ++ rows.drop i) false true)), (q, some (.buf 1 [kr] true true))]), p :: q :: tr) else (callV (LX T fns) n (.clo 174 []) [.ms p 1 0 l (some l), .int .i64 i, .ms q 1 0 1 none]).run h tr
  | _, _ => (callV (LX T fns) n (.clo 174 []) [.ms p 1 0 l (some l), .int .i64 i, .ms q 1 0 1 none]).run h tr
theorem insS_look {n p q l i : Nat} {h : Heap} {tr : List Nat} : (callV (LX T fns) n (.clo 174 []) [.ms p 1 0 l (some l), .int .i64 i, .ms q 1 0 1 none]).run h tr = inS n p q l i h tr (h.at? p) (h.at? q) := by
  unfold inS
  split
  · rename_i st rows f st2 kr g hx hy
    split
    · rename_i hc
      obtain ⟨rfl, rfl, h1, h2, h3, h4, h5, h6⟩ := hc
      exact insS_at hx hy h1 h2 h3 h4 h5 h6
    · rfl
  · rfl
theorem insS_got {n p q l i : Nat} {h : Heap} {tr : List Nat} {rows : List (List V)} {kr : List V} {f g : Bool} (h1 : q ≠ p) (h2 : p < n) (h3 : kr.length = 1) (h4 : rows.length = l) (h5 : l < 1000000000000) (h6 : i ≤ l) :
    inS n p q l i h tr (some (.buf 1 rows f true)) (some (.buf 1 [kr] g true)) = some ((.ms n 1 0 (l + 1) none, [(p, some (.buf 1 rows f true)), (n, some (.buf 1 (insAt i kr rows) false true)), (q, some (.buf 1 [kr] true true))]), p :: q :: tr) := by
  unfold inS
  exact if_pos ⟨rfl, rfl, h1, h2, h3, h4, h5, h6⟩
attribute [go_sem] cloneC_look cloneC_got clipC_look clipC_got insC_look insC_got cloneS_look cloneS_got clipS_look clipS_got insS_look insS_got
end Go.Proofs.YtoggbcckkjfkhaaGreat.R.Vol
/- Chapter 31's laws: a key put into a map. (printed by mk31.py out of t31f.txt) -/
namespace Go.Proofs.YtoggbcckkjfkhaaGreat.R.Vol
open Go Go.Proofs
set_option linter.unusedSimpArgs false
set_option linter.unusedVariables false
set_option maxRecDepth 10000
set_option maxHeartbeats 4000000

theorem insAt_map {α β : Type} {f : α → β} {i : Nat} {x : α} {l : List α} : insAt i (f x) (l.map f) = (insAt i x l).map f := by
  unfold insAt
  simp only [List.map_append, List.map_cons, List.map_nil, List.map_take, List.map_drop]
theorem insAt_str {i : Nat} {x : ByteArray} {l : List ByteArray} : insAt i [V.str x] (l.map Cd.str.enc) = (insAt i x l).map Cd.str.enc := insAt_map (f := Cd.str.enc)
theorem insAt_151 {i : Nat} {x : S57} {l : List S57} : insAt i [V.str x.f0, .int .u32 x.f1, .int .u16 x.f2] (l.map k57.enc) = (insAt i x l).map k57.enc := insAt_map (f := k57.enc)
theorem enc_len_C (x : S57) : ([V.str x.f0, .int .u32 x.f1, .int .u16 x.f2] : List V).length = 3 := rfl
theorem lim120_new (k : ByteArray) (c : S57) (ks : List ByteArray) (vs : List S57) (ex ey : List (List V)) (f g : Bool) (hr : risesK ks = true) (hl : ks.length < 1000000000) (hv : vs.length = ks.length) (hb : hasB k ks = false) : lim T fns 120 [.ptr 0 0 0, .str k, valC c] [mobC 1 2 ks.length, kob ks ex f, vobC vs ey g] =
    some (.bool true, [some (mobC 3 4 (ks.length + 1)), some (kob ks ex true), some (vobC vs ey true), some (kob (insAt (posB k ks) k ks) [] false), some (vobC (insAt (posB k ks) c vs) [] false)]) := by
  refine fn_rule (fn := fn120) rfl rfl (by simp [fn120]) ?_
  unfold fn120
  simp only [Tryz.f120, Option.getD_some, argEnv, List.map_nil, List.length_nil]
  have hc := fun (n : Nat) (hn : 3 ≤ n) (rest : Heap) => call123 k ks vs ex ey f g hr (by omega) n hn rest
  have hp := posB_le k ks
  have hl12 : ks.length < 1000000000000 := by omega
  rw [hb] at hc
  simp only [mobC, kob, vobC, List.append_nil] at hc ⊢
  simp only [go_sem, T_1, T_3, T_9, T_26, T_47, T_54, T_55, T_57, T_142, T_208, hc, eqPC, nilCheckR, extractR, hv, hp, hl12, valC, k57_enc, all_str, all57, insAt_str, insAt_151, buildSliceR, fillR, List.replicate, List.set_cons_zero, ne_eq, Nat.reduceEqDiff]
  repeat (refine ⟨by kernel_rfl, ?_⟩)
  show _ = _
  kernel_rfl
theorem lim120_old (k : ByteArray) (c : S57) (ks : List ByteArray) (vs : List S57) (ex ey : List (List V)) (f g : Bool) (hr : risesK ks = true) (hl : ks.length < 1000000000) (hv : vs.length = ks.length) (hb : hasB k ks = true) : lim T fns 120 [.ptr 0 0 0, .str k, valC c] [mobC 1 2 ks.length, kob ks ex f, vobC vs ey g] =
    some (.bool false, [some (mobC 1 3 ks.length), some (kob ks ex f), some (vobC vs ey true), some (vobC (vs.set (posB k ks) c) [] false)]) := by
  refine fn_rule (fn := fn120) rfl rfl (by simp [fn120]) ?_
  unfold fn120
  simp only [Tryz.f120, Option.getD_some, argEnv, List.map_nil, List.length_nil]
  have hc := fun (n : Nat) (hn : 3 ≤ n) (rest : Heap) => call123 k ks vs ex ey f g hr (by omega) n hn rest
  have hp2 := hasB_lt hb
  have hp : posB k ks < vs.length := by omega
  have hl12 : ks.length < 1000000000000 := by omega
  have hx : vs[posB k ks]? = some vs[posB k ks] := List.getElem?_eq_getElem hp
  rw [hb] at hc
  simp only [mobC, kob, vobC, List.append_nil] at hc ⊢
  simp only [go_sem, T_1, T_3, T_9, T_26, T_47, T_54, T_55, T_57, T_142, T_208, hc, eqPC, nilCheckR, extractR, hv, hp, hp2, hl12, hx, valC, k57_enc, all_str, all57, ne_eq, Nat.reduceEqDiff]
  repeat (refine ⟨by kernel_rfl, ?_⟩)
  rw [show [V.str c.f0, .int .u32 c.f1, .int .u16 c.f2] = k57.enc c from rfl, ← List.map_set]
  show _ = _
  kernel_rfl
theorem call120_new (k : ByteArray) (c : S57) (ks : List ByteArray) (vs : List S57) (ex ey : List (List V)) (f g : Bool) (hr : risesK ks = true) (hl : ks.length < 1000000000) (hv : vs.length = ks.length) (hb : hasB k ks = false) (n : Nat) (hn : 3 ≤ n) (rest : Heap) :
    (callV (LX T fns) n (.clo 120 []) [.ptr 0 0 0, .str k, valC c]).run (some (mobC 1 2 ks.length) :: some (kob ks ex f) :: some (vobC vs ey g) :: rest) [] =
    some ((.bool true, [(0, some (mobC n (n + 1) (ks.length + 1))), (1, some (kob ks ex true)), (2, some (vobC vs ey true)), (n, some (kob (insAt (posB k ks) k ks) [] false)), (n + 1, some (vobC (insAt (posB k ks) c vs) [] false))]), [2, 1, 0]) := by
  have h := lim120_new k c ks vs ex ey f g hr hl hv hb
  simp only [mobC, kob, vobC, valC, k57_enc, List.append_nil] at h ⊢
  have hf : fns 120 = some fn120 := rfl
  unfold callV
  simp only [hf]
  unfold callR
  simp only [fn120, List.cons_append, List.nil_append, List.append_nil, frzArgs, frz, frzAll, frzG, frzGAll, ms2, msUp, List.tail]
  simp only [V.allIds, V.ids, List.append_nil, List.nil_append, collect, List.map_nil, List.contains_nil, Bool.false_eq_true, if_false, Rd.run, Heap.at?, Ob.ids, rowsIds, List.map_cons, List.cons_append, List.contains_cons, Nat.reduceBEq, Bool.or_self, Bool.or_false, Bool.false_or, Bool.or_true, Bool.true_or, if_true]
  unfold withR
  simp only [List.map_cons, List.map_nil, upd1, List.all_nil, List.all_cons, show 0 < n by omega, show 1 < n by omega, show 2 < n by omega, decide_true, Bool.and_self, if_true, V.reAll, V.re, idx, Nat.beq, cond_true, cond_false, Option.bind_some, Option.map_some, pullObs, Ob.re, reRows, Nat.reduceAdd, h, List.length_cons, List.length_nil, Nat.le_refl]
  unfold afterR
  simp only [V.re, V.reAll, pushObs, back, nth, Ob.re, reRows, Option.bind_some, Option.map_some, List.isEmpty_cons, Bool.false_and, Bool.false_eq_true, if_false, Rd.run, List.append_nil, Nat.reduceAdd]
  simp only [List.length_cons, List.length_nil, Nat.zero_add, Nat.reduceAdd, Nat.reduceLT, Nat.reduceLeDiff, if_true, Option.map_some, Option.bind_some, Nat.reduceSub, Nat.sub_self, Nat.add_zero]
  show _ = _
  kernel_rfl
theorem call120_old (k : ByteArray) (c : S57) (ks : List ByteArray) (vs : List S57) (ex ey : List (List V)) (f g : Bool) (hr : risesK ks = true) (hl : ks.length < 1000000000) (hv : vs.length = ks.length) (hb : hasB k ks = true) (n : Nat) (hn : 3 ≤ n) (rest : Heap) :
    (callV (LX T fns) n (.clo 120 []) [.ptr 0 0 0, .str k, valC c]).run (some (mobC 1 2 ks.length) :: some (kob ks ex f) :: some (vobC vs ey g) :: rest) [] =
    some ((.bool false, [(0, some (mobC 1 n ks.length)), (1, some (kob ks ex f)), (2, some (vobC vs ey true)), (n, some (vobC (vs.set (posB k ks) c) [] false))]), [2, 1, 0]) := by
  have h := lim120_old k c ks vs ex ey f g hr hl hv hb
  simp only [mobC, kob, vobC, valC, k57_enc, List.append_nil] at h ⊢
  have hf : fns 120 = some fn120 := rfl
  unfold callV
  simp only [hf]
  unfold callR
  simp only [fn120, List.cons_append, List.nil_append, List.append_nil, frzArgs, frz, frzAll, frzG, frzGAll, ms2, msUp, List.tail]
  simp only [V.allIds, V.ids, List.append_nil, List.nil_append, collect, List.map_nil, List.contains_nil, Bool.false_eq_true, if_false, Rd.run, Heap.at?, Ob.ids, rowsIds, List.map_cons, List.cons_append, List.contains_cons, Nat.reduceBEq, Bool.or_self, Bool.or_false, Bool.false_or, Bool.or_true, Bool.true_or, if_true]
  unfold withR
  simp only [List.map_cons, List.map_nil, upd1, List.all_nil, List.all_cons, show 0 < n by omega, show 1 < n by omega, show 2 < n by omega, decide_true, Bool.and_self, if_true, V.reAll, V.re, idx, Nat.beq, cond_true, cond_false, Option.bind_some, Option.map_some, pullObs, Ob.re, reRows, Nat.reduceAdd, h, List.length_cons, List.length_nil, Nat.le_refl]
  unfold afterR
  simp only [V.re, V.reAll, pushObs, back, nth, Ob.re, reRows, Option.bind_some, Option.map_some, List.isEmpty_cons, Bool.false_and, Bool.false_eq_true, if_false, Rd.run, List.append_nil, Nat.reduceAdd]
  simp only [List.length_cons, List.length_nil, Nat.zero_add, Nat.reduceAdd, Nat.reduceLT, Nat.reduceLeDiff, if_true, Option.map_some, Option.bind_some, Nat.reduceSub, Nat.sub_self, Nat.add_zero]
  show _ = _
  kernel_rfl
theorem lim210_new (k : ByteArray) (c : ByteArray) (ks : List ByteArray) (vs : List ByteArray) (ex ey : List (List V)) (f g : Bool) (hr : risesK ks = true) (hl : ks.length < 1000000000) (hv : vs.length = ks.length) (hb : hasB k ks = false) : lim T fns 210 [.ptr 0 0 0, .str k, valS c] [mobS 1 2 ks.length, kob ks ex f, vobS vs ey g] =
    some (.bool true, [some (mobS 3 4 (ks.length + 1)), some (kob ks ex true), some (vobS vs ey true), some (kob (insAt (posB k ks) k ks) [] false), some (vobS (insAt (posB k ks) c vs) [] false)]) := by
  refine fn_rule (fn := fn210) rfl rfl (by simp [fn210]) ?_
  unfold fn210
  simp only [Tryz.f210, Option.getD_some, argEnv, List.map_nil, List.length_nil]
  have hc := fun (n : Nat) (hn : 3 ≤ n) (rest : Heap) => call259 k ks vs ex ey f g hr (by omega) n hn rest
  have hp := posB_le k ks
  have hl12 : ks.length < 1000000000000 := by omega
  rw [hb] at hc
  simp only [mobS, kob, vobS, List.append_nil] at hc ⊢
  simp only [go_sem, T_1, T_3, T_9, T_47, T_290, T_337, hc, eqPS, nilCheckR, extractR, hv, hp, hl12, valS, all_str, insAt_str, buildSliceR, fillR, List.replicate, List.set_cons_zero, ne_eq, Nat.reduceEqDiff]
  repeat (refine ⟨by kernel_rfl, ?_⟩)
  show _ = _
  kernel_rfl
theorem lim210_old (k : ByteArray) (c : ByteArray) (ks : List ByteArray) (vs : List ByteArray) (ex ey : List (List V)) (f g : Bool) (hr : risesK ks = true) (hl : ks.length < 1000000000) (hv : vs.length = ks.length) (hb : hasB k ks = true) : lim T fns 210 [.ptr 0 0 0, .str k, valS c] [mobS 1 2 ks.length, kob ks ex f, vobS vs ey g] =
    some (.bool false, [some (mobS 1 3 ks.length), some (kob ks ex f), some (vobS vs ey true), some (vobS (vs.set (posB k ks) c) [] false)]) := by
  refine fn_rule (fn := fn210) rfl rfl (by simp [fn210]) ?_
  unfold fn210
  simp only [Tryz.f210, Option.getD_some, argEnv, List.map_nil, List.length_nil]
  have hc := fun (n : Nat) (hn : 3 ≤ n) (rest : Heap) => call259 k ks vs ex ey f g hr (by omega) n hn rest
  have hp2 := hasB_lt hb
  have hp : posB k ks < vs.length := by omega
  have hl12 : ks.length < 1000000000000 := by omega
  have hx : vs[posB k ks]? = some vs[posB k ks] := List.getElem?_eq_getElem hp
  rw [hb] at hc
  simp only [mobS, kob, vobS, List.append_nil] at hc ⊢
  simp only [go_sem, T_1, T_3, T_9, T_47, T_290, T_337, hc, eqPS, nilCheckR, extractR, hv, hp, hp2, hl12, hx, valS, all_str, ne_eq, Nat.reduceEqDiff]
  repeat (refine ⟨by kernel_rfl, ?_⟩)
  rw [show [V.str c] = Cd.str.enc c from rfl, ← List.map_set]
  show _ = _
  kernel_rfl
theorem call210_new (k : ByteArray) (c : ByteArray) (ks : List ByteArray) (vs : List ByteArray) (ex ey : List (List V)) (f g : Bool) (hr : risesK ks = true) (hl : ks.length < 1000000000) (hv : vs.length = ks.length) (hb : hasB k ks = false) (n : Nat) (hn : 3 ≤ n) (rest : Heap) :
    (callV (LX T fns) n (.clo 210 []) [.ptr 0 0 0, .str k, valS c]).run (some (mobS 1 2 ks.length) :: some (kob ks ex f) :: some (vobS vs ey g) :: rest) [] =
    some ((.bool true, [(0, some (mobS n (n + 1) (ks.length + 1))), (1, some (kob ks ex true)), (2, some (vobS vs ey true)), (n, some (kob (insAt (posB k ks) k ks) [] false)), (n + 1, some (vobS (insAt (posB k ks) c vs) [] false))]), [2, 1, 0]) := by
  have h := lim210_new k c ks vs ex ey f g hr hl hv hb
  simp only [mobS, kob, vobS, valS, List.append_nil] at h ⊢
  have hf : fns 210 = some fn210 := rfl
  unfold callV
  simp only [hf]
  unfold callR
  simp only [fn210, List.cons_append, List.nil_append, List.append_nil, frzArgs, frz, frzAll, frzG, frzGAll, ms2, msUp, List.tail]
  simp only [V.allIds, V.ids, List.append_nil, List.nil_append, collect, List.map_nil, List.contains_nil, Bool.false_eq_true, if_false, Rd.run, Heap.at?, Ob.ids, rowsIds, List.map_cons, List.cons_append, List.contains_cons, Nat.reduceBEq, Bool.or_self, Bool.or_false, Bool.false_or, Bool.or_true, Bool.true_or, if_true]
  unfold withR
  simp only [List.map_cons, List.map_nil, upd1, List.all_nil, List.all_cons, show 0 < n by omega, show 1 < n by omega, show 2 < n by omega, decide_true, Bool.and_self, if_true, V.reAll, V.re, idx, Nat.beq, cond_true, cond_false, Option.bind_some, Option.map_some, pullObs, Ob.re, reRows, Nat.reduceAdd, h, List.length_cons, List.length_nil, Nat.le_refl]
  unfold afterR
  simp only [V.re, V.reAll, pushObs, back, nth, Ob.re, reRows, Option.bind_some, Option.map_some, List.isEmpty_cons, Bool.false_and, Bool.false_eq_true, if_false, Rd.run, List.append_nil, Nat.reduceAdd]
  simp only [List.length_cons, List.length_nil, Nat.zero_add, Nat.reduceAdd, Nat.reduceLT, Nat.reduceLeDiff, if_true, Option.map_some, Option.bind_some, Nat.reduceSub, Nat.sub_self, Nat.add_zero]
  show _ = _
  kernel_rfl
theorem call210_old (k : ByteArray) (c : ByteArray) (ks : List ByteArray) (vs : List ByteArray) (ex ey : List (List V)) (f g : Bool) (hr : risesK ks = true) (hl : ks.length < 1000000000) (hv : vs.length = ks.length) (hb : hasB k ks = true) (n : Nat) (hn : 3 ≤ n) (rest : Heap) :
    (callV (LX T fns) n (.clo 210 []) [.ptr 0 0 0, .str k, valS c]).run (some (mobS 1 2 ks.length) :: some (kob ks ex f) :: some (vobS vs ey g) :: rest) [] =
    some ((.bool false, [(0, some (mobS 1 n ks.length)), (1, some (kob ks ex f)), (2, some (vobS vs ey true)), (n, some (vobS (vs.set (posB k ks) c) [] false))]), [2, 1, 0]) := by
  have h := lim210_old k c ks vs ex ey f g hr hl hv hb
  simp only [mobS, kob, vobS, valS, List.append_nil] at h ⊢
  have hf : fns 210 = some fn210 := rfl
  unfold callV
  simp only [hf]
  unfold callR
  simp only [fn210, List.cons_append, List.nil_append, List.append_nil, frzArgs, frz, frzAll, frzG, frzGAll, ms2, msUp, List.tail]
  simp only [V.allIds, V.ids, List.append_nil, List.nil_append, collect, List.map_nil, List.contains_nil, Bool.false_eq_true, if_false, Rd.run, Heap.at?, Ob.ids, rowsIds, List.map_cons, List.cons_append, List.contains_cons, Nat.reduceBEq, Bool.or_self, Bool.or_false, Bool.false_or, Bool.or_true, Bool.true_or, if_true]
  unfold withR
  simp only [List.map_cons, List.map_nil, upd1, List.all_nil, List.all_cons, show 0 < n by omega, show 1 < n by omega, show 2 < n by omega, decide_true, Bool.and_self, if_true, V.reAll, V.re, idx, Nat.beq, cond_true, cond_false, Option.bind_some, Option.map_some, pullObs, Ob.re, reRows, Nat.reduceAdd, h, List.length_cons, List.length_nil, Nat.le_refl]
  unfold afterR
  simp only [V.re, V.reAll, pushObs, back, nth, Ob.re, reRows, Option.bind_some, Option.map_some, List.isEmpty_cons, Bool.false_and, Bool.false_eq_true, if_false, Rd.run, List.append_nil, Nat.reduceAdd]
  simp only [List.length_cons, List.length_nil, Nat.zero_add, Nat.reduceAdd, Nat.reduceLT, Nat.reduceLeDiff, if_true, Option.map_some, Option.bind_some, Nat.reduceSub, Nat.sub_self, Nat.add_zero]
  show _ = _
  kernel_rfl
end Go.Proofs.YtoggbcckkjfkhaaGreat.R.Vol
/- The catalog (cat): what it has, what it asks. -/
namespace Go.Proofs.YtoggbcckkjfkhaaGreat.R.Vol
open Go Go.Proofs
set_option linter.unusedSimpArgs false
set_option linter.unusedVariables false
set_option maxRecDepth 10000
set_option maxHeartbeats 4000000
def catO (i : Nat) : Ob := .buf 1 [[.ptr i 0 0]] false false
theorem lim140 (s : ByteArray) : lim T fns 140 [.str s] [] = some (.bool (decide (1 ≤ s.size) && decide (s.size ≤ 16)), []) := by
  refine fn_rule (fn := fn140) rfl rfl (by simp [fn140]) ?_
  unfold fn140
  simp only [Tryz.f140, Option.getD_some, argEnv, List.map_nil, List.length_nil]
  by_cases h1 : 1 ≤ s.size
  · have e1 : ((s.size : Int) ≥ 1) = True := by simp; omega
    by_cases h2 : s.size ≤ 16
    · have e2 : ((s.size : Int) ≤ 16) = True := by simp; omega
      simp only [go_sem, T_3, T_9, e1, e2, h1, h2]
    · have e2 : ((s.size : Int) ≤ 16) = False := by simp; omega
      simp only [go_sem, T_3, T_9, e1, e2, h1, h2]
  · have e1 : ((s.size : Int) ≥ 1) = False := by simp; omega
    simp only [go_sem, T_3, T_9, e1, h1]
theorem call140 (s : ByteArray) (n : Nat) : callV (LX T fns) n (.clo 140 []) [.str s] = .pure (.bool (decide (1 ≤ s.size) && decide (s.size ≤ 16)), []) := callV_plain (fn := fn140) rfl rfl rfl (lim140 s) n
theorem lim141 (n : Nat) (ks : List ByteArray) (vs : List S57) (ex ey : List (List V)) (f g : Bool) : lim T fns 141 [.ptr 0 0 0] [mobC 1 2 n, kob ks ex f, vobC vs ey g] =
    some (.int .i64 n, [some (mobC 1 2 n), some (kob ks ex f), some (vobC vs ey g)]) := by
  refine fn_rule (fn := fn141) rfl rfl (by simp [fn141]) ?_
  unfold fn141
  simp only [Tryz.f141, Option.getD_some, argEnv, List.map_nil, List.length_nil]
  simp only [mobC, kob, vobC]
  simp only [go_sem, T_9, T_26, T_47, T_54, T_55, T_57, T_142, T_208, eqPC, nilCheckR]
  show _ = _
  kernel_rfl
theorem call141_1 (m : Nat) (ks : List ByteArray) (vs : List S57) (ex ey : List (List V)) (f g : Bool) (n : Nat) (hn : 4 ≤ n) (o0 : Option Ob) (rest : Heap) : (callV (LX T fns) n (.clo 141 []) [.ptr 1 0 0]).run (o0 :: some (mobC 2 3 m) :: some (kob ks ex f) :: some (vobC vs ey g) :: rest) [] =
    some ((.int .i64 m, [(1, some (mobC 2 3 m)), (2, some (kob ks ex f)), (3, some (vobC vs ey g))]), [3, 2, 1]) := by
  have h := lim141 m ks vs ex ey f g
  simp only [mobC, kob, vobC] at h ⊢
  have hf : fns 141 = some fn141 := rfl
  unfold callV
  simp only [hf]
  unfold callR
  simp only [fn141, List.cons_append, List.nil_append, List.append_nil, frzArgs, frz, frzAll, frzG, frzGAll, ms2, msUp, List.tail]
  simp only [V.allIds, V.ids, List.append_nil, List.nil_append, collect, List.map_nil, List.contains_nil, Bool.false_eq_true, if_false, Rd.run, Heap.at?, Ob.ids, rowsIds, List.map_cons, List.cons_append, List.contains_cons, Nat.reduceBEq, Bool.or_self, Bool.or_false, Bool.false_or, Bool.or_true, Bool.true_or, if_true]
  unfold withR
  simp only [List.map_cons, List.map_nil, upd1, List.all_nil, List.all_cons, show 1 < n by omega, show 2 < n by omega, show 3 < n by omega, decide_true, Bool.and_self, if_true, V.reAll, V.re, idx, Nat.beq, cond_true, cond_false, Option.bind_some, Option.map_some, pullObs, Ob.re, reRows, Nat.reduceAdd, h, List.length_cons, List.length_nil, Nat.le_refl]
  unfold afterR
  simp only [V.re, V.reAll, pushObs, back, nth, Ob.re, reRows, Option.bind_some, Option.map_some, List.isEmpty_cons, Bool.false_and, Bool.false_eq_true, if_false, Rd.run, List.append_nil, Nat.reduceAdd]
theorem call75_1 (k : ByteArray) (ks : List ByteArray) (vs : List S57) (ex ey : List (List V)) (f g : Bool) (hr : risesK ks = true) (hl : ks.length < 1000000000000) (hv : vs.length = ks.length) (n : Nat) (hn : 4 ≤ n) (o0 : Option Ob) (rest : Heap) :
    (callV (LX T fns) n (.clo 75 []) [.ptr 1 0 0, .str k]).run (o0 :: some (mobC 2 3 ks.length) :: some (kob ks ex f) :: some (vobC vs ey g) :: rest) [] =
    some ((.tup [valC (getM zC k ks vs), .bool (hasB k ks)], [(1, some (mobC 2 3 ks.length)), (2, some (kob ks ex f)), (3, some (vobC vs ey g))]), [3, 2, 1]) := by
  have h := lim75 k ks vs ex ey f g hr hl hv
  simp only [mobC, kob, vobC, valC, k57_enc] at h ⊢
  have hf : fns 75 = some fn75 := rfl
  unfold callV
  simp only [hf]
  unfold callR
  simp only [fn75, List.cons_append, List.nil_append, List.append_nil, frzArgs, frz, frzAll, frzG, frzGAll, ms2, msUp, List.tail]
  simp only [V.allIds, V.ids, List.append_nil, List.nil_append, collect, List.map_nil, List.contains_nil, Bool.false_eq_true, if_false, Rd.run, Heap.at?, Ob.ids, rowsIds, List.map_cons, List.cons_append, List.contains_cons, Nat.reduceBEq, Bool.or_self, Bool.or_false, Bool.false_or, Bool.or_true, Bool.true_or, if_true]
  unfold withR
  simp only [List.map_cons, List.map_nil, upd1, List.all_nil, List.all_cons, show 1 < n by omega, show 2 < n by omega, show 3 < n by omega, decide_true, Bool.and_self, if_true, V.reAll, V.re, idx, Nat.beq, cond_true, cond_false, Option.bind_some, Option.map_some, pullObs, Ob.re, reRows, Nat.reduceAdd, h, List.length_cons, List.length_nil, Nat.le_refl]
  unfold afterR
  simp only [V.re, V.reAll, pushObs, back, nth, Ob.re, reRows, Option.bind_some, Option.map_some, List.isEmpty_cons, Bool.false_and, Bool.false_eq_true, if_false, Rd.run, List.append_nil, Nat.reduceAdd]
theorem eqPcat (i r o : Nat) : eqV T 85 (.ptr i r o) .nilp = some false := by
  unfold eqV
  rw [T_85]
theorem lim40 (k : ByteArray) (ks : List ByteArray) (vs : List S57) (ex ey : List (List V)) (f g : Bool) (hr : risesK ks = true) (hl : ks.length < 1000000000000) (hv : vs.length = ks.length) : lim T fns 40 [.ptr 0 0 0, .str k] [catO 1, mobC 2 3 ks.length, kob ks ex f, vobC vs ey g] =
    some (.tup [valC (getM zC k ks vs), .bool (hasB k ks)], [some (catO 1), some (mobC 2 3 ks.length), some (kob ks ex f), some (vobC vs ey g)]) := by
  refine fn_rule (fn := fn40) rfl rfl (by simp [fn40]) ?_
  unfold fn40
  simp only [Tryz.f40, Option.getD_some, argEnv, List.map_nil, List.length_nil]
  have hc := fun (n : Nat) (hn : 4 ≤ n) (o0 : Option Ob) (rest : Heap) => call75_1 k ks vs ex ey f g hr hl hv n hn o0 rest
  simp only [catO, mobC, kob, vobC, valC, k57_enc] at hc ⊢
  simp only [go_sem, T_9, T_54, T_55, T_57, T_85, T_142, T_144, hc, eqPcat, nilCheckR, extractR]
  show _ = _
  kernel_rfl
theorem call40 (k : ByteArray) (ks : List ByteArray) (vs : List S57) (ex ey : List (List V)) (f g : Bool) (hr : risesK ks = true) (hl : ks.length < 1000000000000) (hv : vs.length = ks.length) (n : Nat) (hn : 4 ≤ n) (rest : Heap) :
    (callV (LX T fns) n (.clo 40 []) [.ptr 0 0 0, .str k]).run (some (catO 1) :: some (mobC 2 3 ks.length) :: some (kob ks ex f) :: some (vobC vs ey g) :: rest) [] =
    some ((.tup [valC (getM zC k ks vs), .bool (hasB k ks)], [(0, some (catO 1)), (1, some (mobC 2 3 ks.length)), (2, some (kob ks ex f)), (3, some (vobC vs ey g))]), [3, 2, 1, 0]) := by
  have h := lim40 k ks vs ex ey f g hr hl hv
  simp only [catO, mobC, kob, vobC, valC, k57_enc] at h ⊢
  have hf : fns 40 = some fn40 := rfl
  unfold callV
  simp only [hf]
  unfold callR
  simp only [fn40, List.cons_append, List.nil_append, List.append_nil, frzArgs, frz, frzAll, frzG, frzGAll, ms2, msUp, List.tail]
  simp only [V.allIds, V.ids, List.append_nil, List.nil_append, collect, List.map_nil, List.contains_nil, Bool.false_eq_true, if_false, Rd.run, Heap.at?, Ob.ids, rowsIds, List.map_cons, List.cons_append, List.contains_cons, Nat.reduceBEq, Bool.or_self, Bool.or_false, Bool.false_or, Bool.or_true, Bool.true_or, if_true]
  unfold withR
  simp only [List.map_cons, List.map_nil, upd1, List.all_nil, List.all_cons, show 0 < n by omega, show 1 < n by omega, show 2 < n by omega, show 3 < n by omega, decide_true, Bool.and_self, if_true, V.reAll, V.re, idx, Nat.beq, cond_true, cond_false, Option.bind_some, Option.map_some, pullObs, Ob.re, reRows, Nat.reduceAdd, h, List.length_cons, List.length_nil, Nat.le_refl]
  unfold afterR
  simp only [V.re, V.reAll, pushObs, back, nth, Ob.re, reRows, Option.bind_some, Option.map_some, List.isEmpty_cons, Bool.false_and, Bool.false_eq_true, if_false, Rd.run, List.append_nil, Nat.reduceAdd]
end Go.Proofs.YtoggbcckkjfkhaaGreat.R.Vol
/- The catalog (cat): asked, added to. -/
namespace Go.Proofs.YtoggbcckkjfkhaaGreat.R.Vol
open Go Go.Proofs
set_option linter.unusedSimpArgs false
set_option linter.unusedVariables false
set_option maxRecDepth 10000
set_option maxHeartbeats 4000000
/-- Why a name can't be added. -/
def asks (k : ByteArray) (ks : List ByteArray) : Int := if ¬ (1 ≤ k.size ∧ k.size ≤ 16) then 10 else if hasB k ks = true then 12 else if ks.length = 16 then 13 else 0
theorem lim87 (k : ByteArray) (ks : List ByteArray) (vs : List S57) (ex ey : List (List V)) (f g : Bool) (hr : risesK ks = true) (hl : ks.length < 1000000000000) (hv : vs.length = ks.length) : lim T fns 87 [.ptr 0 0 0, .str k] [catO 1, mobC 2 3 ks.length, kob ks ex f, vobC vs ey g] =
    some (.int .i64 (asks k ks), [some (catO 1), some (mobC 2 3 ks.length), some (kob ks ex f), some (vobC vs ey g)]) := by
  refine fn_rule (fn := fn87) rfl rfl (by simp [fn87]) ?_
  unfold fn87
  simp only [Tryz.f87, Option.getD_some, argEnv, List.map_nil, List.length_nil]
  have hc := fun (n : Nat) (hn : 4 ≤ n) (rest : Heap) => call40 k ks vs ex ey f g hr hl hv n hn rest
  have hn := fun (n : Nat) (hn : 4 ≤ n) (o0 : Option Ob) (rest : Heap) => call141_1 ks.length ks vs ex ey f g n hn o0 rest
  have hm := call140 k
  unfold asks
  by_cases h1 : 1 ≤ k.size ∧ k.size ≤ 16
  · rw [if_neg (fun h => h h1)]
    have e1 : (decide (1 ≤ k.size) && decide (k.size ≤ 16)) = true := by simp [h1]
    rw [e1] at hm
    cases hb : hasB k ks with
    | true =>
      rw [hb] at hc
      simp only [catO, mobC, kob, vobC, valC, k57_enc] at hc hn ⊢
      simp only [go_sem, T_3, T_4, T_9, T_54, T_55, T_57, T_85, T_142, T_144, hc, hm, eqPcat, nilCheckR, extractR]
      show _ = _
      kernel_rfl
    | false =>
      rw [hb] at hc
      simp only [catO, mobC, kob, vobC, valC, k57_enc] at hc hn ⊢
      by_cases h16 : ks.length = 16
      · have e16 : ((ks.length : Int) = 16) = True := by simp; omega
        rw [if_neg (by simp), if_pos h16]
        simp only [go_sem, T_3, T_4, T_9, T_54, T_55, T_57, T_85, T_142, T_144, hc, hm, hn, eqPcat, nilCheckR, extractR, e16]
        show _ = _
        kernel_rfl
      · have e16 : ((ks.length : Int) = 16) = False := by simp; omega
        rw [if_neg (by simp), if_neg h16]
        simp only [go_sem, T_3, T_4, T_9, T_54, T_55, T_57, T_85, T_142, T_144, hc, hm, hn, eqPcat, nilCheckR, extractR, e16]
        show _ = _
        kernel_rfl
  · rw [if_pos h1]
    have e1 : (decide (1 ≤ k.size) && decide (k.size ≤ 16)) = false := by
      rw [Bool.and_eq_false_iff]
      simp only [decide_eq_false_iff_not]
      omega
    rw [e1] at hm
    simp only [catO, mobC, kob, vobC, valC, k57_enc] at hc hn ⊢
    simp only [go_sem, T_3, T_4, T_9, T_54, T_55, T_57, T_85, T_142, T_144, hc, hm, eqPcat, nilCheckR, extractR]
    show _ = _
    kernel_rfl
theorem call87 (k : ByteArray) (ks : List ByteArray) (vs : List S57) (ex ey : List (List V)) (f g : Bool) (hr : risesK ks = true) (hl : ks.length < 1000000000000) (hv : vs.length = ks.length) (n : Nat) (hn : 4 ≤ n) (rest : Heap) :
    (callV (LX T fns) n (.clo 87 []) [.ptr 0 0 0, .str k]).run (some (catO 1) :: some (mobC 2 3 ks.length) :: some (kob ks ex f) :: some (vobC vs ey g) :: rest) [] =
    some ((.int .i64 (asks k ks), [(0, some (catO 1)), (1, some (mobC 2 3 ks.length)), (2, some (kob ks ex f)), (3, some (vobC vs ey g))]), [3, 2, 1, 0]) := by
  have h := lim87 k ks vs ex ey f g hr hl hv
  simp only [catO, mobC, kob, vobC, valC, k57_enc] at h ⊢
  have hf : fns 87 = some fn87 := rfl
  unfold callV
  simp only [hf]
  unfold callR
  simp only [fn87, List.cons_append, List.nil_append, List.append_nil, frzArgs, frz, frzAll, frzG, frzGAll, ms2, msUp, List.tail]
  simp only [V.allIds, V.ids, List.append_nil, List.nil_append, collect, List.map_nil, List.contains_nil, Bool.false_eq_true, if_false, Rd.run, Heap.at?, Ob.ids, rowsIds, List.map_cons, List.cons_append, List.contains_cons, Nat.reduceBEq, Bool.or_self, Bool.or_false, Bool.false_or, Bool.or_true, Bool.true_or, if_true]
  unfold withR
  simp only [List.map_cons, List.map_nil, upd1, List.all_nil, List.all_cons, show 0 < n by omega, show 1 < n by omega, show 2 < n by omega, show 3 < n by omega, decide_true, Bool.and_self, if_true, V.reAll, V.re, idx, Nat.beq, cond_true, cond_false, Option.bind_some, Option.map_some, pullObs, Ob.re, reRows, Nat.reduceAdd, h, List.length_cons, List.length_nil, Nat.le_refl]
  unfold afterR
  simp only [V.re, V.reAll, pushObs, back, nth, Ob.re, reRows, Option.bind_some, Option.map_some, List.isEmpty_cons, Bool.false_and, Bool.false_eq_true, if_false, Rd.run, List.append_nil, Nat.reduceAdd]
theorem call120_at1 (k : ByteArray) (c : S57) (ks : List ByteArray) (vs : List S57) (ex ey : List (List V)) (f g : Bool) (hr : risesK ks = true) (hl : ks.length < 1000000000) (hv : vs.length = ks.length) (hb : hasB k ks = false) (n : Nat) (hn : 4 ≤ n) (o0 : Option Ob) (rest : Heap) :
    (callV (LX T fns) n (.clo 120 []) [.ptr 1 0 0, .str k, valC c]).run (o0 :: some (mobC 2 3 ks.length) :: some (kob ks ex f) :: some (vobC vs ey g) :: rest) [] =
    some ((.bool true, [(1, some (mobC n (n + 1) (ks.length + 1))), (2, some (kob ks ex true)), (3, some (vobC vs ey true)), (n, some (kob (insAt (posB k ks) k ks) [] false)), (n + 1, some (vobC (insAt (posB k ks) c vs) [] false))]), [3, 2, 1]) := by
  have h := lim120_new k c ks vs ex ey f g hr hl hv hb
  simp only [mobC, kob, vobC, valC, k57_enc, List.append_nil] at h ⊢
  have hf : fns 120 = some fn120 := rfl
  unfold callV
  simp only [hf]
  unfold callR
  simp only [fn120, List.cons_append, List.nil_append, List.append_nil, frzArgs, frz, frzAll, frzG, frzGAll, ms2, msUp, List.tail]
  simp only [V.allIds, V.ids, List.append_nil, List.nil_append, collect, List.map_nil, List.contains_nil, Bool.false_eq_true, if_false, Rd.run, Heap.at?, Ob.ids, rowsIds, List.map_cons, List.cons_append, List.contains_cons, Nat.reduceBEq, Bool.or_self, Bool.or_false, Bool.false_or, Bool.or_true, Bool.true_or, if_true]
  unfold withR
  simp only [List.map_cons, List.map_nil, upd1, List.all_nil, List.all_cons, show 1 < n by omega, show 2 < n by omega, show 3 < n by omega, decide_true, Bool.and_self, if_true, V.reAll, V.re, idx, Nat.beq, cond_true, cond_false, Option.bind_some, Option.map_some, pullObs, Ob.re, reRows, Nat.reduceAdd, h, List.length_cons, List.length_nil, Nat.le_refl]
  unfold afterR
  simp only [V.re, V.reAll, pushObs, back, nth, Ob.re, reRows, Option.bind_some, Option.map_some, List.isEmpty_cons, Bool.false_and, Bool.false_eq_true, if_false, Rd.run, List.append_nil, Nat.reduceAdd]
  simp only [List.length_cons, List.length_nil, Nat.zero_add, Nat.reduceAdd, Nat.reduceLT, Nat.reduceLeDiff, if_true, Option.map_some, Option.bind_some, Nat.reduceSub, Nat.sub_self, Nat.add_zero]
  show _ = _
  kernel_rfl
theorem lim71_no (c : S57) (ks : List ByteArray) (vs : List S57) (ex ey : List (List V)) (f g : Bool) (hr : risesK ks = true) (hl : ks.length < 1000000000) (hv : vs.length = ks.length) (he : asks c.f0 ks ≠ 0) : lim T fns 71 [.ptr 0 0 0, .agg (k57.enc c)] [catO 1, mobC 2 3 ks.length, kob ks ex f, vobC vs ey g] =
    some (.int .i64 (asks c.f0 ks), [some (catO 1), some (mobC 2 3 ks.length), some (kob ks ex f), some (vobC vs ey g)]) := by
  simp only [k57_enc]
  refine fn_rule (fn := fn71) rfl rfl (by simp [fn71]) ?_
  unfold fn71
  simp only [Tryz.f71, Option.getD_some, argEnv, List.map_nil, List.length_nil]
  have hc := fun (n : Nat) (hn : 4 ≤ n) (rest : Heap) => call87 c.f0 ks vs ex ey f g hr (by omega) hv n hn rest
  generalize asks c.f0 ks = e at *
  simp only [catO, mobC, kob, vobC, valC, k57_enc] at hc ⊢
  simp only [go_sem, T_9, T_34, T_54, T_55, T_57, T_85, T_142, T_144, hc, eqPcat, nilCheckR, he]
  show _ = _
  kernel_rfl
theorem lim71_yes (c : S57) (ks : List ByteArray) (vs : List S57) (ex ey : List (List V)) (f g : Bool) (hr : risesK ks = true) (hl : ks.length < 1000000000) (hv : vs.length = ks.length) (he : asks c.f0 ks = 0) (hb : hasB c.f0 ks = false) : lim T fns 71 [.ptr 0 0 0, .agg (k57.enc c)] [catO 1, mobC 2 3 ks.length, kob ks ex f, vobC vs ey g] =
    some (.int .i64 0, [some (catO 1), some (mobC 4 5 (ks.length + 1)), some (kob ks ex true), some (vobC vs ey true), some (kob (insAt (posB c.f0 ks) c.f0 ks) [] false), some (vobC (insAt (posB c.f0 ks) c vs) [] false)]) := by
  simp only [k57_enc]
  refine fn_rule (fn := fn71) rfl rfl (by simp [fn71]) ?_
  unfold fn71
  simp only [Tryz.f71, Option.getD_some, argEnv, List.map_nil, List.length_nil]
  have hc := fun (n : Nat) (hn : 4 ≤ n) (rest : Heap) => call87 c.f0 ks vs ex ey f g hr (by omega) hv n hn rest
  have hp := fun (n : Nat) (hn : 4 ≤ n) (o0 : Option Ob) (rest : Heap) => call120_at1 c.f0 c ks vs ex ey f g hr hl hv hb n hn o0 rest
  simp only [he] at hc
  simp only [catO, mobC, kob, vobC, valC, k57_enc] at hc hp ⊢
  simp only [go_sem, T_9, T_34, T_54, T_55, T_57, T_85, T_142, T_144, hc, hp, eqPcat, nilCheckR]
  repeat (refine ⟨by kernel_rfl, ?_⟩)
  show _ = _
  kernel_rfl
end Go.Proofs.YtoggbcckkjfkhaaGreat.R.Vol
/- Chapter 25's law DagWrong: a catalog is loaded. -/
namespace Go.Proofs.YtoggbcckkjfkhaaGreat.R.Vol
open Go Go.Proofs
set_option linter.unusedSimpArgs false
set_option linter.unusedVariables false
set_option maxRecDepth 10000
set_option maxHeartbeats 4000000

theorem leB_lt (a b : ByteArray) : leB a b = !(ltS b a) := less_or_eq a.toList b.toList
theorem posB_all {k : ByteArray} : ∀ {l : List ByteArray}, (∀ x ∈ l, ltS x k = true) → posB k l = l.length
  | [], _ => rfl
  | x :: l, h => by
    rw [posB, if_pos (h x (.head _)), posB_all fun y hy => h y (.tail _ hy)]
    rfl
theorem hasB_all {k : ByteArray} {l : List ByteArray} (h : ∀ x ∈ l, ltS x k = true) : hasB k l = false := by
  unfold hasB
  rw [posB_all h, List.getElem?_eq_none (Nat.le_refl _)]
theorem rises_pwK : ∀ {l : List ByteArray}, l.Pairwise (fun a b => ltS a b = true) → risesK l = true
  | [], _ => rfl
  | a :: r, h => risesK_cons (rises_pwK (List.pairwise_cons.1 h).2) (List.pairwise_cons.1 h).1
theorem pwK_snoc {l : List ByteArray} {b : ByteArray} (h : l.Pairwise (fun a b => ltS a b = true)) (hb : ∀ x ∈ l, ltS x b = true) : (l ++ [b]).Pairwise (fun a b => ltS a b = true) := by
  rw [List.pairwise_append]
  exact ⟨h, List.pairwise_singleton _ _, fun x hx y hy => by rw [List.mem_singleton] at hy; rw [hy]; exact hb x hx⟩
theorem insAt_endV {α : Type} (l : List α) (x : α) : insAt l.length x l = l ++ [x] := by simp [insAt]
theorem zNe : ((0 : Int) != 0) = false := rfl
theorem addYes (c : S57) (ks : List ByteArray) (vs : List S57) (hr : ks.Pairwise (fun a b => ltS a b = true)) (hk : ∀ x ∈ ks, ltS x c.f0 = true) (hl : ks.length < 1000000000) (hv : vs.length = ks.length) (he : asks c.f0 ks = 0) (n : Nat) (hn : 4 ≤ n) (rest : Heap) :
    (callV (LX T fns) n (.clo 71 []) [.ptr 0 0 0, .agg (k57.enc c)]).run (some (catO 1) :: some (mobC 2 3 ks.length) :: some (kob ks [] false) :: some (vobC vs [] false) :: rest) [] =
    some ((.int .i64 0, [(0, some (catO 1)), (1, some (mobC n (n + 1) (ks.length + 1))), (2, some (kob ks [] true)), (3, some (vobC vs [] true)), (n, some (kob (ks ++ [c.f0]) [] false)), (n + 1, some (vobC (vs ++ [c]) [] false))]), [3, 2, 1, 0]) := by
  have h := lim71_yes c ks vs [] [] false false (rises_pwK hr) hl hv he (hasB_all hk)
  rw [posB_all hk, insAt_endV, ← hv, insAt_endV, hv] at h
  simp only [catO, mobC, kob, vobC, valC, k57_enc, List.append_nil] at h ⊢
  have hf : fns 71 = some fn71 := rfl
  unfold callV
  simp only [hf]
  unfold callR
  simp only [fn71, List.cons_append, List.nil_append, List.append_nil, frzArgs, frz, frzAll, frzG, frzGAll, ms2, msUp, List.tail]
  simp only [V.allIds, V.ids, List.append_nil, List.nil_append, collect, List.map_nil, List.contains_nil, Bool.false_eq_true, if_false, Rd.run, Heap.at?, Ob.ids, rowsIds, List.map_cons, List.cons_append, List.contains_cons, Nat.reduceBEq, Bool.or_self, Bool.or_false, Bool.false_or, Bool.or_true, Bool.true_or, if_true]
  unfold withR
  simp only [List.map_cons, List.map_nil, upd1, List.all_nil, List.all_cons, show 0 < n by omega, show 1 < n by omega, show 2 < n by omega, show 3 < n by omega, decide_true, Bool.and_self, if_true, V.reAll, V.re, idx, Nat.beq, cond_true, cond_false, Option.bind_some, Option.map_some, pullObs, Ob.re, reRows, Nat.reduceAdd, h, List.length_cons, List.length_nil, Nat.le_refl]
  unfold afterR
  simp only [V.re, V.reAll, pushObs, back, nth, Ob.re, reRows, Option.bind_some, Option.map_some, List.isEmpty_cons, Bool.false_and, Bool.false_eq_true, if_false, Rd.run, List.append_nil, Nat.reduceAdd]
  simp only [List.length_cons, List.length_nil, Nat.zero_add, Nat.reduceAdd, Nat.reduceLT, Nat.reduceLeDiff, if_true, Option.map_some, Option.bind_some, Nat.reduceSub, Nat.sub_self, Nat.add_zero]
  show _ = _
  kernel_rfl
theorem addNo (c : S57) (ks : List ByteArray) (vs : List S57) (hr : ks.Pairwise (fun a b => ltS a b = true)) (hl : ks.length < 1000000000) (hv : vs.length = ks.length) (he : asks c.f0 ks ≠ 0) (n : Nat) (hn : 4 ≤ n) (rest : Heap) :
    (callV (LX T fns) n (.clo 71 []) [.ptr 0 0 0, .agg (k57.enc c)]).run (some (catO 1) :: some (mobC 2 3 ks.length) :: some (kob ks [] false) :: some (vobC vs [] false) :: rest) [] =
    some ((.int .i64 (asks c.f0 ks), [(0, some (catO 1)), (1, some (mobC 2 3 ks.length)), (2, some (kob ks [] false)), (3, some (vobC vs [] false))]), [3, 2, 1, 0]) := by
  have h := lim71_no c ks vs [] [] false false (rises_pwK hr) hl hv he
  simp only [catO, mobC, kob, vobC, valC, k57_enc, List.append_nil] at h ⊢
  have hf : fns 71 = some fn71 := rfl
  unfold callV
  simp only [hf]
  unfold callR
  simp only [fn71, List.cons_append, List.nil_append, List.append_nil, frzArgs, frz, frzAll, frzG, frzGAll, ms2, msUp, List.tail]
  simp only [V.allIds, V.ids, List.append_nil, List.nil_append, collect, List.map_nil, List.contains_nil, Bool.false_eq_true, if_false, Rd.run, Heap.at?, Ob.ids, rowsIds, List.map_cons, List.cons_append, List.contains_cons, Nat.reduceBEq, Bool.or_self, Bool.or_false, Bool.false_or, Bool.or_true, Bool.true_or, if_true]
  unfold withR
  simp only [List.map_cons, List.map_nil, upd1, List.all_nil, List.all_cons, show 0 < n by omega, show 1 < n by omega, show 2 < n by omega, show 3 < n by omega, decide_true, Bool.and_self, if_true, V.reAll, V.re, idx, Nat.beq, cond_true, cond_false, Option.bind_some, Option.map_some, pullObs, Ob.re, reRows, Nat.reduceAdd, h, List.length_cons, List.length_nil, Nat.le_refl]
  unfold afterR
  simp only [V.re, V.reAll, pushObs, back, nth, Ob.re, reRows, Option.bind_some, Option.map_some, List.isEmpty_cons, Bool.false_and, Bool.false_eq_true, if_false, Rd.run, List.append_nil, Nat.reduceAdd]
theorem lim70 : lim T fns 70 [] [] = some (.ptr 0 0 0, [some (catO 1), some (.buf 2 [[.nils, .nils]] false true)]) := acall_lim (R := 3) (d := 4) (by kernel_rfl)
theorem call70 (n : Nat) : callV (LX T fns) n (.clo 70 []) [] = .pure (.ptr n 0 0, [(n, some (catO (n + 1))), (n + 1, some (.buf 2 [[.nils, .nils]] false true))]) := callV_new (fn := fn70) rfl rfl lim70 rfl rfl rfl
def ksV (l : List S57) (i : Nat) : List ByteArray := (l.take i).map (·.f0)
theorem ksV_succ {l : List S57} {i : Nat} (h : i < l.length) : ksV l (i + 1) = ksV l i ++ [l[i].f0] := by
  unfold ksV; rw [List.take_succ_eq_append_getElem h, List.map_append]; rfl
theorem ksV_len {l : List S57} {i : Nat} (h : i ≤ l.length) : (ksV l i).length = i := by simp [ksV]; omega
def lastV (l : List S57) : Nat → ByteArray
  | 0 => ByteArray.empty
  | i + 1 => match l[i]? with
    | some v => v.f0
    | none => ByteArray.empty
def catP (l : List S57) : V × Heap := if volsOK l = true then (.tup [.ptr 0 0 0, .int .i64 0], [some (catO 1), some (mobC 2 3 l.length), some (kob (ksV l l.length) [] false), some (vobC l [] false)]) else (.tup [.nilp, .int .i64 1], [])
theorem cat_bad {l : List S57} (h : volsOK l = false) : catP l = (.tup [.nilp, .int .i64 1], []) := by unfold catP; rw [h]; rfl
theorem leB_nil {s : ByteArray} (h : leB s ByteArray.empty = true) : s.size = 0 := by
  unfold leB at h
  have e : ByteArray.empty.toList = [] := by rw [Go.Lib.toList_data]; rfl
  rw [e] at h
  have e2 : s.toList = s.data.toList := Go.Lib.toList_data s
  rw [e2] at h
  cases hq : s.data.toList with
  | nil =>
    have := congrArg List.length hq
    rw [Array.length_toList] at this
    exact this
  | cons x r => rw [hq] at h; simp [Op.bytesLess] at h
theorem lim31 (l : List S57) (hl : l.length < 1000000) : lim T fns 31 [.fz (l.map k57.enc)] [] = some (catP l) := by
  have hc := fun n => call70 n
  refine fn_rule (fn := fn31) rfl rfl (by simp [fn31]) ?_
  unfold fn31
  simp only [Tryz.f31, Option.getD_some, argEnv, List.map_nil, List.length_nil]
  simp only [catO] at hc
  simp only [go_sem, T_3, T_9, T_26, T_34, T_54, T_55, T_57, T_85, hc, Nat.zero_add]
  refine loop_rule (ι := Nat) (S := fun i => ⟨[(4, .ptr 0 0 0), (5, .str (lastV l i)), (9, .fz (l.map k57.enc)), (10, .int .i64 l.length), (11, .int .i64 i)], [some (catO 1), some (mobC 2 3 i), some (kob (ksV l i) [] false), some (vobC (l.take i) [] false)]⟩) (m := fun i => l.length + 1 - i)
    (I := fun i => i ≤ l.length ∧ i ≤ 16 ∧ (ksV l i).Pairwise (fun a b => ltS a b = true) ∧ (∀ x ∈ ksV l i, x = lastV l i ∨ ltS x (lastV l i) = true) ∧ vls (prV l i) (l.drop i) = vls none l) ?_ 0 _ ⟨by omega, by omega, by simp [ksV], by simp [ksV], rfl⟩ (by simp only [catO, mobC, kob, vobC]; rfl)
  intro i ⟨hi, h16, hpw, hls, hg⟩
  have kl := ksV_len hi
  by_cases hlt : i < l.length
  · have x0 : l[i]? = some l[i] := List.getElem?_eq_getElem hlt
    have hlt' : ((i : Int) < (l.length : Int)) := by omega
    have hnx : lastV l (i + 1) = l[i].f0 := by simp [lastV, x0]
    rw [List.drop_eq_getElem_cons hlt, vls] at hg
    have htl : (l.take i).length = i := by simp; omega
    cases hq : leB l[i].f0 (lastV l i) with
    | true =>
      have hq' : (Op.bytesLess l[i].f0.toList (lastV l i).toList || l[i].f0.toList == (lastV l i).toList) = true := hq
      have hv : vls none l = false := by
        cases i with
        | zero =>
          have hz := leB_nil hq
          rw [← hg]; simp [hz]
        | succ i =>
          have x1 : l[i]? = some l[i] := List.getElem?_eq_getElem (by omega)
          have e : lastV l (i + 1) = l[i].f0 := by simp [lastV, x1]
          rw [e] at hq
          rw [← hg]; simp [prV, x1, hq]
      rw [cat_bad (by simp [volsOK, hv])]
      simp only [go_sem, T_3, T_9, T_26, T_34, T_54, T_55, T_57, T_85, hlt, hlt', x0, all57, k57_enc, hq']
      show _ = _
      kernel_rfl
    | false =>
      have hq' : (Op.bytesLess l[i].f0.toList (lastV l i).toList || l[i].f0.toList == (lastV l i).toList) = false := hq
      have hlt2 : ltS (lastV l i) l[i].f0 = true := by
        have := leB_lt l[i].f0 (lastV l i)
        rw [hq] at this
        simpa using this.symm
      have hk : ∀ x ∈ ksV l i, ltS x l[i].f0 = true := fun x hx => by
        rcases hls x hx with h | h
        · rw [h]; exact hlt2
        · exact ltS_trans h hlt2
      have hb := hasB_all hk
      by_cases ha : asks l[i].f0 (ksV l i) = 0
      · have hsz : (decide (1 ≤ l[i].f0.size) && decide (l[i].f0.size ≤ 16)) = true ∧ i ≠ 16 := by
          unfold asks at ha
          rw [hb, kl] at ha
          by_cases c1 : 1 ≤ l[i].f0.size ∧ l[i].f0.size ≤ 16
          · rw [if_neg (fun h => h c1), if_neg (by simp)] at ha
            by_cases c2 : i = 16
            · rw [if_pos c2] at ha; omega
            · exact ⟨by simp [c1], c2⟩
          · rw [if_pos c1] at ha; omega
        have hadd := fun n hn rest => addYes l[i] (ksV l i) (l.take i) hpw hk (by omega) (by omega) ha n hn rest
        rw [kl, ← ksV_succ hlt, ← List.take_succ_eq_append_getElem hlt] at hadd
        simp only [catO, mobC, kob, vobC, List.append_nil, k57_enc] at hadd ⊢
        simp only [go_sem, T_3, T_9, T_26, T_34, T_54, T_55, T_57, T_85, hlt, hlt', x0, all57, k57_enc, hq', hadd, zNe, wrap_i64s (show i < 1000000000000000000 by omega)]
        refine ⟨i + 1, ⟨by omega, by omega, by rw [ksV_succ hlt]; exact pwK_snoc hpw hk, ?_, ?_⟩, by simp only; omega, ?_⟩
        · intro x hx
          rw [hnx]
          rw [ksV_succ hlt] at hx
          rcases List.mem_append.1 hx with hx | hx
          · exact .inr (hk x hx)
          · rw [List.mem_singleton] at hx; exact .inl hx
        · have hall : ((prV l i).all fun q => !leB l[i].f0 q) = true := by
            cases i with
            | zero => rfl
            | succ i =>
              have x1 : l[i]? = some l[i] := List.getElem?_eq_getElem (by omega)
              have e : lastV l (i + 1) = l[i].f0 := by simp [lastV, x1]
              rw [e] at hq
              simp [prV, x1, hq]
          rw [hsz.1, hall, Bool.true_and, Bool.true_and] at hg
          simpa [prV, x0] using hg
        · simp only [hnx]
          show _ = _
          kernel_rfl
      · have hbad : volsOK l = false := by
          unfold asks at ha
          rw [hb, kl] at ha
          by_cases c1 : 1 ≤ l[i].f0.size ∧ l[i].f0.size ≤ 16
          · rw [if_neg (fun h => h c1), if_neg (by simp)] at ha
            by_cases c2 : i = 16
            · have : ¬ l.length ≤ 16 := by omega
              simp [volsOK, this]
            · rw [if_neg c2] at ha; exact absurd rfl ha
          · have hz : (decide (1 ≤ l[i].f0.size) && decide (l[i].f0.size ≤ 16)) = false := by simpa using c1
            rw [hz, Bool.false_and, Bool.false_and] at hg
            simp [volsOK, ← hg]
        have hadd := fun n hn rest => addNo l[i] (ksV l i) (l.take i) hpw (by omega) (by omega) ha n hn rest
        have hne : (asks l[i].f0 (ksV l i) != 0) = true := by simpa using ha
        rw [kl] at hadd
        rw [cat_bad hbad]
        generalize asks l[i].f0 (ksV l i) = e at *
        simp only [catO, mobC, kob, vobC, List.append_nil, k57_enc] at hadd ⊢
        simp only [go_sem, T_3, T_9, T_26, T_34, T_54, T_55, T_57, T_85, hlt, hlt', x0, all57, k57_enc, hq', hadd, hne]
        show _ = _
        kernel_rfl
  · have : i = l.length := by omega
    subst this
    rw [List.drop_eq_nil_of_le (by omega), vls] at hg
    have e : catP l = (.tup [.ptr 0 0 0, .int .i64 0], [some (catO 1), some (mobC 2 3 l.length), some (kob (ksV l l.length) [] false), some (vobC l [] false)]) := by unfold catP volsOK; rw [← hg]; simp [h16]
    rw [e, List.take_length]
    simp only [catO, mobC, kob, vobC, List.append_nil]
    simp only [go_sem, T_3, T_9, T_26, T_34, T_54, T_55, T_57, T_85, hlt]
    show _ = _
    kernel_rfl
end Go.Proofs.YtoggbcckkjfkhaaGreat.R.Vol
/- Chapter 25's law DagWrong: the list of a set of pending counts. -/
namespace Go.Proofs.YtoggbcckkjfkhaaGreat.R
open Go Go.Proofs
set_option linter.unusedSimpArgs false
set_option linter.unusedVariables false
set_option maxRecDepth 10000
set_option maxHeartbeats 4000000

theorem append_nils {ti : TI} {n : Nat} {kr : List V} {p : Bool} (hb : ti.bytes ≤ 1000) : appendR ti n .nils [kr] p = .pure (.ms n ti.size 0 1 none, [(n, some (.buf ti.size [kr] false p))]) := by
  unfold appendR
  simp only [List.length_cons, List.length_nil, Nat.zero_add, Nat.one_ne_zero, if_false]
  rw [if_pos ⟨by omega, by omega⟩]
theorem all_1 (ks vs : List Int) (ex ey : List (List V)) (f g : Bool) (n : Nat) (hn : 4 ≤ n) (o0 : Option Ob) (rest : Heap) :
    (callV (LX T fns) n (.clo 73 []) [.ptr 1 0 0]).run (o0 :: some (mobU 2 3 ks.length) :: some (kobU ks ex f) :: some (vobU vs ey g) :: rest) [] =
    some ((.clo 178 [.ptr n 0 0, .ptr (n + 1) 0 0], [(1, some (mobU 2 3 ks.length)), (2, some (kobU ks ex f)), (3, some (vobU vs ey g)), (n, some (.buf 1 [[.ptr 1 0 0]] false false)), (n + 1, some (.buf 1 [[.int .i64 0]] false true))]), [3, 2, 1]) := by
  have h := lim73 ks vs ex ey f g
  simp only [mobU, kobU, vobU] at h ⊢
  have hf : fns 73 = some fn73 := rfl
  unfold callV
  simp only [hf]
  unfold callR
  simp only [fn73, List.cons_append, List.nil_append, List.append_nil, frzArgs, frz, frzAll, frzG, frzGAll, ms2, msUp, List.tail]
  simp only [V.allIds, V.ids, List.append_nil, List.nil_append, collect, List.map_nil, List.contains_nil, Bool.false_eq_true, if_false, Rd.run, Heap.at?, Ob.ids, rowsIds, List.map_cons, List.cons_append, List.contains_cons, Nat.reduceBEq, Bool.or_self, Bool.or_false, Bool.false_or, Bool.or_true, Bool.true_or, if_true]
  unfold withR
  simp only [List.map_cons, List.map_nil, upd1, List.all_nil, List.all_cons, show 1 < n by omega, show 2 < n by omega, show 3 < n by omega, decide_true, Bool.and_self, if_true, V.reAll, V.re, idx, Nat.beq, cond_true, cond_false, Option.bind_some, Option.map_some, pullObs, Ob.re, reRows, Nat.reduceAdd, h, List.length_cons, List.length_nil, Nat.le_refl]
  unfold afterR
  simp only [V.re, V.reAll, pushObs, back, nth, Ob.re, reRows, Option.bind_some, Option.map_some, List.isEmpty_cons, Bool.false_and, Bool.false_eq_true, if_false, Rd.run, List.append_nil, Nat.reduceAdd]
  simp only [List.length_cons, List.length_nil, Nat.zero_add, Nat.reduceAdd, Nat.reduceLT, Nat.reduceLeDiff, if_true, Option.map_some, Option.bind_some, Nat.reduceSub, Nat.sub_self, Nat.add_zero]
  show _ = _
  kernel_rfl
/-- The heap behind so many rounds. -/
def lstR (l : List S96) : Nat → Heap
  | 0 => [some (.buf 1 [[.ptr 1 0 0]] false false), some (.buf 2 [[.ms 2 1 0 l.length none, .ms 3 1 0 l.length none]] false false), some (.buf 1 ((ksR l l.length).map (Cd.int .u32).enc) false true), some (.buf 1 ((vsR l l.length).map (Cd.int .u32).enc) false true), some (.buf 1 [[.nils]] false true), some (.buf 1 [[.ptr 1 0 0]] false false), some (.buf 1 [[.int .i64 0]] false true)]
  | i + 1 => [some (.buf 1 [[.ptr 1 0 0]] false false), some (.buf 2 [[.ms 2 1 0 l.length none, .ms 3 1 0 l.length none]] false false), some (.buf 1 ((ksR l l.length).map (Cd.int .u32).enc) false true), some (.buf 1 ((vsR l l.length).map (Cd.int .u32).enc) false true), some (.buf 1 [[.ms 7 2 0 (i + 1) none]] false false), some (.buf 1 [[.ptr 1 0 0]] false false), some (.buf 1 [[.int .i64 0]] false true), some (.buf 2 ((l.take (i + 1)).map k96.enc) false true)]
theorem lstR_0 (l : List S96) : lstR l 0 = [some (.buf 1 [[.ptr 1 0 0]] false false), some (.buf 2 [[.ms 2 1 0 l.length none, .ms 3 1 0 l.length none]] false false), some (.buf 1 ((ksR l l.length).map (Cd.int .u32).enc) false true), some (.buf 1 ((vsR l l.length).map (Cd.int .u32).enc) false true), some (.buf 1 [[.nils]] false true), some (.buf 1 [[.ptr 1 0 0]] false false), some (.buf 1 [[.int .i64 0]] false true)] := rfl
theorem lstR_s (l : List S96) (i : Nat) : lstR l (i + 1) = [some (.buf 1 [[.ptr 1 0 0]] false false), some (.buf 2 [[.ms 2 1 0 l.length none, .ms 3 1 0 l.length none]] false false), some (.buf 1 ((ksR l l.length).map (Cd.int .u32).enc) false true), some (.buf 1 ((vsR l l.length).map (Cd.int .u32).enc) false true), some (.buf 1 [[.ms 7 2 0 (i + 1) none]] false false), some (.buf 1 [[.ptr 1 0 0]] false false), some (.buf 1 [[.int .i64 0]] false true), some (.buf 2 ((l.take (i + 1)).map k96.enc) false true)] := rfl
theorem finish_ms4 {n m : Nat} {ks vs : List Int} {rows : List (List V)} {f : Bool} {x4 x5 x6 : Option Ob} {rest : Heap} (hl : n = rows.length) :
    finish 4 true (.ms 7 2 0 n none) (some (.buf 1 [[.ptr 1 0 0]] false false) :: some (.buf 2 [[.ms 2 1 0 m none, .ms 3 1 0 m none]] false false) :: some (.buf 1 (ks.map (Cd.int .u32).enc) false true) :: some (.buf 1 (vs.map (Cd.int .u32).enc) false true) :: x4 :: x5 :: x6 :: some (.buf 2 rows f true) :: rest) =
    some (.fz rows, [some (.buf 1 [[.ptr 1 0 0]] false false), some (.buf 2 [[.ms 2 1 0 m none, .ms 3 1 0 m none]] false false), some (.buf 1 (ks.map (Cd.int .u32).enc) false true), some (.buf 1 (vs.map (Cd.int .u32).enc) false true)]) := by
  subst hl
  unfold finish
  simp only [if_true, frz, frzAll, frzG, frzGAll, ms2, msUp, frzG, ms2, msUp, Rd.run, Heap.at?]
  rw [if_pos ⟨trivial, by omega⟩]
  simp only [Rd.run, List.drop_zero, List.take_length, Option.map_some, Option.bind_some]
  rfl
theorem eqPset (i r o : Nat) : eqV T 84 (.ptr i r o) .nilp = some false := by
  unfold eqV
  rw [T_84]
theorem eqPmap (i r o : Nat) : eqV T 130 (.ptr i r o) .nilp = some false := by
  unfold eqV
  rw [T_130]
theorem lim38 (l : List S96) (hl : l.length < 1000000) : lim T fns 38 [.ptr 0 0 0] [setO 1, mobU 2 3 l.length, kobU (ksR l l.length) [] false, vobU (vsR l l.length) [] false] =
    some (.fz (l.map k96.enc), [some (setO 1), some (mobU 2 3 l.length), some (kobU (ksR l l.length) [] false), some (vobU (vsR l l.length) [] false)]) := by
  have kl := ksR_len (Nat.le_refl l.length)
  have vl := vsR_len (Nat.le_refl l.length)
  have hall := fun (n : Nat) (hn : 4 ≤ n) (o0 : Option Ob) (rest : Heap) => all_1 (ksR l l.length) (vsR l l.length) [] [] false false n hn o0 rest
  rw [kl] at hall
  simp only [setO, mobU, kobU, vobU, List.append_nil] at hall ⊢
  have hf : fns 178 = some fn178 := rfl
  refine fn_rule (fn := fn38) rfl rfl (by simp [fn38]) ?_
  unfold fn38
  simp only [Tryz.f38, Option.getD_some, argEnv, List.map_nil, List.length_nil]
  simp only [go_sem, T_1, T_25, T_54, T_84, T_96, T_130, T_132, hall, hf, eqPset, nilCheckR]
  refine ⟨⟨rfl, rfl, by simp [fn178]⟩, ?_⟩
  unfold fn178
  simp only [Tryz.f178, Option.getD_some, argEnv]
  have hz : (0 : Int) = ((0 : Nat) : Int) := rfl
  simp only [go_sem, T_3, T_4, T_24, T_54, T_130, T_200, eqPmap, nilCheckR, hz, Nat.zero_le, Nat.le_refl, List.filter, Nat.reduceBEq, Bool.not_false, Bool.not_true]
  refine iloop_rule (ι := Nat) (S := fun i => ⟨[(0, .undef), (5, .ms 3 1 0 l.length none), (22, .ms 2 1 0 l.length none), (23, .int .i64 l.length), (24, .int .i64 i)], lstR l i, [0], none⟩) (m := fun i => l.length + 1 - i)
    (I := fun i => i ≤ l.length) ?_ 0 _ (Nat.zero_le _) ?_ ?_ rfl
  · rintro i hi2
    by_cases hi3 : i < l.length
    · have hi4 : i < (ksR l l.length).length := by omega
      have hi5 : i < (vsR l l.length).length := by omega
      have hk1 : (ksR l l.length)[i]? = some l[i].f0 := by simp [ksR, hi3]
      have hv1 : (vsR l l.length)[i]? = some l[i].f1 := by simp [vsR, hi3]
      have hnext := List.take_succ_eq_append_getElem hi3
      cases i with
      | zero =>
        simp only [lstR_0]
        simp only [go_sem, T_3, T_4, T_24, T_54, T_130, T_200, T_1, T_25, T_54, T_84, T_96, T_130, T_132, hi3, hi4, hi5, hv1, hk1, kl, vl, all_int, all96, k96_enc, append_nils (ti := ⟨.struct [(0, 54), (1, 54)], 2, 8, .agg [.int .u32 0, .int .u32 0]⟩) (show 8 ≤ 1000 by decide), wrap_i64s (show 0 < 1000000000000000000 by omega), List.contains_cons, List.contains_nil, Nat.reduceBEq, Bool.or_false, List.filter, Bool.not_false, Bool.not_true]
        refine ⟨1, by omega, by simp only; omega, ?_, by kernel_rfl, rfl⟩
        show head _ _ _ = some ⟨_, lstR l 1⟩
        rw [lstR_s, hnext]
        show _ = _
        kernel_rfl
      | succ i =>
        simp only [lstR_s]
        have htl : (l.take (i + 1)).length = i + 1 := by simp; omega
        simp only [go_sem, T_3, T_4, T_24, T_54, T_130, T_200, T_1, T_25, T_54, T_84, T_96, T_130, T_132, hi3, hi4, hi5, hv1, hk1, kl, vl, htl, all_int, all96, k96_enc, appL_some, show (i + 1 + 1) * 8 ≤ 140737488355328 by omega, show i + 1 + 1 ≤ 140737488355328 by omega, wrap_i64s (show i + 1 < 1000000000000000000 by omega), List.contains_cons, List.contains_nil, Nat.reduceBEq, Bool.or_false, List.filter, Bool.not_false, Bool.not_true]
        refine ⟨i + 1 + 1, by omega, by simp only; omega, ?_, by kernel_rfl, rfl⟩
        show head _ _ _ = some ⟨_, lstR l (i + 1 + 1)⟩
        rw [lstR_s, hnext]
        simp only [List.map_append, List.map_cons, List.map_nil, k96_enc]
        show _ = _
        kernel_rfl
    · have : i = l.length := by omega
      cases i with
      | zero =>
        have hn : l = [] := List.eq_nil_of_length_eq_zero this.symm
        subst hn
        simp only [lstR_0]
        simp only [go_sem, T_3, T_4, T_24, T_54, T_130, T_200, T_1, T_25, T_54, T_84, T_96, T_130, T_132, List.length_nil, Nat.lt_irrefl]
        show _ = _
        kernel_rfl
      | succ i =>
        simp only [lstR_s]
        simp only [go_sem, T_3, T_4, T_24, T_54, T_130, T_200, T_1, T_25, T_54, T_84, T_96, T_130, T_132, hi3]
        rw [this, List.take_length]
        exact finish_ms4 (by simp)
  · kernel_rfl
  · kernel_rfl
end Go.Proofs.YtoggbcckkjfkhaaGreat.R
/- Chapter 25's law DagWrong: the list of a catalog. -/
namespace Go.Proofs.YtoggbcckkjfkhaaGreat.R.Vol
open Go Go.Proofs
set_option linter.unusedSimpArgs false
set_option linter.unusedVariables false
set_option maxRecDepth 10000
set_option maxHeartbeats 4000000

theorem lim122 (ks : List ByteArray) (vs : List S57) (ex ey : List (List V)) (f g : Bool) : lim T fns 122 [.ptr 0 0 0, .int .i64 0] [mobC 1 2 ks.length, kob ks ex f, vobC vs ey g] =
    some (.clo 179 [.ptr 3 0 0, .ptr 4 0 0], [some (mobC 1 2 ks.length), some (kob ks ex f), some (vobC vs ey g), some (.buf 1 [[.ptr 0 0 0]] false false), some (.buf 1 [[.int .i64 0]] false true)]) := by
  refine fn_rule (fn := fn122) rfl rfl (by simp [fn122]) ?_
  unfold fn122
  simp only [Tryz.f122, Option.getD_some, argEnv, List.map_nil, List.length_nil]
  simp only [mobC, kob, vobC]
  simp only [go_sem, T_3, T_142]
  show _ = _
  kernel_rfl
theorem callRunV (ks : List ByteArray) (vs : List S57) (ex ey : List (List V)) (f g : Bool) (n : Nat) (hn : 3 ≤ n) (rest : Heap) :
    (callV (LX T fns) n (.clo 122 []) [.ptr 0 0 0, .int .i64 0]).run (some (mobC 1 2 ks.length) :: some (kob ks ex f) :: some (vobC vs ey g) :: rest) [] =
    some ((.clo 179 [.ptr n 0 0, .ptr (n + 1) 0 0], [(0, some (mobC 1 2 ks.length)), (1, some (kob ks ex f)), (2, some (vobC vs ey g)), (n, some (.buf 1 [[.ptr 0 0 0]] false false)), (n + 1, some (.buf 1 [[.int .i64 0]] false true))]), [2, 1, 0]) := by
  have h := lim122 ks vs ex ey f g
  simp only [mobC, kob, vobC] at h ⊢
  have hf : fns 122 = some fn122 := rfl
  unfold callV
  simp only [hf]
  unfold callR
  simp only [fn122, List.cons_append, List.nil_append, List.append_nil, frzArgs, frz, frzAll, frzG, frzGAll, ms2, msUp, List.tail]
  simp only [V.allIds, V.ids, List.append_nil, List.nil_append, collect, List.map_nil, List.contains_nil, Bool.false_eq_true, if_false, Rd.run, Heap.at?, Ob.ids, rowsIds, List.map_cons, List.cons_append, List.contains_cons, Nat.reduceBEq, Bool.or_self, Bool.or_false, Bool.false_or, Bool.or_true, Bool.true_or, if_true]
  unfold withR
  simp only [List.map_cons, List.map_nil, upd1, List.all_nil, List.all_cons, show 0 < n by omega, show 1 < n by omega, show 2 < n by omega, decide_true, Bool.and_self, if_true, V.reAll, V.re, idx, Nat.beq, cond_true, cond_false, Option.bind_some, Option.map_some, pullObs, Ob.re, reRows, Nat.reduceAdd, h, List.length_cons, List.length_nil, Nat.le_refl]
  unfold afterR
  simp only [V.re, V.reAll, pushObs, back, nth, Ob.re, reRows, Option.bind_some, Option.map_some, List.isEmpty_cons, Bool.false_and, Bool.false_eq_true, if_false, Rd.run, List.append_nil, Nat.reduceAdd]
  simp only [List.length_cons, List.length_nil, Nat.zero_add, Nat.reduceAdd, Nat.reduceLT, Nat.reduceLeDiff, if_true, Option.map_some, Option.bind_some, Nat.reduceSub, Nat.sub_self, Nat.add_zero]
  show _ = _
  kernel_rfl
theorem lim74 (ks : List ByteArray) (vs : List S57) (ex ey : List (List V)) (f g : Bool) : lim T fns 74 [.ptr 0 0 0] [mobC 1 2 ks.length, kob ks ex f, vobC vs ey g] =
    some (.clo 179 [.ptr 3 0 0, .ptr 4 0 0], [some (mobC 1 2 ks.length), some (kob ks ex f), some (vobC vs ey g), some (.buf 1 [[.ptr 0 0 0]] false false), some (.buf 1 [[.int .i64 0]] false true)]) := by
  refine fn_rule (fn := fn74) rfl rfl (by simp [fn74]) ?_
  unfold fn74
  simp only [Tryz.f74, Option.getD_some, argEnv, List.map_nil, List.length_nil]
  have hc := fun (n : Nat) (hn : 3 ≤ n) (rest : Heap) => callRunV ks vs ex ey f g n hn rest
  simp only [mobC, kob, vobC] at hc ⊢
  simp only [go_sem, T_3, T_142, hc]
  show _ = _
  kernel_rfl
theorem allV_1 (ks : List ByteArray) (vs : List S57) (ex ey : List (List V)) (f g : Bool) (n : Nat) (hn : 4 ≤ n) (o0 : Option Ob) (rest : Heap) :
    (callV (LX T fns) n (.clo 74 []) [.ptr 1 0 0]).run (o0 :: some (mobC 2 3 ks.length) :: some (kob ks ex f) :: some (vobC vs ey g) :: rest) [] =
    some ((.clo 179 [.ptr n 0 0, .ptr (n + 1) 0 0], [(1, some (mobC 2 3 ks.length)), (2, some (kob ks ex f)), (3, some (vobC vs ey g)), (n, some (.buf 1 [[.ptr 1 0 0]] false false)), (n + 1, some (.buf 1 [[.int .i64 0]] false true))]), [3, 2, 1]) := by
  have h := lim74 ks vs ex ey f g
  simp only [mobC, kob, vobC] at h ⊢
  have hf : fns 74 = some fn74 := rfl
  unfold callV
  simp only [hf]
  unfold callR
  simp only [fn74, List.cons_append, List.nil_append, List.append_nil, frzArgs, frz, frzAll, frzG, frzGAll, ms2, msUp, List.tail]
  simp only [V.allIds, V.ids, List.append_nil, List.nil_append, collect, List.map_nil, List.contains_nil, Bool.false_eq_true, if_false, Rd.run, Heap.at?, Ob.ids, rowsIds, List.map_cons, List.cons_append, List.contains_cons, Nat.reduceBEq, Bool.or_self, Bool.or_false, Bool.false_or, Bool.or_true, Bool.true_or, if_true]
  unfold withR
  simp only [List.map_cons, List.map_nil, upd1, List.all_nil, List.all_cons, show 1 < n by omega, show 2 < n by omega, show 3 < n by omega, decide_true, Bool.and_self, if_true, V.reAll, V.re, idx, Nat.beq, cond_true, cond_false, Option.bind_some, Option.map_some, pullObs, Ob.re, reRows, Nat.reduceAdd, h, List.length_cons, List.length_nil, Nat.le_refl]
  unfold afterR
  simp only [V.re, V.reAll, pushObs, back, nth, Ob.re, reRows, Option.bind_some, Option.map_some, List.isEmpty_cons, Bool.false_and, Bool.false_eq_true, if_false, Rd.run, List.append_nil, Nat.reduceAdd]
  simp only [List.length_cons, List.length_nil, Nat.zero_add, Nat.reduceAdd, Nat.reduceLT, Nat.reduceLeDiff, if_true, Option.map_some, Option.bind_some, Nat.reduceSub, Nat.sub_self, Nat.add_zero]
  show _ = _
  kernel_rfl
/-- The heap behind so many rounds. -/
def lstV (l : List S57) : Nat → Heap
  | 0 => [some (.buf 1 [[.ptr 1 0 0]] false false), some (.buf 2 [[.ms 2 1 0 l.length none, .ms 3 3 0 l.length none]] false false), some (.buf 1 ((ksV l l.length).map Cd.str.enc) false true), some (.buf 3 (l.map k57.enc) false true), some (.buf 1 [[.nils]] false true), some (.buf 1 [[.ptr 1 0 0]] false false), some (.buf 1 [[.int .i64 0]] false true)]
  | i + 1 => [some (.buf 1 [[.ptr 1 0 0]] false false), some (.buf 2 [[.ms 2 1 0 l.length none, .ms 3 3 0 l.length none]] false false), some (.buf 1 ((ksV l l.length).map Cd.str.enc) false true), some (.buf 3 (l.map k57.enc) false true), some (.buf 1 [[.ms 7 3 0 (i + 1) none]] false false), some (.buf 1 [[.ptr 1 0 0]] false false), some (.buf 1 [[.int .i64 0]] false true), some (.buf 3 ((l.take (i + 1)).map k57.enc) false true)]
theorem lstV_0 (l : List S57) : lstV l 0 = [some (.buf 1 [[.ptr 1 0 0]] false false), some (.buf 2 [[.ms 2 1 0 l.length none, .ms 3 3 0 l.length none]] false false), some (.buf 1 ((ksV l l.length).map Cd.str.enc) false true), some (.buf 3 (l.map k57.enc) false true), some (.buf 1 [[.nils]] false true), some (.buf 1 [[.ptr 1 0 0]] false false), some (.buf 1 [[.int .i64 0]] false true)] := rfl
theorem lstV_s (l : List S57) (i : Nat) : lstV l (i + 1) = [some (.buf 1 [[.ptr 1 0 0]] false false), some (.buf 2 [[.ms 2 1 0 l.length none, .ms 3 3 0 l.length none]] false false), some (.buf 1 ((ksV l l.length).map Cd.str.enc) false true), some (.buf 3 (l.map k57.enc) false true), some (.buf 1 [[.ms 7 3 0 (i + 1) none]] false false), some (.buf 1 [[.ptr 1 0 0]] false false), some (.buf 1 [[.int .i64 0]] false true), some (.buf 3 ((l.take (i + 1)).map k57.enc) false true)] := rfl
theorem finish_v4 {n m : Nat} {ks : List ByteArray} {vs : List S57} {rows : List (List V)} {f : Bool} {x4 x5 x6 : Option Ob} {rest : Heap} (hl : n = rows.length) :
    finish 4 true (.ms 7 3 0 n none) (some (.buf 1 [[.ptr 1 0 0]] false false) :: some (.buf 2 [[.ms 2 1 0 m none, .ms 3 3 0 m none]] false false) :: some (.buf 1 (ks.map Cd.str.enc) false true) :: some (.buf 3 (vs.map k57.enc) false true) :: x4 :: x5 :: x6 :: some (.buf 3 rows f true) :: rest) =
    some (.fz rows, [some (.buf 1 [[.ptr 1 0 0]] false false), some (.buf 2 [[.ms 2 1 0 m none, .ms 3 3 0 m none]] false false), some (.buf 1 (ks.map Cd.str.enc) false true), some (.buf 3 (vs.map k57.enc) false true)]) := by
  subst hl
  unfold finish
  simp only [if_true, frz, frzAll, frzG, frzGAll, ms2, msUp, frzG, ms2, msUp, Rd.run, Heap.at?]
  rw [if_pos ⟨trivial, by omega⟩]
  simp only [Rd.run, List.drop_zero, List.take_length, Option.map_some, Option.bind_some]
  rfl
theorem eqPcatL (i r o : Nat) : eqV T 85 (.ptr i r o) .nilp = some false := by
  unfold eqV
  rw [T_85]
theorem eqPmapV (i r o : Nat) : eqV T 142 (.ptr i r o) .nilp = some false := by
  unfold eqV
  rw [T_142]
theorem lim39 (l : List S57) (hl : l.length < 1000000) : lim T fns 39 [.ptr 0 0 0] [catO 1, mobC 2 3 l.length, kob (ksV l l.length) [] false, vobC l [] false] =
    some (.fz (l.map k57.enc), [some (catO 1), some (mobC 2 3 l.length), some (kob (ksV l l.length) [] false), some (vobC l [] false)]) := by
  have kl := ksV_len (Nat.le_refl l.length)
  have hall := fun (n : Nat) (hn : 4 ≤ n) (o0 : Option Ob) (rest : Heap) => allV_1 (ksV l l.length) l [] [] false false n hn o0 rest
  rw [kl] at hall
  simp only [catO, mobC, kob, vobC, List.append_nil] at hall ⊢
  have hf : fns 179 = some fn179 := rfl
  refine fn_rule (fn := fn39) rfl rfl (by simp [fn39]) ?_
  unfold fn39
  simp only [Tryz.f39, Option.getD_some, argEnv, List.map_nil, List.length_nil]
  simp only [go_sem, T_1, T_9, T_26, T_54, T_55, T_57, T_85, T_142, T_144, hall, hf, eqPcatL, nilCheckR]
  refine ⟨⟨rfl, rfl, by simp [fn179]⟩, ?_⟩
  unfold fn179
  simp only [Tryz.f179, Option.getD_some, argEnv]
  have hz : (0 : Int) = ((0 : Nat) : Int) := rfl
  simp only [go_sem, T_3, T_4, T_9, T_26, T_47, T_54, T_55, T_57, T_142, T_208, eqPmapV, nilCheckR, hz, Nat.zero_le, Nat.le_refl, List.filter, Nat.reduceBEq, Bool.not_false, Bool.not_true]
  refine iloop_rule (ι := Nat) (S := fun i => ⟨[(0, .undef), (5, .ms 3 3 0 l.length none), (22, .ms 2 1 0 l.length none), (23, .int .i64 l.length), (24, .int .i64 i)], lstV l i, [0], none⟩) (m := fun i => l.length + 1 - i)
    (I := fun i => i ≤ l.length) ?_ 0 _ (Nat.zero_le _) ?_ ?_ rfl
  · rintro i hi2
    by_cases hi3 : i < l.length
    · have hi4 : i < (ksV l l.length).length := by omega
      have hi5 : i < l.length := hi3
      have hk1 : (ksV l l.length)[i]? = some l[i].f0 := by simp [ksV, hi3]
      have hv1 : l[i]? = some l[i] := List.getElem?_eq_getElem hi3
      have hnext := List.take_succ_eq_append_getElem hi3
      cases i with
      | zero =>
        simp only [lstV_0]
        simp only [go_sem, T_3, T_4, T_9, T_26, T_47, T_54, T_55, T_57, T_142, T_208, T_1, T_9, T_26, T_54, T_55, T_57, T_85, T_142, T_144, hi3, hi4, hi5, hv1, hk1, kl, all_str, all57, k57_enc, append_nils (ti := ⟨.struct [(0, 9), (1, 54), (2, 55)], 3, 24, .agg [.str ⟨#[]⟩, .int .u32 0, .int .u16 0]⟩) (show 24 ≤ 1000 by decide), wrap_i64s (show 0 < 1000000000000000000 by omega), List.contains_cons, List.contains_nil, Nat.reduceBEq, Bool.or_false, List.filter, Bool.not_false, Bool.not_true]
        refine ⟨1, by omega, by simp only; omega, ?_, by kernel_rfl, rfl⟩
        show head _ _ _ = some ⟨_, lstV l 1⟩
        rw [lstV_s, hnext]
        show _ = _
        kernel_rfl
      | succ i =>
        simp only [lstV_s]
        have htl : (l.take (i + 1)).length = i + 1 := by simp; omega
        simp only [go_sem, T_3, T_4, T_9, T_26, T_47, T_54, T_55, T_57, T_142, T_208, T_1, T_9, T_26, T_54, T_55, T_57, T_85, T_142, T_144, hi3, hi4, hi5, hv1, hk1, kl, htl, all_str, all57, k57_enc, appL_some, show (i + 1 + 1) * 24 ≤ 140737488355328 by omega, show i + 1 + 1 ≤ 140737488355328 by omega, wrap_i64s (show i + 1 < 1000000000000000000 by omega), List.contains_cons, List.contains_nil, Nat.reduceBEq, Bool.or_false, List.filter, Bool.not_false, Bool.not_true]
        refine ⟨i + 1 + 1, by omega, by simp only; omega, ?_, by kernel_rfl, rfl⟩
        show head _ _ _ = some ⟨_, lstV l (i + 1 + 1)⟩
        rw [lstV_s, hnext]
        simp only [List.map_append, List.map_cons, List.map_nil, k57_enc]
        show _ = _
        kernel_rfl
    · have : i = l.length := by omega
      cases i with
      | zero =>
        have hn : l = [] := List.eq_nil_of_length_eq_zero this.symm
        subst hn
        simp only [lstV_0]
        simp only [go_sem, T_3, T_4, T_9, T_26, T_47, T_54, T_55, T_57, T_142, T_208, T_1, T_9, T_26, T_54, T_55, T_57, T_85, T_142, T_144, List.length_nil, Nat.lt_irrefl]
        show _ = _
        kernel_rfl
      | succ i =>
        simp only [lstV_s]
        simp only [go_sem, T_3, T_4, T_9, T_26, T_47, T_54, T_55, T_57, T_142, T_208, T_1, T_9, T_26, T_54, T_55, T_57, T_85, T_142, T_144, hi3]
        rw [this, List.take_length]
        exact finish_v4 (by simp)
  · kernel_rfl
  · kernel_rfl
end Go.Proofs.YtoggbcckkjfkhaaGreat.R.Vol
