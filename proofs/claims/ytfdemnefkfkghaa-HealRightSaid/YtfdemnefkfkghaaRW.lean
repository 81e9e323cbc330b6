/- Stepping: what is to be shown of a run, from its beginning to its end. -/
import Derived.Test.YtfdemnefkfkghaaRV
namespace Go.Proofs.Ytfdemnefkfkghaa.R
set_option linter.unusedVariables false
set_option linter.unusedSimpArgs false
open Go

theorem rounds_mono {b b' : St → Option (Ex × St)} (hb : ∀ s r, b s = some r → b' s = some r) : ∀ {n m : Nat} {s : St} {r : Ex × St}, n ≤ m → rounds b n s = some r → rounds b' m s = some r
  | 0, m, s, r, _, h => by simp [rounds] at h
  | n + 1, m, s, r, hm, h => by
    obtain ⟨m, rfl⟩ : ∃ m', m = m' + 1 := ⟨m - 1, by omega⟩
    unfold rounds at h ⊢
    cases h1 : b s with
    | none => simp [h1] at h
    | some x =>
      simp only [h1] at h
      simp only [hb s x h1]
      obtain ⟨ex, s1⟩ := x
      cases ex with
      | normal => exact rounds_mono hb (by omega) h
      | exit i => exact h
      | ret => exact h

theorem acode_mono {cx : Cx} {nt keep R R' : Nat} {gcs : List AGc} (hR : R ≤ R') : ∀ {c : Code} {id : Option Nat} {s : St} {r : Ex × St}, acode cx nt keep R gcs c id s = some r → acode cx nt keep R' gcs c id s = some r
  | .skip, id, s, r, h => h
  | .region .., id, s, r, h => h
  | .seq x y, id, s, r, h => by
    simp only [acode, Option.bind_eq_some_iff] at h ⊢
    obtain ⟨⟨ex, s1⟩, h1, h2⟩ := h
    refine ⟨_, acode_mono hR h1, ?_⟩
    cases ex with
    | normal => exact acode_mono hR h2
    | exit k => exact h2
    | ret => exact h2
  | .cond c x y, id, s, r, h => by
    simp only [acode] at h ⊢
    split at h
    · exact acode_mono hR h
    · exact acode_mono hR h
    · cases h
  | .block b c, id, s, r, h => by
    simp only [acode, Option.map_eq_some_iff] at h ⊢
    obtain ⟨r1, h1, h2⟩ := h
    exact ⟨r1, acode_mono hR h1, h2⟩
  | .loop c, id, s, r, h => by
    simp only [acode] at h ⊢
    refine rounds_mono (fun s r hb => ?_) hR h
    rw [Option.bind_eq_some_iff] at hb ⊢
    obtain ⟨s0, h1, h2⟩ := hb
    exact ⟨s0, h1, acode_mono hR h2⟩
  | .exit i, id, s, r, h => h
  | .ret, id, s, r, h => h
  | .rangeFunc .., id, s, r, h | .scope .., id, s, r, h | .label .., id, s, r, h | .goto .., id, s, r, h | .refuse .., id, s, r, h => by simp [acode] at h

/-- How a function is run: slots, objects that came in, what stays at loops' heads. -/
structure Fr where
  nt : Nat
  keep : Nat
  gcs : List AGc

abbrev Aft := Ex → St → Prop

/-- Code, run from 's' on, ends as 'Q' says. -/
def W (cx : Cx) (fr : Fr) (c : Code) (id : Option Nat) (s : St) (Q : Aft) : Prop := ∃ R ex s', acode cx fr.nt fr.keep R fr.gcs c id s = some (ex, s') ∧ Q ex s'
/-- And then other code. -/
def SQ (cx : Cx) (fr : Fr) (b : Code) (Q : Aft) : Aft := fun ex s => match ex with
  | .normal => W cx fr b none s Q
  | ex => Q ex s
/-- Out of a block. -/
def BQ (i : Nat) (Q : Aft) : Aft := fun ex s => match ex with
  | .exit j => if j = i then Q .normal s else Q (.exit j) s
  | ex => Q ex s
def WC (cx : Cx) (fr : Fr) (v : V) (a b : Code) (s : St) (Q : Aft) : Prop := match v with
  | .bool x => if x = true then W cx fr a none s Q else W cx fr b none s Q
  | _ => False
/-- Operations, in the text's order. -/
def WO (cx : Cx) (nt : Nat) (ops : Array Oper) (rest : List Oper) (s : St) (Q : Aft) : Prop := ∃ s', runOps cx nt ops rest s = some s' ∧ Q .normal s'
/-- One operation's answer. -/
def WA (cx : Cx) (nt : Nat) (ops : Array Oper) (x : Option ((V × Upd) × List Nat)) (d : Option Tmp) (rest : List Oper) (e : Env) (h : Heap) (Q : Aft) : Prop := match x with
  | none => False
  | some ((v, u), _) => match d with
    | none => WO cx nt ops rest ⟨e, h.puts u⟩ Q
    | some d => d < nt ∧ WO cx nt ops rest ⟨(d, v) :: e, h.puts u⟩ Q
def WG (cx : Cx) (nt : Nat) (ops : Array Oper) (w : Option Bool) (o : Oper) (rest : List Oper) (s : St) (Q : Aft) : Prop := match w with
  | none => False
  | some true => WA cx nt ops ((aop cx s.heap.length s.env o).run s.heap []) o.dst rest s.env s.heap Q
  | some false => match o.dst with
    | none => WO cx nt ops rest s Q
    | some d => d < nt ∧ WO cx nt ops rest ⟨(d, .tup []) :: s.env, s.heap⟩ Q
/-- Operations in an order that is drawn. -/
def WD (cx : Cx) (nt : Nat) (ops : Array Oper) (bef : Array Nat) (rest : List Oper) (j : Nat) (s : St) (done : List Did) (Q : Aft) : Prop := ∃ s', runDraw cx nt ops bef rest j s done = some s' ∧ Q .normal s'

section
variable {cx : Cx} {fr : Fr} {nt : Nat} {ops : Array Oper} {a b c : Code} {id : Option Nat} {s : St} {Q : Aft}

theorem W_skip : W cx fr .skip id s Q ↔ Q .normal s := ⟨fun ⟨R, ex, s', h, q⟩ => by cases h; exact q, fun q => ⟨0, _, _, rfl, q⟩⟩
theorem W_exit {i : Nat} : W cx fr (.exit i) id s Q ↔ Q (.exit i) s := ⟨fun ⟨R, ex, s', h, q⟩ => by cases h; exact q, fun q => ⟨0, _, _, rfl, q⟩⟩
theorem W_ret : W cx fr .ret id s Q ↔ Q .ret s := ⟨fun ⟨R, ex, s', h, q⟩ => by cases h; exact q, fun q => ⟨0, _, _, rfl, q⟩⟩

theorem W_seq : W cx fr (.seq a b) id s Q ↔ W cx fr a none s (SQ cx fr b Q) := by
  constructor
  · rintro ⟨R, ex, s', h, q⟩
    simp only [acode, Option.bind_eq_some_iff] at h
    obtain ⟨⟨ex1, s1⟩, h1, h2⟩ := h
    refine ⟨R, ex1, s1, h1, ?_⟩
    cases ex1 with
    | normal => exact ⟨R, ex, s', h2, q⟩
    | exit k => cases h2; exact q
    | ret => cases h2; exact q
  · rintro ⟨R, ex, s', h, q⟩
    cases ex with
    | normal =>
      obtain ⟨R2, ex2, s2, h2, q2⟩ := q
      refine ⟨max R R2, ex2, s2, ?_, q2⟩
      simp only [acode, Option.bind_eq_some_iff]
      exact ⟨_, acode_mono (Nat.le_max_left _ _) h, acode_mono (Nat.le_max_right _ _) h2⟩
    | exit k => exact ⟨R, _, _, by simp only [acode, h]; rfl, q⟩
    | ret => exact ⟨R, _, _, by simp only [acode, h]; rfl, q⟩
theorem SQ_normal : SQ cx fr b Q .normal s ↔ W cx fr b none s Q := Iff.rfl
theorem SQ_exit {i : Nat} : SQ cx fr b Q (.exit i) s ↔ Q (.exit i) s := Iff.rfl
theorem SQ_ret : SQ cx fr b Q .ret s ↔ Q .ret s := Iff.rfl

theorem W_block {i : Nat} : W cx fr (.block i c) id s Q ↔ W cx fr c (some i) s (BQ i Q) := by
  constructor
  · rintro ⟨R, ex, s', h, q⟩
    simp only [acode, Option.map_eq_some_iff] at h
    obtain ⟨⟨ex1, s1⟩, h1, h2⟩ := h
    refine ⟨R, ex1, s1, h1, ?_⟩
    cases ex1 with
    | normal => cases h2; exact q
    | exit k =>
      simp only at h2
      show if k = i then _ else _
      split
      · rename_i e; rw [if_pos e] at h2; cases h2; exact q
      · rename_i e; rw [if_neg e] at h2; cases h2; exact q
    | ret => cases h2; exact q
  · rintro ⟨R, ex, s', h, q⟩
    cases ex with
    | normal => exact ⟨R, _, _, by simp only [acode, h]; rfl, q⟩
    | exit k =>
      by_cases e : k = i
      · have q' : Q .normal s' := by
          have : (if k = i then Q .normal s' else Q (.exit k) s') := q
          rwa [if_pos e] at this
        exact ⟨R, .normal, s', by simp only [acode, h, Option.map_some, if_pos e], q'⟩
      · have q' : Q (.exit k) s' := by
          have : (if k = i then Q .normal s' else Q (.exit k) s') := q
          rwa [if_neg e] at this
        exact ⟨R, .exit k, s', by simp only [acode, h, Option.map_some, if_neg e], q'⟩
    | ret => exact ⟨R, _, _, by simp only [acode, h]; rfl, q⟩
theorem BQ_normal {i : Nat} : BQ i Q .normal s ↔ Q .normal s := Iff.rfl
theorem BQ_exit {i j : Nat} : BQ i Q (.exit j) s ↔ if j = i then Q .normal s else Q (.exit j) s := Iff.rfl
theorem BQ_ret {i : Nat} : BQ i Q .ret s ↔ Q .ret s := Iff.rfl

theorem W_cond {x : Operand} : W cx fr (.cond x a b) id s Q ↔ WC cx fr (ev s.env x) a b s Q := by
  unfold W WC
  simp only [acode]
  generalize ev s.env x = v
  cases v with
  | bool y =>
    cases y with
    | true => rfl
    | false => simp [W]
  | _ => simp
theorem WC_bool {x : Bool} : WC cx fr (.bool x) a b s Q ↔ if x = true then W cx fr a none s Q else W cx fr b none s Q := Iff.rfl

theorem W_region {i : Nat} : W cx fr (.region i ops false) id s Q ↔ WO cx fr.nt ops ops.toList s Q := by
  constructor
  · rintro ⟨R, ex, s', h, q⟩
    simp only [acode, aregion, Bool.false_eq_true, if_false, Option.map_eq_some_iff, Prod.mk.injEq] at h
    obtain ⟨s1, h1, rfl, rfl⟩ := h
    exact ⟨s1, h1, q⟩
  · rintro ⟨s', h, q⟩
    exact ⟨0, _, _, by simp only [acode, aregion, Bool.false_eq_true, if_false, h]; rfl, q⟩
theorem W_draw {i : Nat} : W cx fr (.region i ops true) id s Q ↔ WD cx fr.nt ops (Region.before ops) ops.toList 0 s [] Q := by
  constructor
  · rintro ⟨R, ex, s', h, q⟩
    simp only [acode, aregion, if_true, Option.map_eq_some_iff, Prod.mk.injEq] at h
    obtain ⟨s1, h1, rfl, rfl⟩ := h
    exact ⟨s1, h1, q⟩
  · rintro ⟨s', h, q⟩
    exact ⟨0, _, _, by simp only [acode, aregion, if_true, h]; rfl, q⟩

theorem WO_nil : WO cx nt ops [] s Q ↔ Q .normal s := ⟨fun ⟨s', h, q⟩ => by cases h; exact q, fun q => ⟨s, rfl, q⟩⟩
theorem WO_any {o : Oper} {r : List Oper} : WO cx nt ops (o :: r) s Q ↔ WG cx nt ops (wants ops s.env o) o r s Q := by
  unfold WO WG
  simp only [runOps]
  cases hw : wants ops s.env o with
  | none => simp
  | some w =>
    cases w with
    | false =>
      simp only [putDst]
      cases o.dst with
      | none => rfl
      | some d =>
        simp only
        by_cases hd : d < nt
        · simp [hd, WO]
        · simp [hd]
    | true =>
      simp only [WA]
      cases (aop cx s.heap.length s.env o).run s.heap [] with
      | none => simp
      | some x =>
        obtain ⟨⟨v, u⟩, l⟩ := x
        simp only [putDst]
        cases o.dst with
        | none => rfl
        | some d =>
          simp only
          by_cases hd : d < nt
          · simp [hd, WO]
          · simp [hd]

/-- No guard. -/
theorem WO_cons {d : Option Tmp} {op : Op} {t : TypeId} {p : String} {af : Array Edge} {r : List Oper} {e : Env} {h : Heap} : WO cx nt ops ({ dst := d, op, type := t, pos := p, after := af, guard := none } :: r) ⟨e, h⟩ Q ↔
    WA cx nt ops ((aop cx h.length e { dst := d, op, type := t, pos := p, after := af, guard := none }).run h []) d r e h Q := WO_any
theorem WO_guard {d : Option Tmp} {op : Op} {t : TypeId} {p : String} {af : Array Edge} {j : Nat} {b : Bool} {r : List Oper} {e : Env} {h : Heap} : WO cx nt ops ({ dst := d, op, type := t, pos := p, after := af, guard := some (j, b) } :: r) ⟨e, h⟩ Q ↔
    WG cx nt ops (if skipped ops e j then some false else (yields ops e j).map (· == b)) { dst := d, op, type := t, pos := p, after := af, guard := some (j, b) } r ⟨e, h⟩ Q := WO_any
theorem WG_true {o : Oper} {r : List Oper} {e : Env} {h : Heap} : WG cx nt ops (some true) o r ⟨e, h⟩ Q ↔ WA cx nt ops ((aop cx h.length e o).run h []) o.dst r e h Q := Iff.rfl
theorem WG_false {op : Op} {d t : Nat} {p : String} {af : Array Edge} {g : Option (Nat × Bool)} {r : List Oper} {e : Env} {h : Heap} : WG cx nt ops (some false) { dst := some d, op, type := t, pos := p, after := af, guard := g } r ⟨e, h⟩ Q ↔ d < nt ∧ WO cx nt ops r ⟨(d, .tup []) :: e, h⟩ Q := Iff.rfl
theorem WG_ite {o : Oper} {r : List Oper} {p : Prop} [Decidable p] {x : Bool} : WG cx nt ops (some (decide p == x)) o r s Q ↔ if (decide p == x) = true then WG cx nt ops (some true) o r s Q else WG cx nt ops (some false) o r s Q := by
  cases h : (decide p == x) <;> simp
theorem WA_some {v : V} {u : Upd} {l : List Nat} {d : Nat} {r : List Oper} {e : Env} {h : Heap} : WA cx nt ops (some ((v, u), l)) (some d) r e h Q ↔ d < nt ∧ WO cx nt ops r ⟨(d, v) :: e, h.puts u⟩ Q := Iff.rfl
theorem WA_none {v : V} {u : Upd} {l : List Nat} {r : List Oper} {e : Env} {h : Heap} : WA cx nt ops (some ((v, u), l)) none r e h Q ↔ WO cx nt ops r ⟨e, h.puts u⟩ Q := Iff.rfl
theorem WO_move {d : Nat} {x : Operand} {t : TypeId} {p : String} {af : Array Edge} {r : List Oper} {e : Env} {h : Heap} : WO cx nt ops ({ dst := some d, op := .move x, type := t, pos := p, after := af, guard := none } :: r) ⟨e, h⟩ Q ↔ d < nt ∧ WO cx nt ops r ⟨(d, ev e x) :: e, h⟩ Q := WO_any
theorem WO_assign {d : Nat} {x : Operand} {t : TypeId} {p : String} {af : Array Edge} {r : List Oper} {e : Env} {h : Heap} : WO cx nt ops ({ dst := some d, op := .assign x, type := t, pos := p, after := af, guard := none } :: r) ⟨e, h⟩ Q ↔ d < nt ∧ WO cx nt ops r ⟨(d, ev e x) :: e, h⟩ Q := WO_any

/-- What was done so far, none of which turned an object. -/
structure QD where
  l : List Did
  q : ∀ c ∈ l, c.upd = []
def QD.nil : QD := ⟨[], by simp⟩
def QD.snoc (d : QD) (w : Bool) (v : V) (r : List Nat) : QD := ⟨d.l ++ [⟨w, v, [], r⟩], fun c hc => by
  rcases List.mem_append.1 hc with h | h
  · exact d.q c h
  · simp at h; subst h; rfl⟩
def WQ (cx : Cx) (nt : Nat) (ops : Array Oper) (bef : Array Nat) (rest : List Oper) (j : Nat) (s : St) (q : QD) (Q : Aft) : Prop := WD cx nt ops bef rest j s q.l Q
/-- One operation's answer, in an order that is drawn. -/
def QA (cx : Cx) (nt : Nat) (ops : Array Oper) (bef : Array Nat) (x : Option ((V × Upd) × List Nat)) (d : Option Tmp) (rest : List Oper) (j : Nat) (e : Env) (h : Heap) (q : QD) (Q : Aft) : Prop := match x with
  | none => False
  | some ((v, []), l) => (match d with
    | none => WQ cx nt ops bef rest (j + 1) ⟨e, Heap.pad (h.length + 1) h⟩ (q.snoc true v l) Q
    | some d => d < nt ∧ WQ cx nt ops bef rest (j + 1) ⟨(d, v) :: e, Heap.pad (h.length + 1) h⟩ (q.snoc true v l) Q)
  | some ((v, u), l) => apart bef q.l j ⟨true, v, u, l⟩ = true ∧ (match d with
    | none => WD cx nt ops bef rest (j + 1) ⟨e, Heap.pad (h.length + 1) (h.puts u)⟩ (q.l ++ [⟨true, v, u, l⟩]) Q
    | some d => d < nt ∧ WD cx nt ops bef rest (j + 1) ⟨(d, v) :: e, Heap.pad (h.length + 1) (h.puts u)⟩ (q.l ++ [⟨true, v, u, l⟩]) Q)
def QG (cx : Cx) (nt : Nat) (ops : Array Oper) (bef : Array Nat) (w : Option Bool) (o : Oper) (rest : List Oper) (j : Nat) (s : St) (q : QD) (Q : Aft) : Prop := match w with
  | none => False
  | some true => QA cx nt ops bef ((aop cx s.heap.length s.env o).run s.heap []) o.dst rest j s.env s.heap q Q
  | some false => match o.dst with
    | none => WQ cx nt ops bef rest (j + 1) s (q.snoc false (.tup []) []) Q
    | some d => d < nt ∧ WQ cx nt ops bef rest (j + 1) ⟨(d, .tup []) :: s.env, s.heap⟩ (q.snoc false (.tup []) []) Q

theorem W_draw_q {i : Nat} : W cx fr (.region i ops true) id s Q ↔ WQ cx fr.nt ops (Region.before ops) ops.toList 0 s QD.nil Q := W_draw
theorem WQ_nil {bef : Array Nat} {j : Nat} {q : QD} : WQ cx nt ops bef [] j s q Q ↔ Q .normal s := ⟨fun ⟨s', h, q⟩ => by cases h; exact q, fun q => ⟨s, rfl, q⟩⟩
theorem apart_quiet (bef : Array Nat) (q : QD) (j : Nat) (v : V) (l : List Nat) : apart bef q.l j ⟨true, v, [], l⟩ = true := by
  unfold apart
  rw [List.all_eq_true]
  rintro ⟨c, i⟩ hm
  have hc : c ∈ q.l := by
    obtain ⟨k, hk⟩ := List.mem_iff_getElem?.1 hm
    rw [List.getElem?_zipIdx, Option.map_eq_some_iff] at hk
    obtain ⟨c', h1, h2⟩ := hk
    cases h2
    exact List.mem_of_getElem? h1
  simp [clash, Did.touches, q.q c hc]
theorem WQ_any {bef : Array Nat} {o : Oper} {r : List Oper} {j : Nat} {q : QD} : WQ cx nt ops bef (o :: r) j s q Q ↔ QG cx nt ops bef (wants ops s.env o) o r j s q Q := by
  unfold WQ WD QG
  simp only [runDraw]
  cases hw : wants ops s.env o with
  | none => simp
  | some w =>
    cases w with
    | false =>
      simp only [putDst]
      cases o.dst with
      | none => rfl
      | some d =>
        simp only
        by_cases hd : d < nt
        · simp [hd, WQ, WD, QD.snoc]
        · simp [hd]
    | true =>
      simp only [QA]
      cases (aop cx s.heap.length s.env o).run s.heap [] with
      | none => simp
      | some x =>
        obtain ⟨⟨v, u⟩, l⟩ := x
        cases u with
        | nil =>
          simp only [apart_quiet, if_true, putDst, Heap.puts]
          cases o.dst with
          | none => rfl
          | some d =>
            simp only
            by_cases hd : d < nt
            · simp [hd, WQ, WD, QD.snoc]
            · simp [hd]
        | cons p u =>
          simp only
          by_cases ha : apart bef q.l j ⟨true, v, p :: u, l⟩ = true
          · rw [if_pos ha]
            simp only [ha, true_and, putDst]
            cases o.dst with
            | none => rfl
            | some d =>
              simp only
              by_cases hd : d < nt
              · simp [hd, WD]
              · simp [hd]
          · rw [if_neg ha]
            simp [ha]
theorem WQ_cons {bef : Array Nat} {d : Option Tmp} {op : Op} {t : TypeId} {p : String} {af : Array Edge} {r : List Oper} {j : Nat} {e : Env} {h : Heap} {q : QD} : WQ cx nt ops bef ({ dst := d, op, type := t, pos := p, after := af, guard := none } :: r) j ⟨e, h⟩ q Q ↔
    QA cx nt ops bef ((aop cx h.length e { dst := d, op, type := t, pos := p, after := af, guard := none }).run h []) d r j e h q Q := WQ_any
theorem WQ_guard {bef : Array Nat} {d : Option Tmp} {op : Op} {t : TypeId} {p : String} {af : Array Edge} {i : Nat} {b : Bool} {r : List Oper} {j : Nat} {e : Env} {h : Heap} {q : QD} : WQ cx nt ops bef ({ dst := d, op, type := t, pos := p, after := af, guard := some (i, b) } :: r) j ⟨e, h⟩ q Q ↔
    QG cx nt ops bef (if skipped ops e i then some false else (yields ops e i).map (· == b)) { dst := d, op, type := t, pos := p, after := af, guard := some (i, b) } r j ⟨e, h⟩ q Q := WQ_any
theorem QG_true {bef : Array Nat} {o : Oper} {r : List Oper} {j : Nat} {e : Env} {h : Heap} {q : QD} : QG cx nt ops bef (some true) o r j ⟨e, h⟩ q Q ↔ QA cx nt ops bef ((aop cx h.length e o).run h []) o.dst r j e h q Q := Iff.rfl
theorem QG_false {bef : Array Nat} {op : Op} {d t : Nat} {p : String} {af : Array Edge} {g : Option (Nat × Bool)} {r : List Oper} {j : Nat} {e : Env} {h : Heap} {q : QD} : QG cx nt ops bef (some false) { dst := some d, op, type := t, pos := p, after := af, guard := g } r j ⟨e, h⟩ q Q ↔
    d < nt ∧ WQ cx nt ops bef r (j + 1) ⟨(d, .tup []) :: e, h⟩ (q.snoc false (.tup []) []) Q := Iff.rfl
theorem QA_quiet {bef : Array Nat} {v : V} {l : List Nat} {d : Nat} {r : List Oper} {j : Nat} {e : Env} {h : Heap} {q : QD} : QA cx nt ops bef (some ((v, []), l)) (some d) r j e h q Q ↔ d < nt ∧ WQ cx nt ops bef r (j + 1) ⟨(d, v) :: e, Heap.pad (h.length + 1) h⟩ (q.snoc true v l) Q := Iff.rfl

/-- A loop: what stands at its head, and that each round leads on or out. -/
def LP (fr : Fr) (id : Option Nat) {ι : Type} (S : ι → St) (m : ι → Nat) (I : ι → Prop) (Q : Aft) (n : Nat) : Aft := fun ex s => match ex with
  | .normal => ∃ y, I y ∧ m y < n ∧ head fr.keep (gcOf fr.gcs id) s = some (S y)
  | ex => Q ex s
theorem LP_exit {ι : Type} {S : ι → St} {m : ι → Nat} {I : ι → Prop} {n i : Nat} : LP fr id S m I Q n (.exit i) s ↔ Q (.exit i) s := Iff.rfl
theorem LP_ret {ι : Type} {S : ι → St} {m : ι → Nat} {I : ι → Prop} {n : Nat} : LP fr id S m I Q n .ret s ↔ Q .ret s := Iff.rfl

theorem loop_rule {ι : Type} (S : ι → St) (m : ι → Nat) (I : ι → Prop) (step : ∀ x, I x → W cx fr c none (S x) (LP fr id S m I Q (m x))) : ∀ (x : ι) (s : St), I x → head fr.keep (gcOf fr.gcs id) s = some (S x) → W cx fr (.loop c) id s Q := by
  have key : ∀ (n : Nat) (x : ι) (s : St), m x < n → I x → head fr.keep (gcOf fr.gcs id) s = some (S x) → W cx fr (.loop c) id s Q := by
    intro n
    induction n with
    | zero => intro x s h; omega
    | succ n ih =>
      intro x s hm hI hs
      obtain ⟨R, ex, s', h, q⟩ := step x hI
      cases ex with
      | normal =>
        obtain ⟨y, hy, hlt, hh⟩ := q
        obtain ⟨R2, ex2, s2, h2, q2⟩ := ih y s' (by omega) hy hh
        refine ⟨max R R2 + 1, ex2, s2, ?_, q2⟩
        simp only [acode] at h2 ⊢
        unfold rounds
        rw [hs]
        simp only [Option.bind_some, acode_mono (show R ≤ max R R2 + 1 by omega) h]
        refine rounds_mono (fun s r hb => ?_) (show R2 ≤ max R R2 by omega) h2
        rw [Option.bind_eq_some_iff] at hb ⊢
        obtain ⟨s0, h3, h4⟩ := hb
        exact ⟨s0, h3, acode_mono (by omega) h4⟩
      | exit i =>
        refine ⟨R + 1, _, _, ?_, q⟩
        simp only [acode]
        unfold rounds
        rw [hs]
        simp only [Option.bind_some, acode_mono (show R ≤ R + 1 by omega) h]
      | ret =>
        refine ⟨R + 1, _, _, ?_, q⟩
        simp only [acode]
        unfold rounds
        rw [hs]
        simp only [Option.bind_some, acode_mono (show R ≤ R + 1 by omega) h]
  exact fun x s hI hs => key _ x s (Nat.lt_succ_self _) hI hs

theorem W_mono {Q' : Aft} (h : ∀ ex s, Q ex s → Q' ex s) : W cx fr c id s Q → W cx fr c id s Q' := fun ⟨R, ex, s', h1, q⟩ => ⟨R, ex, s', h1, h _ _ q⟩
end

/-- A function's end. -/
def FQ (T : TT) (res : List ResultVar) (rfz : Bool) (keep : Nat) (r : V × Heap) : Aft := fun ex s => match ex with
  | .normal | .ret => ((resAll T s res).bind fun vs => finish keep rfz (oneOf vs) s.heap) = some r
  | _ => False

theorem fn_rule {T : TT} {fns : FuncId → Option AFn} {g : FuncId} {fn : AFn} (hfn : fns g = some fn) (hi : fn.intr = none) {args : List V} {hs : List Ob} {r : V × Heap} (hl : args.length ≤ fn.ntmps)
    (h : W (LX T fns) ⟨fn.ntmps, hs.length, fn.gcs⟩ fn.body none ⟨argEnv 0 args, hs.map some⟩ (FQ T fn.res fn.rfz hs.length r)) : lim T fns g args hs = some r := by
  obtain ⟨R, ex, s', h1, q⟩ := h
  refine lim_run T fns hfn hi (R0 := R) ?_
  unfold runFn
  rw [if_neg (by omega), Option.bind_eq_some_iff]
  refine ⟨_, h1, ?_⟩
  cases ex with
  | normal => exact q
  | ret => exact q
  | exit i => exact q.elim

mutual
/-- A value that leads to no object, and isn't frozen into another one. -/
def V.plain : V → Bool
  | .undef | .bool _ | .int .. | .str _ | .fz _ | .nilp | .el .. | .nilm | .nilf | .nili => true
  | .clo _ cs => V.allPlain cs
  | .agg cs => V.allPlain cs
  | .tup vs => V.allPlain vs
  | .ifc _ v => V.plain v
  | _ => false
def V.allPlain : List V → Bool
  | [] => true
  | v :: r => V.plain v && V.allPlain r
end

mutual
theorem plain_re (f : Nat → Option Nat) : ∀ v : V, v.plain = true → V.re f v = some v
  | .clo g cs, h => by simp only [V.plain] at h; simp [V.re, plainAll_re f cs h]
  | .agg cs, h => by simp only [V.plain] at h; simp [V.re, plainAll_re f cs h]
  | .tup cs, h => by simp only [V.plain] at h; simp [V.re, plainAll_re f cs h]
  | .ifc t v, h => by simp only [V.plain] at h; simp [V.re, plain_re f v h]
  | .undef, _ | .bool _, _ | .int _ _, _ | .str _, _ | .fz _, _ | .nilp, _ | .el _ _, _ | .nilm, _ | .nilf, _ | .nili, _ => rfl
theorem plainAll_re (f : Nat → Option Nat) : ∀ l : List V, V.allPlain l = true → V.reAll f l = some l
  | [], _ => rfl
  | v :: r, h => by
    simp only [V.allPlain, Bool.and_eq_true] at h
    simp [V.reAll, plain_re f v h.1, plainAll_re f r h.2]
end

mutual
theorem plain_ids : ∀ v : V, v.plain = true → V.ids v = []
  | .clo g cs, h => by simp only [V.plain] at h; simp [V.ids, plainAll_ids cs h]
  | .agg cs, h => by simp only [V.plain] at h; simp [V.ids, plainAll_ids cs h]
  | .tup cs, h => by simp only [V.plain] at h; simp [V.ids, plainAll_ids cs h]
  | .ifc t v, h => by simp only [V.plain] at h; simp [V.ids, plain_ids v h]
  | .undef, _ | .bool _, _ | .int _ _, _ | .str _, _ | .fz _, _ | .nilp, _ | .el _ _, _ | .nilm, _ | .nilf, _ | .nili, _ => rfl
theorem plainAll_ids : ∀ l : List V, V.allPlain l = true → V.allIds l = []
  | [], _ => rfl
  | v :: r, h => by
    simp only [V.allPlain, Bool.and_eq_true] at h
    simp [V.allIds, plain_ids v h.1, plainAll_ids r h.2]
end

section
variable {α : Type} {ms : Nat → Nat → Nat → Nat → (V → Upd → Rd α) → Rd α}
mutual
theorem plain_frzG (k : V → Upd → Rd α) : ∀ v : V, v.plain = true → frzG ms v k = k v []
  | .agg cs, h => by simp only [V.plain] at h; simp only [frzG]; rw [plainAll_frzG (fun cs u => k (.agg cs) u) cs h]
  | .tup cs, h => by simp only [V.plain] at h; simp only [frzG]; rw [plainAll_frzG (fun cs u => k (.tup cs) u) cs h]
  | .clo g cs, h => by simp only [frzG]
  | .ifc t v, h => by simp only [frzG]
  | .undef, _ | .bool _, _ | .int _ _, _ | .str _, _ | .fz _, _ | .nilp, _ | .el _ _, _ | .nilm, _ | .nilf, _ | .nili, _ => by simp only [frzG]
theorem plainAll_frzG (k : List V → Upd → Rd α) : ∀ l : List V, V.allPlain l = true → frzGAll ms l k = k l []
  | [], _ => by simp only [frzGAll]
  | v :: r, h => by
    simp only [V.allPlain, Bool.and_eq_true] at h
    simp only [frzGAll]
    rw [plain_frzG _ v h.1, plainAll_frzG _ r h.2]
    rfl
end
end
theorem plain_frz {α : Type} (k : V → Upd → Rd α) (v : V) (h : v.plain = true) : frz v k = k v [] := plain_frzG k v h
theorem plainAll_frz {α : Type} (k : List V → Upd → Rd α) (l : List V) (h : V.allPlain l = true) : frzAll l k = k l [] := plainAll_frzG k l h
theorem plainArgs_frz {α : Type} : ∀ (l : List V) (m : List Bool) (k : List V → Upd → Rd α), V.allPlain l = true → frzArgs l m k = k l []
  | [], m, k, _ => by simp only [frzArgs]
  | v :: r, m, k, h => by
    simp only [V.allPlain, Bool.and_eq_true] at h
    cases m with
    | nil => simp only [frzArgs]; exact plainArgs_frz r _ _ h.2
    | cons b m =>
      cases b with
      | false => simp only [frzArgs]; exact plainArgs_frz r _ _ h.2
      | true =>
        simp only [frzArgs]
        rw [plain_frz _ v h.1, plainArgs_frz r _ _ h.2]
        rfl

theorem allPlain_append : ∀ (a b : List V), V.allPlain (a ++ b) = (V.allPlain a && V.allPlain b)
  | [], b => rfl
  | v :: r, b => by simp [V.allPlain, allPlain_append r b, Bool.and_assoc]

/-- A call with arguments that lead to no object, and such an answer. -/
theorem callV_plain {T : TT} {fns : FuncId → Option AFn} {g : FuncId} {fn : AFn} (hfn : fns g = some fn) {args caps : List V} {r : V} (ha : V.allPlain (args ++ caps) = true) (hr : r.plain = true) (h : lim T fns g (args ++ caps) [] = some (r, [])) (n : Nat) :
    callV (LX T fns) n (.clo g caps) args = .pure (r, []) := by
  unfold callV
  simp only [hfn]
  unfold callR
  rw [plainArgs_frz _ _ _ ha, plainAll_ids _ ha]
  show withR (lim T fns g) n (args ++ caps) [] [] = _
  unfold withR
  simp only [List.map_nil, upd1, List.all_nil, Bool.and_self, if_true, plainAll_re _ _ ha, pullObs, h, List.length_nil, Nat.le_refl]
  unfold afterR
  simp [plain_re _ _ hr, pushObs]

/-! A function's end, where its answer leads to no object. -/
theorem FQ_ret {T : TT} {res : List ResultVar} {rfz : Bool} {keep : Nat} {r : V × Heap} {s : St} : FQ T res rfz keep r .ret s ↔ ((resAll T s res).bind fun vs => finish keep rfz (oneOf vs) s.heap) = some r := Iff.rfl
theorem FQ_normal {T : TT} {res : List ResultVar} {rfz : Bool} {keep : Nat} {r : V × Heap} {s : St} : FQ T res rfz keep r .normal s ↔ ((resAll T s res).bind fun vs => finish keep rfz (oneOf vs) s.heap) = some r := Iff.rfl

/-- What is left of an answer that is frozen. -/
def FZ (x : Option ((V × Upd) × List Nat)) : Option (V × Heap) := match x with
  | some ((v, _), _) => if v.plain = true then some (v, []) else none
  | none => none
theorem finish_plain {v : V} {h : Heap} {rfz : Bool} (hp : v.plain = true) : finish 0 rfz v h = some (v, []) := by
  have key : ∀ h : Heap, (let l := reach 0 h 4096 (upto 0 (V.ids v)) []
      if begins 0 0 l then (V.re (idx l) v).bind fun v => (pull h (idx l) l).map fun h => (v, h) else none) = some (v, []) := by
    intro h
    rw [plain_ids v hp]
    show (V.re (idx []) v).bind (fun v => (pull h (idx []) []).map fun h => (v, h)) = _
    rw [plain_re _ v hp]
    rfl
  unfold finish
  cases rfz with
  | false => exact key h
  | true =>
    simp only [if_true]
    rw [plain_frz _ v hp]
    exact key _
theorem finish_true {v : V} {h : Heap} {v' : V} {u : Upd} {l : List Nat} (hf : (frz v fun v u => Rd.pure (v, u)).run h [] = some ((v', u), l)) (hp : v'.plain = true) : finish 0 true v h = some (v', []) := by
  have := finish_plain (h := h.puts u) (rfz := false) hp
  unfold finish at this ⊢
  simp only [if_true, hf, Option.map_some, Option.bind_some]
  simpa using this
theorem finish_fz {v : V} {h : Heap} {r : V × Heap} (hf : FZ ((frz v fun v u => Rd.pure (v, u)).run h []) = some r) : finish 0 true v h = some r := by
  unfold FZ at hf
  split at hf
  · rename_i v' u l hx
    split at hf
    · rename_i hp
      rw [finish_true hx hp]
      exact hf
    · cases hf
  · cases hf

theorem natOf_cast (k : IntKind) (n : Nat) : natOf (.int k (n : Int)) = some n := by simp [natOf]
theorem wrap_i64 {n : Int} (h0 : -9223372036854775808 ≤ n) (h1 : n < 9223372036854775808) : IntKind.i64.wrap n = n := by
  simp [IntKind.wrap, IntKind.signed, IntKind.bits]
  omega
theorem wrap_i64s {n : Nat} (h : n < 1000000000000000000) : IntKind.i64.wrap ((n : Int) + 1) = ((n + 1 : Nat) : Int) := by
  rw [wrap_i64 (by omega) (by omega)]
  omega
theorem pl_int (k : IntKind) (n : Int) : V.plain (.int k n) = true := id rfl
theorem pl_bool (b : Bool) : V.plain (.bool b) = true := id rfl
theorem pl_str (s : ByteArray) : V.plain (.str s) = true := id rfl
theorem pl_fz (rows : List (List V)) : V.plain (.fz rows) = true := id rfl
theorem pl_agg (cs : List V) : V.plain (.agg cs) = V.allPlain cs := id rfl
theorem pl_tup (cs : List V) : V.plain (.tup cs) = V.allPlain cs := id rfl
theorem pl_clo (g : FuncId) (cs : List V) : V.plain (.clo g cs) = V.allPlain cs := id rfl
theorem pl_undef : V.plain .undef = true := id rfl
theorem pl_nil : V.allPlain [] = true := id rfl
theorem pl_cons (v : V) (r : List V) : V.allPlain (v :: r) = (V.plain v && V.allPlain r) := id rfl

theorem ba_beq (a b : ByteArray) : (a == b) = decide (a = b) := by
  obtain ⟨a⟩ := a
  obtain ⟨b⟩ := b
  show (a == b) = _
  by_cases h : a = b
  · subst h; simp
  · have : (a == b) = false := by simpa using h
    rw [this]
    simp [h]
theorem ba_toList (a b : ByteArray) : (a.toList == b.toList) = decide (a = b) := by
  rw [ByteArray.toList_eq, ByteArray.toList_eq]
  obtain ⟨a⟩ := a
  obtain ⟨b⟩ := b
  by_cases h : a = b
  · subst h; simp
  · have : ¬ a.toList = b.toList := fun e => h (Array.toList_inj.1 e)
    simp [h, this]

/-- Lists that are as long, and the same so far. -/
theorem take_eq_len {α : Type} {a b : List α} (hl : a.length = b.length) {i : Nat} (h : a.take i = b.take i) (hi : a.length ≤ i) : a = b := by
  rwa [List.take_of_length_le hi, List.take_of_length_le (by omega)] at h
theorem take_eq_step {α : Type} {a b : List α} {i : Nat} (h : a.take i = b.take i) (ha : i < a.length) (hb : i < b.length) (he : a[i] = b[i]) : a.take (i + 1) = b.take (i + 1) := by
  rw [List.take_succ_eq_append_getElem ha, List.take_succ_eq_append_getElem hb, h, he]
end Go.Proofs.Ytfdemnefkfkghaa.R
