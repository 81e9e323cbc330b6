/- Stepping through an order that is drawn, where objects are turned: what was done so far is kept as the objects that were turned, and looked at. -/
import Derived.Test.YtfdemnefkfkghaaRW
namespace Go.Proofs.Ytfdemnefkfkghaa.R
set_option linter.unusedVariables false
set_option linter.unusedSimpArgs false
open Go

def hasN (x : Nat) : List Nat → Bool
  | [] => false
  | y :: r => Nat.beq x y || hasN x r
def hits : List Nat → List Nat → Bool
  | [], _ => false
  | x :: r, b => hasN x b || hits r b
def bitN (bef : Array Nat) (j i : Nat) : Bool := (bef.getD j 0).testBit i
abbrev Book := List (List Nat × List Nat)
/-- Operation j, which turns and looks at so much, clashes with those alone that are told to be ahead of it. -/
def apB (bef : Array Nat) (j : Nat) (ids rds : List Nat) : Nat → Book → Bool
  | _, [] => true
  | i, (a, b) :: r => (!(hits a rds || hits a ids || hits ids b) || bitN bef j i) && apB bef j ids rds (i + 1) r

def ids1 : Upd → List Nat
  | [] => []
  | p :: u => p.1 :: ids1 u
def sigD (d : Did) : List Nat × List Nat := (ids1 d.upd, d.reads)
def ofB (p : List Nat × List Nat) : Did := ⟨true, .undef, p.1.map fun i => (i, none), p.2⟩

theorem nbeq (x y : Nat) : Nat.beq x y = decide (x = y) := by
  rw [Bool.eq_iff_iff, decide_eq_true_eq, Nat.beq_eq]
theorem hasN_iff {x : Nat} : ∀ {l : List Nat}, hasN x l = l.contains x
  | [] => rfl
  | y :: r => by
    simp only [hasN, List.contains_cons, hasN_iff, nbeq]
    rfl
theorem hits_any {b : List Nat} : ∀ {u : Upd}, hits (ids1 u) b = u.any fun p => b.contains p.1
  | [] => rfl
  | p :: u => by simp only [ids1, hits, List.any_cons, hasN_iff, hits_any]
theorem ids_has {x : Nat} : ∀ {u : Upd}, hasN x (ids1 u) = u.any fun q => q.1 == x
  | [] => rfl
  | p :: u => by
    have h : Nat.beq x p.1 = (p.1 == x) := by
      rw [nbeq, Bool.eq_iff_iff, decide_eq_true_eq, beq_iff_eq]
      exact ⟨fun h => h.symm, fun h => h.symm⟩
    simp only [ids1, hasN, List.any_cons, ids_has, h]
theorem hits_upd {v : Upd} : ∀ {u : Upd}, hits (ids1 u) (ids1 v) = u.any fun p => v.any fun q => q.1 == p.1
  | [] => rfl
  | p :: u => by simp only [ids1, hits, List.any_cons, ids_has, hits_upd]
theorem any_or {α : Type} {f g : α → Bool} : ∀ {l : List α}, (l.any fun x => f x || g x) = (l.any f || l.any g)
  | [] => rfl
  | x :: l => by
    have ih := any_or (f := f) (g := g) (l := l)
    simp only [List.any_cons, ih]
    cases f x <;> cases g x <;> cases l.any f <;> cases l.any g <;> rfl
theorem touches_hits (a b : Did) : a.touches b = (hits (ids1 a.upd) b.reads || hits (ids1 a.upd) (ids1 b.upd)) := by
  unfold Did.touches
  rw [any_or, hits_any, hits_upd]
theorem hits_comm {u v : Upd} : hits (ids1 u) (ids1 v) = hits (ids1 v) (ids1 u) := by
  rw [hits_upd, hits_upd, Bool.eq_iff_iff]
  simp only [List.any_eq_true, beq_iff_eq]
  constructor
  · rintro ⟨p, hp, q, hq, e⟩
    exact ⟨q, hq, p, hp, e.symm⟩
  · rintro ⟨p, hp, q, hq, e⟩
    exact ⟨q, hq, p, hp, e.symm⟩
theorem clash_sig (a b : Did) : clash a b = (hits (sigD a).1 (sigD b).2 || hits (sigD a).1 (sigD b).1 || hits (sigD b).1 (sigD a).2) := by
  unfold clash sigD
  rw [touches_hits, touches_hits]
  rw [hits_comm (u := b.upd) (v := a.upd)]
  cases hits (ids1 a.upd) b.reads <;> cases hits (ids1 a.upd) (ids1 b.upd) <;> cases hits (ids1 b.upd) a.reads <;> rfl
theorem apart_sig (bef : Array Nat) (j : Nat) (d : Did) : ∀ (done : List Did) (i : Nat), ((done.zipIdx i).all fun (c, i) => !clash c d || (bef.getD j 0).testBit i) = apB bef j (sigD d).1 (sigD d).2 i (done.map sigD)
  | [], i => rfl
  | c :: r, i => by
    simp only [List.zipIdx_cons, List.all_cons, List.map_cons, apB, ← apart_sig bef j d r (i + 1), clash_sig]
    rfl
theorem apart_eq (bef : Array Nat) (done : List Did) (j : Nat) (d : Did) : apart bef done j d = apB bef j (sigD d).1 (sigD d).2 0 (done.map sigD) := apart_sig bef j d done 0
theorem sig_of (p : List Nat × List Nat) : sigD (ofB p) = p := by
  obtain ⟨a, b⟩ := p
  unfold sigD ofB
  have : ∀ a : List Nat, ids1 (a.map fun i => (i, (none : Option Ob))) = a := by
    intro a
    induction a with
    | nil => rfl
    | cons x r ih => simp only [List.map_cons, ids1, ih]
  simp only [this]

variable {cx : Cx} {nt : Nat} {ops : Array Oper} {bef : Array Nat} {Q : Aft}
theorem draw_sig : ∀ {rest : List Oper} {j : Nat} {s : St} {done done' : List Did}, done.map sigD = done'.map sigD → runDraw cx nt ops bef rest j s done = runDraw cx nt ops bef rest j s done'
  | [], j, s, done, done', h => rfl
  | o :: r, j, s, done, done', h => by
    simp only [runDraw]
    cases wants ops s.env o with
    | none => rfl
    | some w =>
      cases w with
      | false =>
        simp only
        cases putDst nt s.env o.dst (.tup []) with
        | none => rfl
        | some e => exact draw_sig (by simp [h])
      | true =>
        simp only
        cases (aop cx s.heap.length s.env o).run s.heap [] with
        | none => rfl
        | some x =>
          obtain ⟨⟨v, u⟩, l⟩ := x
          simp only [apart_eq, h]
          split
          · cases putDst nt s.env o.dst v with
            | none => rfl
            | some e => exact draw_sig (by simp [h])
          · rfl

/-- With what was done so far as a book. -/
def WB (cx : Cx) (nt : Nat) (ops : Array Oper) (bef : Array Nat) (rest : List Oper) (j : Nat) (s : St) (b : Book) (Q : Aft) : Prop := WD cx nt ops bef rest j s (b.map ofB) Q
theorem WD_book {rest : List Oper} {j : Nat} {s : St} {done : List Did} {b : Book} (h : done.map sigD = b) : WD cx nt ops bef rest j s done Q ↔ WB cx nt ops bef rest j s b Q := by
  unfold WB WD
  rw [draw_sig (done' := b.map ofB)]
  subst h
  rw [List.map_map, List.map_map]
  exact List.map_congr_left fun d _ => (sig_of _).symm
/-- One operation's answer. -/
def BA (cx : Cx) (nt : Nat) (ops : Array Oper) (bef : Array Nat) (x : Option ((V × Upd) × List Nat)) (d : Option Tmp) (rest : List Oper) (j : Nat) (e : Env) (h : Heap) (b : Book) (Q : Aft) : Prop := match x with
  | none => False
  | some ((v, u), l) => apB bef j (ids1 u) l 0 b = true ∧ (match d with
    | none => WB cx nt ops bef rest (j + 1) ⟨e, Heap.pad (h.length + 1) (h.puts u)⟩ (b ++ [(ids1 u, l)]) Q
    | some d => d < nt ∧ WB cx nt ops bef rest (j + 1) ⟨(d, v) :: e, Heap.pad (h.length + 1) (h.puts u)⟩ (b ++ [(ids1 u, l)]) Q)
def BG (cx : Cx) (nt : Nat) (ops : Array Oper) (bef : Array Nat) (w : Option Bool) (o : Oper) (rest : List Oper) (j : Nat) (s : St) (b : Book) (Q : Aft) : Prop := match w with
  | none => False
  | some true => BA cx nt ops bef ((aop cx s.heap.length s.env o).run s.heap []) o.dst rest j s.env s.heap b Q
  | some false => match o.dst with
    | none => WB cx nt ops bef rest (j + 1) s (b ++ [([], [])]) Q
    | some d => d < nt ∧ WB cx nt ops bef rest (j + 1) ⟨(d, .tup []) :: s.env, s.heap⟩ (b ++ [([], [])]) Q
theorem book_map (b : Book) : (b.map ofB).map sigD = b := by
  rw [List.map_map]
  exact (List.map_congr_left fun p _ => sig_of p).trans (List.map_id b)
theorem WB_any {o : Oper} {r : List Oper} {j : Nat} {s : St} {b : Book} : WB cx nt ops bef (o :: r) j s b Q ↔ BG cx nt ops bef (wants ops s.env o) o r j s b Q := by
  unfold WB WD BG
  simp only [runDraw]
  cases hw : wants ops s.env o with
  | none => simp
  | some w =>
    cases w with
    | false =>
      simp only [putDst]
      cases o.dst with
      | none =>
        simp only [Option.bind_some]
        exact WD_book (by simp only [List.map_append, book_map]; rfl)
      | some d =>
        simp only
        by_cases hd : d < nt
        · simp only [hd, if_true, Option.bind_some, true_and]
          exact WD_book (by simp only [List.map_append, book_map]; rfl)
        · simp [hd]
    | true =>
      simp only [BA]
      cases (aop cx s.heap.length s.env o).run s.heap [] with
      | none => simp
      | some x =>
        obtain ⟨⟨v, u⟩, l⟩ := x
        simp only [apart_eq, book_map]
        have hs : sigD (⟨true, v, u, l⟩ : Did) = (ids1 u, l) := rfl
        simp only [hs]
        by_cases ha : apB bef j (ids1 u) l 0 b = true
        · rw [if_pos ha]
          simp only [ha, true_and, putDst]
          cases o.dst with
          | none =>
            simp only [Option.bind_some]
            exact WD_book (by simp only [List.map_append, book_map]; rfl)
          | some d =>
            simp only
            by_cases hd : d < nt
            · simp only [hd, if_true, Option.bind_some, true_and]
              exact WD_book (by simp only [List.map_append, book_map]; rfl)
            · simp [hd]
        · rw [if_neg ha]
          simp [ha]
theorem WB_cons {d : Option Tmp} {op : Op} {t : TypeId} {p : String} {af : Array Edge} {r : List Oper} {j : Nat} {e : Env} {h : Heap} {b : Book} : WB cx nt ops bef ({ dst := d, op, type := t, pos := p, after := af, guard := none } :: r) j ⟨e, h⟩ b Q ↔
    BA cx nt ops bef ((aop cx h.length e { dst := d, op, type := t, pos := p, after := af, guard := none }).run h []) d r j e h b Q := WB_any
theorem WB_guard {d : Option Tmp} {op : Op} {t : TypeId} {p : String} {af : Array Edge} {i : Nat} {w : Bool} {r : List Oper} {j : Nat} {e : Env} {h : Heap} {b : Book} : WB cx nt ops bef ({ dst := d, op, type := t, pos := p, after := af, guard := some (i, w) } :: r) j ⟨e, h⟩ b Q ↔
    BG cx nt ops bef (if skipped ops e i then some false else (yields ops e i).map (· == w)) { dst := d, op, type := t, pos := p, after := af, guard := some (i, w) } r j ⟨e, h⟩ b Q := WB_any
theorem WB_nil {j : Nat} {s : St} {b : Book} : WB cx nt ops bef [] j s b Q ↔ Q .normal s := ⟨fun ⟨s', h, q⟩ => by cases h; exact q, fun q => ⟨s, rfl, q⟩⟩
theorem BG_true {o : Oper} {r : List Oper} {j : Nat} {e : Env} {h : Heap} {b : Book} : BG cx nt ops bef (some true) o r j ⟨e, h⟩ b Q ↔ BA cx nt ops bef ((aop cx h.length e o).run h []) o.dst r j e h b Q := Iff.rfl
theorem BG_false {op : Op} {d t : Nat} {p : String} {af : Array Edge} {g : Option (Nat × Bool)} {r : List Oper} {j : Nat} {e : Env} {h : Heap} {b : Book} : BG cx nt ops bef (some false) { dst := some d, op, type := t, pos := p, after := af, guard := g } r j ⟨e, h⟩ b Q ↔
    d < nt ∧ WB cx nt ops bef r (j + 1) ⟨(d, .tup []) :: e, h⟩ (b ++ [([], [])]) Q := Iff.rfl
theorem BG_false_none {op : Op} {t : Nat} {p : String} {af : Array Edge} {g : Option (Nat × Bool)} {r : List Oper} {j : Nat} {e : Env} {h : Heap} {b : Book} : BG cx nt ops bef (some false) { dst := none, op, type := t, pos := p, after := af, guard := g } r j ⟨e, h⟩ b Q ↔
    WB cx nt ops bef r (j + 1) ⟨e, h⟩ (b ++ [([], [])]) Q := Iff.rfl
theorem BA_some {v : V} {u : Upd} {l : List Nat} {d : Nat} {r : List Oper} {j : Nat} {e : Env} {h : Heap} {b : Book} : BA cx nt ops bef (some ((v, u), l)) (some d) r j e h b Q ↔ apB bef j (ids1 u) l 0 b = true ∧ d < nt ∧ WB cx nt ops bef r (j + 1) ⟨(d, v) :: e, Heap.pad (h.length + 1) (h.puts u)⟩ (b ++ [(ids1 u, l)]) Q := Iff.rfl
theorem BA_none {v : V} {u : Upd} {l : List Nat} {r : List Oper} {j : Nat} {e : Env} {h : Heap} {b : Book} : BA cx nt ops bef (some ((v, u), l)) none r j e h b Q ↔ apB bef j (ids1 u) l 0 b = true ∧ WB cx nt ops bef r (j + 1) ⟨e, Heap.pad (h.length + 1) (h.puts u)⟩ (b ++ [(ids1 u, l)]) Q := Iff.rfl

/-! Out of what was quiet so far. -/
def sigQ (q : QD) : Book := q.l.map sigD
theorem sigQ_nil : sigQ QD.nil = [] := rfl
theorem sigQ_snoc {q : QD} {w : Bool} {v : V} {l : List Nat} : sigQ (q.snoc w v l) = sigQ q ++ [([], l)] := by
  unfold sigQ QD.snoc
  simp only [List.map_append]
  rfl
theorem QA_noise {p : Nat × Option Ob} {v : V} {u : Upd} {l : List Nat} {d : Nat} {r : List Oper} {j : Nat} {e : Env} {h : Heap} {q : QD} : QA cx nt ops bef (some ((v, p :: u), l)) (some d) r j e h q Q ↔
    apB bef j (ids1 (p :: u)) l 0 (sigQ q) = true ∧ d < nt ∧ WB cx nt ops bef r (j + 1) ⟨(d, v) :: e, Heap.pad (h.length + 1) (h.puts (p :: u))⟩ (sigQ q ++ [(ids1 (p :: u), l)]) Q := by
  unfold QA
  simp only [apart_eq]
  refine and_congr Iff.rfl (and_congr Iff.rfl ?_)
  exact WD_book (by simp only [List.map_append]; rfl)
theorem QA_noise_none {p : Nat × Option Ob} {v : V} {u : Upd} {l : List Nat} {r : List Oper} {j : Nat} {e : Env} {h : Heap} {q : QD} : QA cx nt ops bef (some ((v, p :: u), l)) none r j e h q Q ↔
    apB bef j (ids1 (p :: u)) l 0 (sigQ q) = true ∧ WB cx nt ops bef r (j + 1) ⟨e, Heap.pad (h.length + 1) (h.puts (p :: u))⟩ (sigQ q ++ [(ids1 (p :: u), l)]) Q := by
  unfold QA
  simp only [apart_eq]
  refine and_congr Iff.rfl ?_
  exact WD_book (by simp only [List.map_append]; rfl)

/-! A call's answer that is a new object. -/
theorem callV_clone {T : TT} {fns : FuncId → Option AFn} {g : FuncId} {fn : AFn} (hfn : fns g = some fn) {st bytes : Nat} (hi : fn.intr = some (st, bytes)) (hst : st ≠ 0) {rows : List (List V)} (hr : rows.all (fun r => r.length == st) = true) (hb : rows.length * bytes ≤ 140737488355328) (n : Nat) :
    callV (LX T fns) n (.clo g []) [.fz rows] = .pure (.ms n st 0 rows.length none, [(n, some (.buf st rows false true))]) := by
  have h : lim T fns g [.fz rows] [] = some (.ms 0 st 0 rows.length none, [some (.buf st rows false true)]) := lim_of T fns ⟨1, fun R d hR hd => by
    obtain ⟨d, rfl⟩ : ∃ d', d = d' + 1 := ⟨d - 1, by omega⟩
    simp only [acall, hfn, hi, cloneFn]
    rw [if_pos ⟨hst, hr, hb⟩]⟩
  unfold callV
  simp only [hfn]
  unfold callR
  rw [plainArgs_frz _ _ _ (by rfl), plainAll_ids _ (by rfl)]
  show withR (lim T fns g) n [.fz rows] [] [] = _
  unfold withR
  simp only [List.map_nil, upd1, List.all_nil, Bool.and_self, if_true, plainAll_re _ [.fz rows] (by rfl), pullObs, h, List.length_nil, Nat.zero_le]
  unfold afterR
  simp only [List.length_cons, List.length_nil, Nat.zero_add, V.re, back, nth, Nat.lt_one_iff, if_true, Option.map_some, pushObs, Ob.re, Option.bind_some, List.isEmpty_cons, Bool.and_false, Bool.false_and, Bool.false_eq_true, if_false, Nat.sub_self, Nat.add_zero, List.append_nil]
end Go.Proofs.Ytfdemnefkfkghaa.R
