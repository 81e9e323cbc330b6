/- Parts of the proof of YtfdemnefkfkghaaRAuditAll, one behind the other: R33d, R33m, R33e, R33f, R33g, R33h, R33i, R33n, R33j, R33k, Q33, R33l, R33o, R33p, RFz, R27a, R27b, Q27, R27c, R27d, R27e, R27f. -/
import Derived.Test.YtfdemnefkfkghaaAU0
import Derived.Test.YtfdemnefkfkghaaAU1
import Derived.Test.YtfdemnefkfkghaaAU2
/- Chapter 33's law: the document's 'with'. -/
namespace Go.Proofs.Ytfdemnefkfkghaa.R
open Go Go.Proofs
set_option linter.unusedSimpArgs false
set_option linter.unusedVariables false
set_option maxRecDepth 10000
set_option maxHeartbeats 1000000

def withE (f : Int → Int) (e : S100) : S100 := ⟨e.f0, f e.f0, e.f2⟩
def withM (f : Int → Int) (m : S121) : S121 := if m.f0 = 3 then ⟨m.f0, m.f1, m.f2, m.f3, f m.f3, m.f5⟩ else m
/-- A node, as deep as 'f' tells what it leads to. -/
def withN (f : Int → Int) (n : S93) : S93 := ⟨n.f0, n.f1, n.f2, n.f3.map (withE f), n.f4.map (withM f)⟩

theorem lim66 (n : S93) (l : List S95) (deep : List Int) (hn : fewN n) (hl : fewL l) (hd : deep.length = 0 ∨ deep.length = l.length) : lim T fns 66 [.agg (k93.enc n), .fz (l.map k95.enc), .fz (deep.map (Cd.int .i64).enc)] [] = some (.agg (k93.enc (withN (fun b => at_ b l deep) n)), []) := by
  obtain ⟨_, _, h3, h4⟩ := hn
  refine fn_rule (fn := fn66) rfl rfl (by simp [fn66]) ?_
  unfold fn66
  simp only [Try.f66, Option.getD_some, argEnv, List.map_nil, List.length_nil]
  simp only [go_sem, T_1, T_3, T_4, T_5, T_9, T_22, T_42, T_51, T_69, T_90, T_91, T_93, T_95, T_96, T_98, T_100, T_112, T_121, T_145, k93_enc]
  refine loop_rule (ι := Nat × List S100) (S := fun p => ⟨[(1, .fz (l.map k95.enc)), (2, .fz (deep.map (Cd.int .i64).enc)), (3, .ptr 0 0 0), (6, .ptr 1 0 0), (7, .ptr 2 0 0), (21, .int .i64 n.f3.length), (22, .int .i64 p.1)],
      [some (.buf 5 [k93.enc n] false true), some (.buf 5 [[.bool false, .nils, .nils, .nils, .nils]] false true), some (.buf 5 [[.bool n.f0, .fz (n.f1.map k145.enc), .fz (n.f2.map Cd.str.enc), .ms 3 4 0 p.2.length none, .nils]] false false), some (.buf 4 (p.2.map k100.enc) false true)]⟩)
    (m := fun p => n.f3.length + 1 - p.1) (I := fun p => p.1 ≤ n.f3.length ∧ p.2 = (n.f3.take p.1).map (withE fun b => at_ b l deep)) ?_ (0, []) _ ⟨by simp, by simp⟩ rfl
  rintro ⟨i, out⟩ ⟨hi, ho⟩
  simp only at hi ho
  by_cases hlt : i < n.f3.length
  · have hx : n.f3[i]? = some n.f3[i] := List.getElem?_eq_getElem hlt
    have hol : out.length = i := by rw [ho]; simp; omega
    simp only [go_sem, T_1, T_3, T_4, T_5, T_9, T_22, T_42, T_51, T_69, T_90, T_91, T_93, T_95, T_96, T_98, T_100, T_112, T_121, T_145, all100, hlt, hx, k93_enc, k100_enc, call135 _ l deep hl hd, wrap_i64s (show i < 1000000000000000000 by omega), show (out.length + 1) * 40 ≤ 140737488355328 by omega, show out.length + 1 ≤ 140737488355328 by omega]
    refine ⟨(i + 1, out ++ [withE (fun b => at_ b l deep) n.f3[i]]), ⟨by simp only; omega, ?_⟩, by simp only; omega, by simp only [List.map_append, List.length_append]; rfl⟩
    simp only
    rw [List.take_succ_eq_append_getElem hlt, List.map_append, ho]
    rfl
  have hall : out = n.f3.map (withE fun b => at_ b l deep) := by rw [ho, List.take_of_length_le (by omega)]
  clear ho hi
  simp only [go_sem, T_1, T_3, T_4, T_5, T_9, T_22, T_42, T_51, T_69, T_90, T_91, T_93, T_95, T_96, T_98, T_100, T_112, T_121, T_145, hlt, k93_enc]
  refine loop_rule (ι := Nat × List S121) (S := fun p => ⟨[(1, .fz (l.map k95.enc)), (2, .fz (deep.map (Cd.int .i64).enc)), (3, .ptr 0 0 0), (6, .ptr 1 0 0), (7, .ptr 2 0 0), (45, .int .i64 n.f4.length), (46, .int .i64 p.1)],
      [some (.buf 5 [k93.enc n] false true), some (.buf 5 [[.bool false, .nils, .nils, .nils, .nils]] false true), some (.buf 5 [[.bool n.f0, .fz (n.f1.map k145.enc), .fz (n.f2.map Cd.str.enc), .ms 3 4 0 out.length none, .ms 4 6 0 p.2.length none]] false false), some (.buf 4 (out.map k100.enc) false true), some (.buf 6 (p.2.map k121.enc) false true)]⟩)
    (m := fun p => n.f4.length + 1 - p.1) (I := fun p => p.1 ≤ n.f4.length ∧ p.2 = (n.f4.take p.1).map (withM fun b => at_ b l deep)) ?_ (0, []) _ ⟨by simp, by simp⟩ rfl
  clear hlt
  rintro ⟨i, o2⟩ ⟨hi, ho⟩
  simp only at hi ho
  by_cases hlt : i < n.f4.length
  · have hx : n.f4[i]? = some n.f4[i] := List.getElem?_eq_getElem hlt
    have hol : o2.length = i := by rw [ho]; simp; omega
    have hs : ∀ y, y = withM (fun b => at_ b l deep) n.f4[i] → o2 ++ [y] = (n.f4.take (i + 1)).map (withM fun b => at_ b l deep) := by
      rintro y rfl
      rw [List.take_succ_eq_append_getElem hlt, List.map_append, ho]
      rfl
    simp only [go_sem, T_1, T_3, T_4, T_5, T_9, T_22, T_42, T_51, T_69, T_90, T_91, T_93, T_95, T_96, T_98, T_100, T_112, T_121, T_145, all121, hlt, hx, k93_enc, k121_enc, call135 _ l deep hl hd, wrap_i64s (show i < 1000000000000000000 by omega), show (o2.length + 1) * 64 ≤ 140737488355328 by omega, show o2.length + 1 ≤ 140737488355328 by omega]
    split
    · rename_i he
      refine ⟨(i + 1, o2 ++ [⟨n.f4[i].f0, n.f4[i].f1, n.f4[i].f2, n.f4[i].f3, at_ n.f4[i].f3 l deep, n.f4[i].f5⟩]), ⟨by simp only; omega, hs _ (by simp [withM, he])⟩, by simp only; omega, by simp only [List.map_append, List.length_append]; rfl⟩
    · rename_i he
      refine ⟨(i + 1, o2 ++ [n.f4[i]]), ⟨by simp only; omega, hs _ (by simp [withM, he])⟩, by simp only; omega, by simp only [List.map_append, List.length_append]; rfl⟩
  have hall2 : o2 = n.f4.map (withM fun b => at_ b l deep) := by rw [ho, List.take_of_length_le (by omega)]
  simp only [go_sem, T_1, T_3, T_4, T_5, T_9, T_22, T_42, T_51, T_69, T_90, T_91, T_93, T_95, T_96, T_98, T_100, T_112, T_121, T_145, hlt, k93_enc]
  refine finish_fz ?_
  simp only [frz, frzAll, frzG, frzGAll, ms2, msUp, Rd.run, Heap.at?, List.length_map, Nat.zero_add, Nat.le_refl, and_self, if_true, FZ, pl_agg, pl_cons, pl_nil, pl_bool, pl_fz, Bool.and_self, List.drop_zero]
  rw [List.take_of_length_le (by simp), List.take_of_length_le (by simp), hall, hall2]
  rfl
theorem call66 (n : S93) (l : List S95) (deep : List Int) (hn : fewN n) (hl : fewL l) (hd : deep.length = 0 ∨ deep.length = l.length) (k : Nat) : callV (LX T fns) k (.clo 66 []) [.agg (k93.enc n), .fz (l.map k95.enc), .fz (deep.map (Cd.int .i64).enc)] = .pure (.agg (k93.enc (withN (fun b => at_ b l deep) n)), []) :=
  callV_plain (fn := fn66) rfl rfl rfl (lim66 n l deep hn hl hd) k
end Go.Proofs.Ytfdemnefkfkghaa.R
/- Chapter 33's law: nodes of one's own; as deep as is told. -/
namespace Go.Proofs.Ytfdemnefkfkghaa.R
open Go Go.Proofs
set_option linter.unusedSimpArgs false
set_option linter.unusedVariables false
set_option maxRecDepth 10000
set_option maxHeartbeats 2000000

/-- A node with lists of its own. -/
def ownV (n : S93) (k : Nat) : V := .agg [.bool n.f0, .ms k 2 0 n.f1.length none, .ms (k + 1) 1 0 n.f2.length none, .ms (k + 2) 4 0 n.f3.length none, .ms (k + 3) 6 0 n.f4.length none]
def ownH (n : S93) : Heap := [some (.buf 2 (n.f1.map k145.enc) false true), some (.buf 1 (n.f2.map Cd.str.enc) false true), some (.buf 4 (n.f3.map k100.enc) false true), some (.buf 6 (n.f4.map k121.enc) false true)]

theorem lim133 (n : S93) (hn : fewN n) : lim T fns 133 [.agg (k93.enc n)] [] = some (ownV n 0, ownH n) := by
  obtain ⟨h1, h2, h3, h4⟩ := hn
  have c1 := callV_clone (T := T) (fns := fns) (g := 188) (fn := fn188) (st := 2) (bytes := 32) rfl rfl (by decide) (all145 n.f1) (by simp; omega)
  have c2 := callV_clone (T := T) (fns := fns) (g := 159) (fn := fn159) (st := 1) (bytes := 16) rfl rfl (by decide) (all_str n.f2) (by simp; omega)
  have c3 := callV_clone (T := T) (fns := fns) (g := 189) (fn := fn189) (st := 4) (bytes := 40) rfl rfl (by decide) (all100 n.f3) (by simp; omega)
  have c4 := callV_clone (T := T) (fns := fns) (g := 190) (fn := fn190) (st := 6) (bytes := 64) rfl rfl (by decide) (all121 n.f4) (by simp; omega)
  simp only [List.length_map] at c1 c2 c3 c4
  refine fn_rule (fn := fn133) rfl rfl (by simp [fn133]) ?_
  unfold fn133
  simp only [Try.f133, Option.getD_some, argEnv, List.map_nil, List.length_nil]
  simp only [go_sem, T_4, T_5, T_9, T_42, T_51, T_69, T_90, T_91, T_93, T_96, T_98, T_100, T_121, T_145, k93_enc, c1, c2, c3, c4]
  repeat (refine ⟨by kernel_rfl, ?_⟩)
  trace_state
  rfl
end Go.Proofs.Ytfdemnefkfkghaa.R
/- Chapter 33's law: the document's rounds of depths. -/
namespace Go.Proofs.Ytfdemnefkfkghaa.R
open Go Go.Proofs
set_option linter.unusedSimpArgs false
set_option linter.unusedVariables false
set_option maxRecDepth 10000
set_option maxHeartbeats 1000000

/-- A block's number and one more, if that is greater. -/
def deepen (b : Int) : Int → List S95 → List Int → Int
  | d, x :: l, e :: deep => deepen b (if x.f0 = b then (if e + 1 > d then e + 1 else d) else d) l deep
  | d, _, _ => d
def deepens (l : List S95) (deep : List Int) (d : Int) (ts : List Int) : Int := ts.foldl (fun d b => deepen b d l deep) d
def round (l : List S95) (deep : List Int) : List Int := l.map fun x => deepens l deep 1 (targets x.f1)
theorem deepen_drop {b d : Int} {l : List S95} {deep : List Int} {i : Nat} (h : i < l.length) (h' : i < deep.length) : deepen b d (l.drop i) (deep.drop i) = deepen b (if l[i].f0 = b then (if deep[i] + 1 > d then deep[i] + 1 else d) else d) (l.drop (i + 1)) (deep.drop (i + 1)) := by
  rw [List.drop_eq_getElem_cons h, List.drop_eq_getElem_cons h']
  rfl
theorem targets_le (n : S93) (h : fewN n) : (targets n).length < 10000000000000 := by
  obtain ⟨_, _, h3, h4⟩ := h
  have := gotos_le n.f4
  simp [targets]
  omega

theorem lim136 (l : List S95) (deep : List Int) (hl : fewL l) (hd : deep.length = l.length) (hb : ∀ e ∈ deep, 0 ≤ e ∧ e < 1000000000000000000) : lim T fns 136 [.fz (l.map k95.enc), .fz (deep.map (Cd.int .i64).enc)] [] = some (.fz ((round l deep).map (Cd.int .i64).enc), []) := by
  obtain ⟨hl1, hln⟩ := hl
  refine fn_rule (fn := fn136) rfl rfl (by simp [fn136]) ?_
  unfold fn136
  simp only [Try.f136, Option.getD_some, argEnv, List.map_nil, List.length_nil]
  simp only [go_sem, T_1, T_3, T_4, T_5, T_9, T_22, T_42, T_51, T_69, T_76, T_90, T_91, T_93, T_95, T_96, T_98, T_100, T_112, T_121, T_145]
  refine loop_rule (ι := Nat × List Int) (S := fun p => ⟨[(0, .fz (l.map k95.enc)), (1, .fz (deep.map (Cd.int .i64).enc)), (5, .ms 0 1 0 p.2.length none), (13, .int .i64 l.length), (14, .int .i64 p.1)], [some (.buf 1 (p.2.map (Cd.int .i64).enc) false true)]⟩)
    (m := fun p => l.length + 1 - p.1) (I := fun p => p.1 ≤ l.length ∧ p.2 = (l.take p.1).map fun x => deepens l deep 1 (targets x.f1)) ?_ (0, []) _ ⟨by simp, by simp⟩ rfl
  rintro ⟨i, out⟩ ⟨hi, ho⟩
  simp only at hi ho
  by_cases hlt : i < l.length
  · have hx : l[i]? = some l[i] := List.getElem?_eq_getElem hlt
    have hn := hln l[i] (List.getElem_mem hlt)
    have hc := call67 l[i].f1 hn
    have hts := targets_le l[i].f1 hn
    simp only [k93_enc] at hc
    have hol : out.length = i := by rw [ho]; simp; omega
    simp only [go_sem, T_1, T_3, T_4, T_5, T_9, T_22, T_42, T_51, T_69, T_76, T_90, T_91, T_93, T_95, T_96, T_98, T_100, T_112, T_121, T_145, all95, hlt, hx, k95_enc, hc]
    generalize htt : targets l[i].f1 = ts at hts
    refine loop_rule (ι := Nat × Int) (S := fun p => ⟨[(0, .fz (l.map k95.enc)), (1, .fz (deep.map (Cd.int .i64).enc)), (5, .ms 0 1 0 out.length none), (7, .int .i64 p.2), (8, .fz (ts.map (Cd.int .u32).enc)), (13, .int .i64 l.length), (14, .int .i64 i), (24, .int .i64 ts.length), (25, .int .i64 p.1)], [some (.buf 1 (out.map (Cd.int .i64).enc) false true)]⟩)
      (m := fun p => ts.length + 1 - p.1) (I := fun p => p.1 ≤ ts.length ∧ deepens l deep p.2 (ts.drop p.1) = deepens l deep 1 ts) ?_ (0, 1) _ ⟨by simp, by simp⟩ rfl
    rintro ⟨k, d⟩ ⟨hk, hdd⟩
    simp only at hk hdd
    by_cases hkt : k < ts.length
    · have hy : ts[k]? = some ts[k] := List.getElem?_eq_getElem hkt
      rw [List.drop_eq_getElem_cons hkt] at hdd
      simp only [go_sem, T_1, T_3, T_4, T_5, T_9, T_22, T_42, T_51, T_69, T_76, T_90, T_91, T_93, T_95, T_96, T_98, T_100, T_112, T_121, T_145, hkt]
      refine loop_rule (ι := Nat × Int) (S := fun p => ⟨[(0, .fz (l.map k95.enc)), (1, .fz (deep.map (Cd.int .i64).enc)), (5, .ms 0 1 0 out.length none), (7, .int .i64 p.2), (8, .fz (ts.map (Cd.int .u32).enc)), (9, .int .i64 k), (13, .int .i64 l.length), (14, .int .i64 i), (24, .int .i64 ts.length), (25, .int .i64 k), (29, .int .i64 l.length), (30, .int .i64 p.1)], [some (.buf 1 (out.map (Cd.int .i64).enc) false true)]⟩)
        (m := fun p => l.length + 1 - p.1) (I := fun p => p.1 ≤ l.length ∧ deepen ts[k] p.2 (l.drop p.1) (deep.drop p.1) = deepen ts[k] d l deep) ?_ (0, d) _ ⟨by simp, by simp⟩ rfl
      rintro ⟨j, d2⟩ ⟨hj, hdj⟩
      simp only at hj hdj
      by_cases hjl : j < l.length
      · have hz : l[j]? = some l[j] := List.getElem?_eq_getElem hjl
        have hw : deep[j]? = some (deep[j]'(by omega)) := List.getElem?_eq_getElem (by omega)
        have hbj := hb (deep[j]'(by omega)) (List.getElem_mem _)
        rw [deepen_drop hjl (by omega)] at hdj
        simp only [go_sem, T_1, T_3, T_4, T_5, T_9, T_22, T_42, T_51, T_69, T_76, T_90, T_91, T_93, T_95, T_96, T_98, T_100, T_112, T_121, T_145, hkt, hjl, hy, hz, hw, all95, k95_enc, wrap_i64s (show j < 1000000000000000000 by omega), wrap_i64 (n := (deep[j]'(by omega)) + 1) (by omega) (by omega)]
        split
        · rename_i he
          rw [if_pos he] at hdj
          exact ⟨(j + 1, _), ⟨by simp only; omega, hdj⟩, by simp only; omega, rfl⟩
        · rename_i he
          rw [if_neg he] at hdj
          exact ⟨(j + 1, d2), ⟨by simp only; omega, hdj⟩, by simp only; omega, rfl⟩
      · rw [List.drop_eq_nil_of_le (by omega)] at hdj
        have e2 : d2 = deepen ts[k] d l deep := by rw [← hdj]; rfl
        simp only [go_sem, T_1, T_3, T_4, T_5, T_9, T_22, T_42, T_51, T_69, T_76, T_90, T_91, T_93, T_95, T_96, T_98, T_100, T_112, T_121, T_145, hkt, hjl, wrap_i64s (show k < 1000000000000000000 by omega)]
        exact ⟨(k + 1, d2), ⟨by simp only; omega, by rw [e2]; exact hdd⟩, by simp only; omega, rfl⟩
    · rw [List.drop_eq_nil_of_le (by omega)] at hdd
      have e1 : d = deepens l deep 1 ts := by rw [← hdd]; rfl
      simp only [go_sem, T_1, T_3, T_4, T_5, T_9, T_22, T_42, T_51, T_69, T_76, T_90, T_91, T_93, T_95, T_96, T_98, T_100, T_112, T_121, T_145, hkt, wrap_i64s (show i < 1000000000000000000 by omega), show (out.length + 1) * 8 ≤ 140737488355328 by omega, show out.length + 1 ≤ 140737488355328 by omega]
      refine ⟨(i + 1, out ++ [d]), ⟨by simp only; omega, ?_⟩, by simp only; omega, by simp only [List.map_append, List.length_append]; rfl⟩
      simp only
      rw [List.take_succ_eq_append_getElem hlt, List.map_append, ho, e1, ← htt]
      rfl
  · simp only [go_sem, T_1, T_3, T_4, T_5, T_9, T_22, T_42, T_51, T_69, T_76, T_90, T_91, T_93, T_95, T_96, T_98, T_100, T_112, T_121, T_145, hlt]
    rw [finish_ms rfl (by simp), ho, List.take_of_length_le (by omega)]
    rfl
theorem call136 (l : List S95) (deep : List Int) (hl : fewL l) (hd : deep.length = l.length) (hb : ∀ e ∈ deep, 0 ≤ e ∧ e < 1000000000000000000) (k : Nat) : callV (LX T fns) k (.clo 136 []) [.fz (l.map k95.enc), .fz (deep.map (Cd.int .i64).enc)] = .pure (.fz ((round l deep).map (Cd.int .i64).enc), []) :=
  callV_plain (fn := fn136) rfl rfl rfl (lim136 l deep hl hd hb) k
end Go.Proofs.Ytfdemnefkfkghaa.R
/- Chapter 33's law: what is more than is gone through. -/
namespace Go.Proofs.Ytfdemnefkfkghaa.R
open Go Go.Proofs
set_option linter.unusedSimpArgs false
set_option linter.unusedVariables false
set_option maxRecDepth 10000
set_option maxHeartbeats 1000000

def greatPairs (l : List S145) : Bool := decide (60 < l.length) || l.any fun p => decide (100 < p.f0.size) || decide (100 < p.f1.size)

theorem any_drop {α : Type} {f : α → Bool} {l : List α} {i : Nat} (h : i < l.length) : (l.drop i).any f = (f l[i] || (l.drop (i + 1)).any f) := by
  rw [List.drop_eq_getElem_cons h]
  rfl

theorem lim34 (l : List S145) : lim T fns 34 [.fz (l.map k145.enc)] [] = some (.bool (greatPairs l), []) := by
  refine fn_rule (fn := fn34) rfl rfl (by simp [fn34]) ?_
  unfold fn34
  simp only [Try.f34, Option.getD_some, argEnv, List.map_nil, List.length_nil]
  simp only [go_sem, T_3, T_9, T_51, T_145]
  split
  · rename_i h0
    have : 60 < l.length := by omega
    simp [greatPairs, this]
  · rename_i h0
    have h60 : ¬ 60 < l.length := by omega
    refine loop_rule (ι := Nat) (S := fun i => ⟨[(0, .fz (l.map k145.enc)), (8, .int .i64 l.length), (9, .int .i64 i)], []⟩) (m := fun i => l.length + 1 - i)
      (I := fun i => i ≤ l.length ∧ ((l.drop i).any fun p => decide (100 < p.f0.size) || decide (100 < p.f1.size)) = greatPairs l) ?_ 0 _ ⟨by omega, by simp [greatPairs, h60]⟩ rfl
    rintro i ⟨hi, hg⟩
    by_cases hlt : i < l.length
    · have hx : l[i]? = some l[i] := List.getElem?_eq_getElem hlt
      rw [any_drop hlt] at hg
      by_cases h1 : 100 < l[i].f0.size
      · have e1 : decide ((l[i].f0.size : Int) > 100) = true := by simp; omega
        simp only [go_sem, T_3, T_9, T_51, T_145, all145, hlt, hx, k145_enc, e1, wrap_i64s (show i < 1000000000000000000 by omega)]
        simpa [h1] using hg
      · have e1 : decide ((l[i].f0.size : Int) > 100) = false := by simp; omega
        by_cases h2 : 100 < l[i].f1.size
        · have e2 : decide ((l[i].f1.size : Int) > 100) = true := by simp; omega
          simp only [go_sem, T_3, T_9, T_51, T_145, all145, hlt, hx, k145_enc, e1, e2, wrap_i64s (show i < 1000000000000000000 by omega)]
          simpa [h1, h2] using hg
        · have e2 : decide ((l[i].f1.size : Int) > 100) = false := by simp; omega
          simp only [go_sem, T_3, T_9, T_51, T_145, all145, hlt, hx, k145_enc, e1, e2, wrap_i64s (show i < 1000000000000000000 by omega)]
          exact ⟨i + 1, ⟨by omega, by simpa [h1, h2] using hg⟩, by simp only; omega, rfl⟩
    · rw [List.drop_eq_nil_of_le (by omega)] at hg
      simp only [go_sem, T_3, T_9, T_51, T_145, hlt]
      rw [← hg]
      rfl
theorem call34 (l : List S145) (n : Nat) : callV (LX T fns) n (.clo 34 []) [.fz (l.map k145.enc)] = .pure (.bool (greatPairs l), []) := callV_plain (fn := fn34) rfl rfl rfl (lim34 l) n

def greatMsg (m : S121) : Bool := decide (100 < m.f1.size) || decide (100 < m.f2.size) || decide (100 < m.f5.size)
def greatMsgs (l : List S121) : Bool := decide (60 < l.length) || l.any greatMsg

theorem lim127 (l : List S121) : lim T fns 127 [.fz (l.map k121.enc)] [] = some (.bool (greatMsgs l), []) := by
  refine fn_rule (fn := fn127) rfl rfl (by simp [fn127]) ?_
  unfold fn127
  simp only [Try.f127, Option.getD_some, argEnv, List.map_nil, List.length_nil]
  simp only [go_sem, T_3, T_5, T_9, T_42, T_91, T_96, T_121]
  split
  · rename_i h0
    have : 60 < l.length := by omega
    simp [greatMsgs, this]
  · rename_i h0
    have h60 : ¬ 60 < l.length := by omega
    refine loop_rule (ι := Nat) (S := fun i => ⟨[(0, .fz (l.map k121.enc)), (8, .int .i64 l.length), (9, .int .i64 i)], []⟩) (m := fun i => l.length + 1 - i)
      (I := fun i => i ≤ l.length ∧ ((l.drop i).any greatMsg) = greatMsgs l) ?_ 0 _ ⟨by omega, by simp [greatMsgs, h60]⟩ rfl
    rintro i ⟨hi, hg⟩
    by_cases hlt : i < l.length
    · have hx : l[i]? = some l[i] := List.getElem?_eq_getElem hlt
      rw [any_drop hlt] at hg
      have hm : greatMsg l[i] = (decide (100 < l[i].f1.size) || decide (100 < l[i].f2.size) || decide (100 < l[i].f5.size)) := rfl
      have hw := wrap_i64s (show i < 1000000000000000000 by omega)
      have d1 : decide ((l[i].f1.size : Int) > 100) = decide (100 < l[i].f1.size) := by simp only [gt_iff_lt, decide_eq_decide]; omega
      have d2 : decide ((l[i].f2.size : Int) > 100) = decide (100 < l[i].f2.size) := by simp only [gt_iff_lt, decide_eq_decide]; omega
      have d3 : decide ((l[i].f5.size : Int) > 100) = decide (100 < l[i].f5.size) := by simp only [gt_iff_lt, decide_eq_decide]; omega
      cases h1 : decide (100 < l[i].f1.size) with
      | true =>
        rw [h1] at d1 hm
        simp only [go_sem, T_3, T_5, T_9, T_42, T_91, T_96, T_121, all121, hlt, hx, k121_enc, d1, hw]
        simpa [hm] using hg
      | false =>
        rw [h1] at d1 hm
        cases h2 : decide (100 < l[i].f2.size) with
        | true =>
          rw [h2] at d2 hm
          simp only [go_sem, T_3, T_5, T_9, T_42, T_91, T_96, T_121, all121, hlt, hx, k121_enc, d1, d2, hw]
          simpa [hm] using hg
        | false =>
          rw [h2] at d2 hm
          cases h3 : decide (100 < l[i].f5.size) with
          | true =>
            rw [h3] at d3 hm
            simp only [go_sem, T_3, T_5, T_9, T_42, T_91, T_96, T_121, all121, hlt, hx, k121_enc, d1, d2, d3, hw]
            simpa [hm] using hg
          | false =>
            rw [h3] at d3 hm
            simp only [go_sem, T_3, T_5, T_9, T_42, T_91, T_96, T_121, all121, hlt, hx, k121_enc, d1, d2, d3, hw]
            exact ⟨i + 1, ⟨by omega, by simpa [hm] using hg⟩, by simp only; omega, rfl⟩
    · rw [List.drop_eq_nil_of_le (by omega)] at hg
      simp only [go_sem, T_3, T_5, T_9, T_42, T_91, T_96, T_121, hlt]
      rw [← hg]
      rfl
theorem call127 (l : List S121) (n : Nat) : callV (LX T fns) n (.clo 127 []) [.fz (l.map k121.enc)] = .pure (.bool (greatMsgs l), []) := callV_plain (fn := fn127) rfl rfl rfl (lim127 l) n

def greatE (e : S100) : Bool := decide (100 < e.f2.f0.size) || decide (100 < e.f2.f1.size)
def greatNode (n : S93) : Bool := decide (60 < n.f2.length) || decide (60 < n.f3.length) || greatPairs n.f1 || greatMsgs n.f4 || (n.f2.any fun s => decide (100 < s.size)) || n.f3.any greatE

theorem lim59 (n : S93) : lim T fns 59 [.agg (k93.enc n)] [] = some (.bool (greatNode n), []) := by
  refine fn_rule (fn := fn59) rfl rfl (by simp [fn59]) ?_
  unfold fn59
  simp only [Try.f59, Option.getD_some, argEnv, List.map_nil, List.length_nil]
  have hg : greatNode n = (decide (60 < n.f2.length) || decide (60 < n.f3.length) || greatPairs n.f1 || greatMsgs n.f4 || (n.f2.any fun s => decide (100 < s.size)) || n.f3.any greatE) := rfl
  have d1 : decide ((n.f2.length : Int) > 60) = decide (60 < n.f2.length) := by simp only [gt_iff_lt, decide_eq_decide]; omega
  have d2 : decide ((n.f3.length : Int) > 60) = decide (60 < n.f3.length) := by simp only [gt_iff_lt, decide_eq_decide]; omega
  cases h1 : decide (60 < n.f2.length) with
  | true =>
    rw [h1] at d1 hg
    simp only [go_sem, T_3, T_4, T_5, T_9, T_42, T_51, T_69, T_90, T_91, T_93, T_96, T_98, T_100, T_121, T_145, k93_enc, d1]
    simp [hg]
  | false =>
  rw [h1] at d1 hg
  cases h2 : decide (60 < n.f3.length) with
  | true =>
    rw [h2] at d2 hg
    simp only [go_sem, T_3, T_4, T_5, T_9, T_42, T_51, T_69, T_90, T_91, T_93, T_96, T_98, T_100, T_121, T_145, k93_enc, d1, d2]
    simp [hg]
  | false =>
  rw [h2] at d2 hg
  cases h3 : greatPairs n.f1 with
  | true =>
    rw [h3] at hg
    simp only [go_sem, T_3, T_4, T_5, T_9, T_42, T_51, T_69, T_90, T_91, T_93, T_96, T_98, T_100, T_121, T_145, k93_enc, d1, d2, call34, h3]
    simp [hg]
  | false =>
  rw [h3] at hg
  cases h4 : greatMsgs n.f4 with
  | true =>
    rw [h4] at hg
    simp only [go_sem, T_3, T_4, T_5, T_9, T_42, T_51, T_69, T_90, T_91, T_93, T_96, T_98, T_100, T_121, T_145, k93_enc, d1, d2, call34, call127, h3, h4]
    simp [hg]
  | false =>
  rw [h4] at hg
  simp only [Bool.or_false, Bool.false_or] at hg
  have l2 : n.f2.length ≤ 60 := by simpa using h1
  have l3 : n.f3.length ≤ 60 := by simpa using h2
  simp only [go_sem, T_3, T_4, T_5, T_9, T_42, T_51, T_69, T_90, T_91, T_93, T_96, T_98, T_100, T_121, T_145, k93_enc, d1, d2, call34, call127, h3, h4]
  refine loop_rule (ι := Nat) (S := fun i => ⟨[(1, .ptr 0 0 0), (27, .int .i64 n.f2.length), (28, .int .i64 i)], [some (.buf 5 [k93.enc n] false true)]⟩) (m := fun i => n.f2.length + 1 - i)
    (I := fun i => i ≤ n.f2.length ∧ (((n.f2.drop i).any fun s => decide (100 < s.size)) || n.f3.any greatE) = greatNode n) ?_ 0 _ ⟨by omega, hg.symm⟩ rfl
  rintro i ⟨hi, hq⟩
  by_cases hlt : i < n.f2.length
  · have hx : n.f2[i]? = some n.f2[i] := List.getElem?_eq_getElem hlt
    rw [any_drop hlt] at hq
    simp only [go_sem, T_3, T_4, T_5, T_9, T_42, T_51, T_69, T_90, T_91, T_93, T_96, T_98, T_100, T_121, T_145, hlt, hx, k93_enc, wrap_i64s (show i < 1000000000000000000 by omega)]
    split
    · rename_i he
      have : 100 < n.f2[i].size := by omega
      simpa [this] using hq
    · rename_i he
      have : ¬ 100 < n.f2[i].size := by omega
      exact ⟨i + 1, ⟨by omega, by simpa [this] using hq⟩, by simp only; omega, rfl⟩
  rw [List.drop_eq_nil_of_le (by omega)] at hq
  simp only [List.any_nil, Bool.false_or] at hq
  simp only [go_sem, T_3, T_4, T_5, T_9, T_42, T_51, T_69, T_90, T_91, T_93, T_96, T_98, T_100, T_121, T_145, hlt, k93_enc]
  refine loop_rule (ι := Nat) (S := fun i => ⟨[(1, .ptr 0 0 0), (41, .int .i64 n.f3.length), (42, .int .i64 i)], [some (.buf 5 [k93.enc n] false true)]⟩) (m := fun i => n.f3.length + 1 - i)
    (I := fun i => i ≤ n.f3.length ∧ (n.f3.drop i).any greatE = greatNode n) ?_ 0 _ ⟨by omega, hq⟩ rfl
  clear hlt hi
  rintro i ⟨hi, hq⟩
  by_cases hlt : i < n.f3.length
  · have hx : n.f3[i]? = some n.f3[i] := List.getElem?_eq_getElem hlt
    rw [any_drop hlt] at hq
    have hm : greatE n.f3[i] = (decide (100 < n.f3[i].f2.f0.size) || decide (100 < n.f3[i].f2.f1.size)) := rfl
    have e1 : decide ((n.f3[i].f2.f0.size : Int) > 100) = decide (100 < n.f3[i].f2.f0.size) := by simp only [gt_iff_lt, decide_eq_decide]; omega
    have e2 : decide ((n.f3[i].f2.f1.size : Int) > 100) = decide (100 < n.f3[i].f2.f1.size) := by simp only [gt_iff_lt, decide_eq_decide]; omega
    have hw := wrap_i64s (show i < 1000000000000000000 by omega)
    cases g1 : decide (100 < n.f3[i].f2.f0.size) with
    | true =>
      rw [g1] at e1 hm
      simp only [go_sem, T_3, T_4, T_5, T_9, T_42, T_51, T_69, T_90, T_91, T_93, T_96, T_98, T_100, T_121, T_145, all100, hlt, hx, k93_enc, k100_enc, e1, hw]
      simpa [hm] using hq
    | false =>
      rw [g1] at e1 hm
      cases g2 : decide (100 < n.f3[i].f2.f1.size) with
      | true =>
        rw [g2] at e2 hm
        simp only [go_sem, T_3, T_4, T_5, T_9, T_42, T_51, T_69, T_90, T_91, T_93, T_96, T_98, T_100, T_121, T_145, all100, hlt, hx, k93_enc, k100_enc, e1, e2, hw]
        simpa [hm] using hq
      | false =>
        rw [g2] at e2 hm
        simp only [go_sem, T_3, T_4, T_5, T_9, T_42, T_51, T_69, T_90, T_91, T_93, T_96, T_98, T_100, T_121, T_145, all100, hlt, hx, k93_enc, k100_enc, e1, e2, hw]
        exact ⟨i + 1, ⟨by omega, by simpa [hm] using hq⟩, by simp only; omega, rfl⟩
  · rw [List.drop_eq_nil_of_le (by omega)] at hq
    simp only [go_sem, T_3, T_4, T_5, T_9, T_42, T_51, T_69, T_90, T_91, T_93, T_96, T_98, T_100, T_121, T_145, hlt, k93_enc]
    rw [← hq]
    rfl
theorem call59 (n : S93) (k : Nat) : callV (LX T fns) k (.clo 59 []) [.agg (k93.enc n)] = .pure (.bool (greatNode n), []) := callV_plain (fn := fn59) rfl rfl rfl (lim59 n) k

def greatL (l : List S95) : Bool := decide (30 < l.length) || l.any fun x => greatNode x.f1
theorem lim14 (l : List S95) : lim T fns 14 [.fz (l.map k95.enc)] [] = some (.bool (greatL l), []) := by
  refine fn_rule (fn := fn14) rfl rfl (by simp [fn14]) ?_
  unfold fn14
  simp only [Try.f14, Option.getD_some, argEnv, List.map_nil, List.length_nil]
  simp only [go_sem, T_3, T_4, T_5, T_9, T_22, T_42, T_51, T_69, T_90, T_91, T_93, T_95, T_96, T_98, T_100, T_121, T_145]
  split
  · rename_i h0
    have : 30 < l.length := by omega
    simp [greatL, this]
  · rename_i h0
    have h30 : ¬ 30 < l.length := by omega
    refine loop_rule (ι := Nat) (S := fun i => ⟨[(0, .fz (l.map k95.enc)), (8, .int .i64 l.length), (9, .int .i64 i)], []⟩) (m := fun i => l.length + 1 - i)
      (I := fun i => i ≤ l.length ∧ ((l.drop i).any fun x => greatNode x.f1) = greatL l) ?_ 0 _ ⟨by omega, by simp [greatL, h30]⟩ rfl
    rintro i ⟨hi, hg⟩
    by_cases hlt : i < l.length
    · have hx : l[i]? = some l[i] := List.getElem?_eq_getElem hlt
      rw [any_drop hlt] at hg
      have hc := call59 l[i].f1
      simp only [k93_enc] at hc
      simp only [go_sem, T_3, T_4, T_5, T_9, T_22, T_42, T_51, T_69, T_90, T_91, T_93, T_95, T_96, T_98, T_100, T_121, T_145, all95, hlt, hx, k95_enc, hc, wrap_i64s (show i < 1000000000000000000 by omega)]
      split
      · rename_i he
        simpa [he] using hg
      · rename_i he
        exact ⟨i + 1, ⟨by omega, by simpa [he] using hg⟩, by simp only; omega, rfl⟩
    · rw [List.drop_eq_nil_of_le (by omega)] at hg
      simp only [go_sem, T_3, T_4, T_5, T_9, T_22, T_42, T_51, T_69, T_90, T_91, T_93, T_95, T_96, T_98, T_100, T_121, T_145, hlt]
      rw [← hg]
      rfl
theorem call14 (l : List S95) (k : Nat) : callV (LX T fns) k (.clo 14 []) [.fz (l.map k95.enc)] = .pure (.bool (greatL l), []) := callV_plain (fn := fn14) rfl rfl rfl (lim14 l) k
theorem few_of_great {l : List S95} (h : greatL l = false) : fewL l ∧ l.length ≤ 30 := by
  unfold greatL at h
  simp only [Bool.or_eq_false_iff, decide_eq_false_iff_not, List.any_eq_false] at h
  refine ⟨⟨by omega, fun x hx => ?_⟩, by omega⟩
  have := h.2 x hx
  simp only [greatNode, greatPairs, greatMsgs, Bool.or_eq_true, decide_eq_true_eq, not_or] at this
  refine ⟨?_, ?_, ?_, ?_⟩ <;> omega
end Go.Proofs.Ytfdemnefkfkghaa.R
/- Chapter 33's law: rising keys. -/
namespace Go.Proofs.Ytfdemnefkfkghaa.R
open Go Go.Proofs
set_option linter.unusedSimpArgs false
set_option linter.unusedVariables false
set_option maxRecDepth 10000
set_option maxHeartbeats 1000000

/-- No greater, as texts. -/
def leS (a b : ByteArray) : Bool := Op.bytesLess a.toList b.toList || a.toList == b.toList
def riseFrom : List S145 → Bool
  | x :: y :: r => !leS y.f0 x.f0 && riseFrom (y :: r)
  | _ => true
theorem wrap_i64p {k : Nat} (h : k < 1000000000000000000) : IntKind.i64.wrap (((k + 1 : Nat) : Int) - 1) = (k : Int) := by
  rw [wrap_i64 (by omega) (by omega)]
  omega
theorem rise_drop {l : List S145} {k : Nat} (h : k + 1 < l.length) : riseFrom (l.drop k) = (!leS l[k + 1].f0 (l[k]'(by omega)).f0 && riseFrom (l.drop (k + 1))) := by
  rw [List.drop_eq_getElem_cons (show k < l.length by omega), List.drop_eq_getElem_cons h]
  rfl
theorem rise_one {l : List S145} {k : Nat} (h : l.length ≤ k + 1) : riseFrom (l.drop k) = true := by
  have : (l.drop k).length ≤ 1 := by simp; omega
  match hd : l.drop k with
  | [] => rfl
  | [x] => rfl
  | x :: y :: r => rw [hd] at this; simp at this

theorem lim90 (l : List S145) (hl : l.length < 1000000000000) : lim T fns 90 [.fz (l.map k145.enc)] [] = some (.bool (riseFrom l), []) := by
  refine fn_rule (fn := fn90) rfl rfl (by simp [fn90]) ?_
  unfold fn90
  simp only [Try.f90, Option.getD_some, argEnv, List.map_nil, List.length_nil]
  simp only [go_sem, T_3, T_9, T_51, T_145]
  refine loop_rule (ι := Nat) (S := fun k => ⟨[(0, .fz (l.map k145.enc)), (3, .int .i64 (k + 1 : Nat))], []⟩) (m := fun k => l.length + 1 - k)
    (I := fun k => (k = 0 ∨ k < l.length) ∧ riseFrom (l.drop k) = riseFrom l) ?_ 0 _ ⟨by omega, by simp⟩ rfl
  rintro k ⟨hi, hg⟩
  by_cases hlt : k + 1 < l.length
  · have hx : l[k + 1]? = some l[k + 1] := List.getElem?_eq_getElem hlt
    have hy : l[k]? = some (l[k]'(by omega)) := List.getElem?_eq_getElem (by omega)
    rw [rise_drop hlt] at hg
    have hle : ∀ a b : ByteArray, (Op.bytesLess a.toList b.toList || a.toList == b.toList) = leS a b := fun _ _ => rfl
    simp only [go_sem, T_3, T_9, T_51, T_145, all145, hlt, hx, hy, k145_enc, hle, wrap_i64p (show k < 1000000000000000000 by omega), wrap_i64s (show k + 1 < 1000000000000000000 by omega)]
    split
    · rename_i he
      simpa [he] using hg
    · rename_i he
      exact ⟨k + 1, ⟨by omega, by simpa [he] using hg⟩, by simp only; omega, rfl⟩
  · rw [rise_one (by omega)] at hg
    simp only [go_sem, T_3, T_9, T_51, T_145, hlt]
    rw [← hg]
theorem call90 (l : List S145) (hl : l.length < 1000000000000) (n : Nat) : callV (LX T fns) n (.clo 90 []) [.fz (l.map k145.enc)] = .pure (.bool (riseFrom l), []) := callV_plain (fn := fn90) rfl rfl rfl (lim90 l hl) n
end Go.Proofs.Ytfdemnefkfkghaa.R
/- Chapter 33's law: may a message be? (the document's) -/
namespace Go.Proofs.Ytfdemnefkfkghaa.R
open Go Go.Proofs
set_option linter.unusedSimpArgs false
set_option linter.unusedVariables false
set_option maxRecDepth 10000
set_option maxHeartbeats 2000000

def toS (m : S121) : Bool := (m.f3 != 0) || (m.f4 != 0) || !(decide (m.f5 = ⟨#[]⟩))
def mayMsg (m : S121) : Bool := !(decide (16 < m.f1.size) || decide (32 < m.f2.size) || decide (16 < m.f5.size)) &&
  (if m.f0 = 1 then !toS m else if m.f0 = 2 then !toS m && decide (m.f2 = ⟨#[]⟩) else if m.f0 = 3 then decide (m.f4 > 0) && decide (m.f2 = ⟨#[]⟩) else false)

theorem lim134 (m : S121) : lim T fns 134 [.agg (k121.enc m)] [] = some (.bool (mayMsg m), []) := by
  refine fn_rule (fn := fn134) rfl rfl (by simp [fn134]) ?_
  unfold fn134
  simp only [Try.f134, Option.getD_some, argEnv, List.map_nil, List.length_nil]
  have d1 : decide ((m.f1.size : Int) > 16) = decide (16 < m.f1.size) := by simp only [gt_iff_lt, decide_eq_decide]; omega
  have d2 : decide ((m.f2.size : Int) > 32) = decide (32 < m.f2.size) := by simp only [gt_iff_lt, decide_eq_decide]; omega
  have d3 : decide ((m.f5.size : Int) > 16) = decide (16 < m.f5.size) := by simp only [gt_iff_lt, decide_eq_decide]; omega
  have hm : mayMsg m = (!(decide (16 < m.f1.size) || decide (32 < m.f2.size) || decide (16 < m.f5.size)) &&
    (if m.f0 = 1 then !toS m else if m.f0 = 2 then !toS m && decide (m.f2 = ⟨#[]⟩) else if m.f0 = 3 then decide (m.f4 > 0) && decide (m.f2 = ⟨#[]⟩) else false)) := rfl
  cases h1 : decide (16 < m.f1.size) with
  | true =>
    rw [h1] at d1 hm
    simp only [go_sem, T_3, T_4, T_5, T_9, T_42, T_96, T_121, k121_enc, d1]
    simp [hm]
  | false =>
  rw [h1] at d1 hm
  cases h2 : decide (32 < m.f2.size) with
  | true =>
    rw [h2] at d2 hm
    simp only [go_sem, T_3, T_4, T_5, T_9, T_42, T_96, T_121, k121_enc, d1, d2]
    simp [hm]
  | false =>
  rw [h2] at d2 hm
  cases h3 : decide (16 < m.f5.size) with
  | true =>
    rw [h3] at d3 hm
    simp only [go_sem, T_3, T_4, T_5, T_9, T_42, T_96, T_121, k121_enc, d1, d2, d3]
    simp [hm]
  | false =>
  rw [h3] at d3 hm
  have rest : ∀ t : Bool, toS m = t → mayMsg m = (if m.f0 = 1 then !t else if m.f0 = 2 then !t && decide (m.f2 = ⟨#[]⟩) else if m.f0 = 3 then decide (m.f4 > 0) && decide (m.f2 = ⟨#[]⟩) else false) := by
    rintro t rfl
    rw [hm]
    simp
  have ht : toS m = ((m.f3 != 0) || (m.f4 != 0) || !(decide (m.f5 = ⟨#[]⟩))) := rfl
  cases k3 : decide (m.f2 = ⟨#[]⟩) <;> cases g4 : decide (m.f4 > 0)
  all_goals
    cases g1 : (m.f3 != 0) with
    | true =>
      have r := rest true (by rw [ht, g1]; rfl)
      simp only [go_sem, T_3, T_4, T_5, T_9, T_42, T_96, T_121, k121_enc, d1, d2, d3, g1, g4, k3, ba_toList]
      rw [r]
      repeat' split
      all_goals simp_all
    | false =>
      cases g2 : (m.f4 != 0) with
      | true =>
        have r := rest true (by rw [ht, g1, g2]; rfl)
        simp only [go_sem, T_3, T_4, T_5, T_9, T_42, T_96, T_121, k121_enc, d1, d2, d3, g1, g2, g4, k3, ba_toList]
        rw [r]
        repeat' split
        all_goals simp_all
      | false =>
        cases g3 : decide (m.f5 = ⟨#[]⟩) with
        | true =>
          have r := rest false (by rw [ht, g1, g2, g3]; rfl)
          simp only [go_sem, T_3, T_4, T_5, T_9, T_42, T_96, T_121, k121_enc, d1, d2, d3, g1, g2, g3, g4, k3, ba_toList]
          rw [r]
          repeat' split
          all_goals simp_all
        | false =>
          have r := rest true (by rw [ht, g1, g2, g3]; rfl)
          simp only [go_sem, T_3, T_4, T_5, T_9, T_42, T_96, T_121, k121_enc, d1, d2, d3, g1, g2, g3, g4, k3, ba_toList]
          rw [r]
          repeat' split
          all_goals simp_all
theorem call134 (m : S121) (n : Nat) : callV (LX T fns) n (.clo 134 []) [.agg (k121.enc m)] = .pure (.bool (mayMsg m), []) := callV_plain (fn := fn134) rfl rfl rfl (lim134 m) n
end Go.Proofs.Ytfdemnefkfkghaa.R
/- Chapter 33's law: short texts; 1, whatever block. -/
namespace Go.Proofs.Ytfdemnefkfkghaa.R
open Go Go.Proofs
set_option linter.unusedSimpArgs false
set_option linter.unusedVariables false
set_option maxRecDepth 10000
set_option maxHeartbeats 2000000

theorem lim219 (s : ByteArray) : lim T fns 219 [.str s] [] = some (.bool (decide (s.size ≤ 16)), []) := by
  refine fn_rule (fn := fn219) rfl rfl (by simp [fn219]) ?_
  unfold fn219
  simp only [Try.f219, Option.getD_some, argEnv, List.map_nil, List.length_nil]
  simp only [go_sem, T_3, T_9]
  have : decide ((s.size : Int) ≤ 16) = decide (s.size ≤ 16) := by simp only [decide_eq_decide]; omega
  rw [this]
theorem call219 (s : ByteArray) (n : Nat) : callV (LX T fns) n (.clo 219 []) [.str s] = .pure (.bool (decide (s.size ≤ 16)), []) := callV_plain (fn := fn219) rfl rfl rfl (lim219 s) n

theorem lim128 (b : Int) : lim T fns 128 [.int .u32 b] [] = some (.int .u16 1, []) := by
  refine fn_rule (fn := fn128) rfl rfl (by simp [fn128]) ?_
  unfold fn128
  simp only [Try.f128, Option.getD_some, argEnv, List.map_nil, List.length_nil]
  simp only [go_sem, ]
theorem call128 (b : Int) (n : Nat) : callV (LX T fns) n (.clo 128 []) [.int .u32 b] = .pure (.int .u16 1, []) := callV_plain (fn := fn128) rfl rfl rfl (lim128 b) n

def mayMsg2 (m : S121) : Bool := decide (m.f1.size ≤ 16) && (if m.f0 = 1 then decide (m.f2.size ≤ 32) && decide (m = ⟨1, m.f1, m.f2, 0, 0, ⟨#[]⟩⟩) else if m.f0 = 2 then decide (m = ⟨2, m.f1, ⟨#[]⟩, 0, 0, ⟨#[]⟩⟩)
  else if m.f0 = 3 then decide (m.f5.size ≤ 16) && decide (m.f4 ≥ 1) && decide (m.f2 = ⟨#[]⟩) else false)

theorem lim222 (m : S121) : lim T fns 222 [.agg (k121.enc m)] [] = some (.bool (mayMsg2 m), []) := by
  refine fn_rule (fn := fn222) rfl rfl (by simp [fn222]) ?_
  unfold fn222
  simp only [Try.f222, Option.getD_some, argEnv, List.map_nil, List.length_nil]
  have q1 := eq121 m ⟨1, m.f1, m.f2, 0, 0, ⟨#[]⟩⟩
  have q2 := eq121 m ⟨2, m.f1, ⟨#[]⟩, 0, 0, ⟨#[]⟩⟩
  simp only at q1 q2
  have hm : mayMsg2 m = (decide (m.f1.size ≤ 16) && (if m.f0 = 1 then decide (m.f2.size ≤ 32) && decide (m = ⟨1, m.f1, m.f2, 0, 0, ⟨#[]⟩⟩) else if m.f0 = 2 then decide (m = ⟨2, m.f1, ⟨#[]⟩, 0, 0, ⟨#[]⟩⟩)
    else if m.f0 = 3 then decide (m.f5.size ≤ 16) && decide (m.f4 ≥ 1) && decide (m.f2 = ⟨#[]⟩) else false)) := rfl
  have d1 : decide ((m.f1.size : Int) > 16) = !decide (m.f1.size ≤ 16) := by
    by_cases h : m.f1.size ≤ 16
    · have : ¬ ((m.f1.size : Int) > 16) := by omega
      simp [h, this]
    · have : (m.f1.size : Int) > 16 := by omega
      simp [h, this]
  have d2 : decide ((m.f2.size : Int) ≤ 32) = decide (m.f2.size ≤ 32) := by simp only [decide_eq_decide]; omega
  have d3 : decide ((m.f5.size : Int) ≤ 16) = decide (m.f5.size ≤ 16) := by simp only [decide_eq_decide]; omega
  cases h1 : decide (m.f1.size ≤ 16) with
  | false =>
    rw [h1] at d1 hm
    simp only [go_sem, T_3, T_5, T_9, T_42, T_96, T_121, k121_enc, d1]
    simp [hm]
  | true =>
  rw [h1] at d1 hm
  cases h2 : decide (m.f2.size ≤ 32) <;> cases h3 : decide (m.f5.size ≤ 16) <;> cases h4 : decide (m.f4 ≥ 1)
  all_goals
    rw [h2] at d2
    rw [h3] at d3
    rw [h2, h3, h4] at hm
    simp only [go_sem, T_3, T_5, T_9, T_42, T_96, T_121, k121_enc, d1, d2, d3, h4, q1, q2, ba_toList]
    rw [hm]
    repeat' split
    all_goals simp_all
theorem call222 (m : S121) (n : Nat) : callV (LX T fns) n (.clo 222 []) [.agg (k121.enc m)] = .pure (.bool (mayMsg2 m), []) := callV_plain (fn := fn222) rfl rfl rfl (lim222 m) n
theorem mayMsg2_eq (m : S121) : mayMsg2 m = mayMsg m := by
  obtain ⟨a, b, c, d, e, f⟩ := m
  unfold mayMsg2 mayMsg toS
  rw [Bool.eq_iff_iff]
  have hc : c = ⟨#[]⟩ → c.size = 0 := by rintro rfl; rfl
  have hf : f = ⟨#[]⟩ → f.size = 0 := by rintro rfl; rfl
  by_cases h1 : a = 1
  · subst h1
    simp only [S121.mk.injEq, if_true, Bool.and_eq_true, Bool.not_eq_true', Bool.or_eq_false_iff, decide_eq_true_eq, decide_eq_false_iff_not, bne_eq_false_iff_eq, Bool.not_eq_false', true_and]
    constructor
    · rintro ⟨g1, g2, g3, g4, g5⟩
      have := hf g5
      exact ⟨⟨⟨by omega, by omega⟩, by omega⟩, ⟨g3, g4⟩, g5⟩
    · rintro ⟨⟨⟨g1, g2⟩, g3⟩, ⟨g4, g5⟩, g6⟩
      exact ⟨by omega, by omega, g4, g5, g6⟩
  by_cases h2 : a = 2
  · subst h2
    simp only [S121.mk.injEq, h1, if_true, if_false, Bool.and_eq_true, Bool.not_eq_true', Bool.or_eq_false_iff, decide_eq_true_eq, decide_eq_false_iff_not, bne_eq_false_iff_eq, Bool.not_eq_false', true_and]
    constructor
    · rintro ⟨g1, g2, g3, g4, g5⟩
      have := hf g5
      have := hc g2
      exact ⟨⟨⟨by omega, by omega⟩, by omega⟩, ⟨⟨g3, g4⟩, g5⟩, g2⟩
    · rintro ⟨⟨⟨g1, g2⟩, g3⟩, ⟨⟨g4, g5⟩, g6⟩, g7⟩
      exact ⟨by omega, g7, g4, g5, g6⟩
  by_cases h3 : a = 3
  · subst h3
    simp only [h1, h2, if_true, if_false, Bool.and_eq_true, Bool.not_eq_true', Bool.or_eq_false_iff, decide_eq_true_eq, decide_eq_false_iff_not]
    constructor
    · rintro ⟨g1, ⟨g2, g3⟩, g4⟩
      have := hc g4
      exact ⟨⟨⟨by omega, by omega⟩, by omega⟩, by omega, g4⟩
    · rintro ⟨⟨⟨g1, g2⟩, g3⟩, g4, g5⟩
      exact ⟨by omega, ⟨by omega, by omega⟩, g5⟩
  · simp [h1, h2, h3]
end Go.Proofs.Ytfdemnefkfkghaa.R
/- Chapter 33's law: a node, as deep as a closure tells. -/
namespace Go.Proofs.Ytfdemnefkfkghaa.R
open Go Go.Proofs
set_option linter.unusedSimpArgs false
set_option linter.unusedVariables false
set_option maxRecDepth 10000
set_option maxHeartbeats 2000000

/-- A call, of arguments that lead to no object, that answers with new objects. -/
theorem callV_new {T : TT} {fns : FuncId → Option AFn} {g : FuncId} {fn : AFn} (hfn : fns g = some fn) {args : List V} {r : V} {H : Heap} (ha : V.allPlain args = true) (h : lim T fns g args [] = some (r, H)) {n : Nat} {r' : V} {us : Upd}
    (hr : V.re (back [] n H.length) r = some r') (hp : pushObs (back [] n H.length) H 0 = some us) (he : H.isEmpty = false) : callV (LX T fns) n (.clo g []) args = .pure (r', us) := by
  unfold callV
  simp only [hfn, List.append_nil]
  unfold callR
  rw [plainArgs_frz _ _ _ ha, plainAll_ids _ ha]
  show withR (lim T fns g) n args [] [] = _
  unfold withR
  simp only [List.map_nil, upd1, List.all_nil, Bool.and_self, if_true, plainAll_re _ args ha, pullObs, h, List.length_nil, Nat.zero_le]
  unfold afterR
  simp only [hr, hp, he, Bool.and_false, Bool.false_and, Bool.false_eq_true, if_false, List.append_nil]

theorem call133 (n : S93) (hn : fewN n) (k : Nat) : callV (LX T fns) k (.clo 133 []) [.agg (k93.enc n)] =
    .pure (ownV n k, [(k, some (.buf 2 (n.f1.map k145.enc) false true)), (k + 1, some (.buf 1 (n.f2.map Cd.str.enc) false true)), (k + 2, some (.buf 4 (n.f3.map k100.enc) false true)), (k + 3, some (.buf 6 (n.f4.map k121.enc) false true))]) :=
  callV_new (fn := fn133) rfl rfl (lim133 n hn) (by simp only [ownV, ownH, V.re, V.reAll, back, nth, List.length_cons, List.length_nil, Nat.zero_add, Nat.reduceAdd, Nat.reduceLT, if_true, Option.map_some, Option.bind_some, Nat.sub_zero, Nat.add_zero])
    (by simp only [ownH, pushObs, back, nth, List.length_cons, List.length_nil, Nat.zero_add, Nat.reduceAdd, Nat.reduceLT, if_true, Option.map_some, Option.bind_some, Nat.sub_zero, Nat.add_zero, Ob.re]) rfl

theorem mix_get {α : Type} (f : α → α) {l : List α} {i : Nat} (h : i < l.length) : ((l.take i).map f ++ l.drop i)[i]? = some l[i] := by
  rw [List.getElem?_append_right (by simp; omega)]
  simp only [List.length_map, List.length_take]
  rw [show i - min i l.length = 0 by omega, List.drop_eq_getElem_cons h]
  rfl
theorem mix_set {α : Type} (f : α → α) {l : List α} {i : Nat} (h : i < l.length) : ((l.take i).map f ++ l.drop i).set i (f l[i]) = (l.take (i + 1)).map f ++ l.drop (i + 1) := by
  rw [List.set_append_right _ _ (by simp; omega)]
  simp only [List.length_map, List.length_take]
  rw [show i - min i l.length = 0 by omega, List.drop_eq_getElem_cons h, List.take_succ_eq_append_getElem h]
  simp only [List.set_cons_zero, List.map_append, List.map_cons, List.map_nil, List.append_assoc, List.singleton_append]
theorem mix_len {α : Type} (f : α → α) {l : List α} {i : Nat} (h : i ≤ l.length) : ((l.take i).map f ++ l.drop i).length = l.length := by
  simp only [List.length_append, List.length_map, List.length_take, List.length_drop]
  omega
theorem mix_same {α : Type} (f : α → α) {l : List α} {i : Nat} (h : i < l.length) (hf : f l[i] = l[i]) : (l.take i).map f ++ l.drop i = (l.take (i + 1)).map f ++ l.drop (i + 1) := by
  rw [List.drop_eq_getElem_cons h, List.take_succ_eq_append_getElem h]
  simp only [hf, List.map_append, List.map_cons, List.map_nil, List.append_assoc, List.singleton_append]
theorem mix_all {α : Type} (f : α → α) {l : List α} {i : Nat} (h : l.length ≤ i) : (l.take i).map f ++ l.drop i = l.map f := by
  rw [List.drop_eq_nil_of_le h, List.take_of_length_le h, List.append_nil]
theorem map_set' {α : Type} {d : Cd α} {l : List α} {i : Nat} {y : α} : (l.map d.enc).set i (d.enc y) = (l.set i y).map d.enc := by rw [List.map_set]
/-- The end of a call, once its answer is frozen. -/
def FK (keep : Nat) (h : Heap) (r : V × Heap) (x : Option ((V × Upd) × List Nat)) : Prop := match x with
  | some ((v, u), _) => finish keep false v (h.puts u) = some r
  | none => False
theorem finish_fk {keep : Nat} {v : V} {h : Heap} {r : V × Heap} (hf : FK keep h r ((frz v fun v u => Rd.pure (v, u)).run h [])) : finish keep true v h = some r := by
  unfold FK at hf
  split at hf
  · rename_i hx
    unfold finish at hf ⊢
    simp only [if_true, hx, Option.map_some, Option.bind_some]
    simpa using hf
  · exact hf.elim
theorem take_map {α β : Type} {f : α → β} {l : List α} : (l.map f).take l.length = l.map f := List.take_of_length_le (by simp)
theorem take_map2 {α β γ : Type} {g : α → β} {f : β → γ} {l : List α} : ((l.map g).map f).take l.length = (l.map g).map f := List.take_of_length_le (by simp)

/-! A finder's objects. -/
def getI (b : Int) : List (Int × Int) → Option Int
  | [] => none
  | p :: r => if p.1 = b then some p.2 else getI b r
def encI (p : Int × Int) : V × V := (.int .u32 p.1, .int .i64 p.2)
def encL (x : S95) : V × V := (.int .u32 x.f0, .agg (k93.enc x.f1))
def fo0 : Ob := .buf 1 [[.ptr 1 0 0]] false false
def fo1 (lost : Bool) : Ob := .buf 3 [[.map 2, .map 3, .bool lost]] false false
def fo2 (l : List S95) : Ob := .mp (l.map encL) true
def fo3 (m : List (Int × Int)) : Ob := .mp (m.map encI) true
theorem find_encI {b : Int} : ∀ {m : List (Int × Int)}, findKey (.int .u32 b) (m.map encI) = some ((getI b m).map (V.int .i64))
  | [] => rfl
  | p :: r => by
    simp only [List.map_cons, encI, findKey, eqCell, if_true, getI]
    have e : (b == p.1) = decide (p.1 = b) := by
      rw [Bool.eq_iff_iff]
      simp only [beq_iff_eq, decide_eq_true_eq]
      exact ⟨fun h => h.symm, fun h => h.symm⟩
    rw [e]
    by_cases h : p.1 = b
    · simp [h]
    · simp only [h, decide_false, if_false]
      exact find_encI
def deepI (m : List (Int × Int)) (b : Int) : Int := IntKind.u16.wrap ((getI b m).getD 0)

theorem lim64 (b : Int) (lost : Bool) (l : List S95) (m : List (Int × Int)) : lim T fns 64 [.int .u32 b, .ptr 0 0 0] [fo0, fo1 lost, fo2 l, fo3 m] = some (.int .u16 (deepI m b), [some fo0, some (fo1 lost), some (fo2 l), some (fo3 m)]) := by
  refine fn_rule (fn := fn64) rfl rfl (by simp [fn64]) ?_
  unfold fn64
  simp only [Try.f64, Option.getD_some, argEnv, List.map_nil, List.length_nil]
  have hk : isKey T 42 (.int .u32 b) = true := rfl
  simp only [go_sem, T_3, T_4, T_5, T_9, T_42, T_51, T_69, T_90, T_91, T_93, T_96, T_98, T_100, T_102, T_103, T_104, T_106, T_121, T_145, fo0, fo1, fo2, fo3, List.map_cons, nilCheckR, lookupR, hk, find_encI]
  cases hg : getI b m with
  | none =>
    simp only [go_sem, T_3, T_4, T_5, T_9, T_42, T_51, T_69, T_90, T_91, T_93, T_96, T_98, T_100, T_102, T_103, T_104, T_106, T_121, T_145, giveR, Option.map_none]
    simp only [deepI, hg, Option.getD_none]
    rfl
  | some d =>
    simp only [go_sem, T_3, T_4, T_5, T_9, T_42, T_51, T_69, T_90, T_91, T_93, T_96, T_98, T_100, T_102, T_103, T_104, T_106, T_121, T_145, giveR, Option.map_some]
    simp only [deepI, hg, Option.getD_some]
    rfl
theorem call64 (b : Int) (lost : Bool) (l : List S95) (m : List (Int × Int)) (n : Nat) (hn : 4 ≤ n) (rest : Heap) : (callV (LX T fns) n (.clo 64 [.ptr 0 0 0]) [.int .u32 b]).run (some fo0 :: some (fo1 lost) :: some (fo2 l) :: some (fo3 m) :: rest) [] =
    some ((.int .u16 (deepI m b), [(0, some fo0), (1, some (fo1 lost)), (2, some (fo2 l)), (3, some (fo3 m))]), [3, 2, 1, 0]) := by
  have h := lim64 b lost l m
  have hf : fns 64 = some fn64 := rfl
  have h0 : 0 < n := by omega
  have h1 : 1 < n := by omega
  have h2 : 2 < n := by omega
  have h3 : 3 < n := by omega
  simp only [fo0, fo1, fo2, fo3] at h ⊢
  unfold callV
  simp only [hf]
  unfold callR
  simp only [fn64, List.cons_append, List.nil_append, frzArgs, frz, frzAll, frzG, frzGAll, ms2, msUp, List.tail]
  simp only [V.allIds, V.ids, List.append_nil, List.nil_append, collect, List.map_nil, List.contains_nil, Bool.false_eq_true, if_false, Rd.run, Heap.at?, Ob.ids, rowsIds, List.map_cons, List.cons_append, List.contains_cons, Nat.reduceBEq, Bool.or_self, Bool.or_false, Bool.false_or, Bool.or_true, Bool.true_or]
  unfold withR
  simp only [List.map_cons, List.map_nil, upd1, List.all_nil, List.all_cons, h0, h1, h2, h3, decide_true, Bool.and_self, if_true, V.reAll, V.re, idx, Nat.beq, cond_true, cond_false, Option.bind_some, Option.map_some, pullObs, Ob.re, reRows, Nat.reduceAdd, h, List.length_cons, List.length_nil, Nat.le_refl]
  unfold afterR
  simp only [V.re, pushObs, back, nth, Ob.re, reRows, V.reAll, Option.bind_some, Option.map_some, List.isEmpty_cons, Bool.false_and, Bool.false_eq_true, if_false, Rd.run, List.append_nil, Nat.reduceAdd]

theorem lim63a (n : S93)  (hn : fewN n) : lim T fns 63 [.agg (k93.enc n), .clo 128 []] [] = some (.agg (k93.enc (withN (fun _ => 1) n)), []) := by
  obtain ⟨h1, h2, h3, h4⟩ := hn
  have c := call133 n ⟨h1, h2, h3, h4⟩
  simp only [k93_enc] at c
  have hcl : True := trivial
  refine fn_rule (fn := fn63) rfl rfl (by simp [fn63]) ?_
  unfold fn63
  simp only [Try.f63, Option.getD_some, argEnv, List.map_nil, List.length_nil]
  simp only [go_sem, T_3, T_4, T_5, T_9, T_42, T_51, T_69, T_90, T_91, T_93, T_96, T_98, T_100, T_121, T_145, k93_enc, c, ownV, List.map_cons]
  refine loop_rule (ι := Nat) (S := fun i => ⟨[(1, .clo 128 []), (2, .ptr 0 0 0), (4, .ptr 1 0 0), (12, .int .i64 n.f3.length), (13, .int .i64 i)],
      [] ++ [some (.buf 5 [[.bool n.f0, .ms 2 2 0 n.f1.length none, .ms 3 1 0 n.f2.length none, .ms 4 4 0 n.f3.length none, .ms 5 6 0 n.f4.length none]] false false), some (.buf 5 [[.bool false, .nils, .nils, .nils, .nils]] false true),
        some (.buf 2 (n.f1.map k145.enc) false true), some (.buf 1 (n.f2.map Cd.str.enc) false true), some (.buf 4 (((n.f3.take i).map (withE (fun _ => 1)) ++ n.f3.drop i).map k100.enc) false true), some (.buf 6 (n.f4.map k121.enc) false true)]⟩)
    (m := fun i => n.f3.length + 1 - i) (I := fun i => i ≤ n.f3.length) ?_ 0 _ (by simp) (by kernel_rfl)
  intro i hi
  by_cases hlt : i < n.f3.length
  · have hx := mix_get (withE (fun _ => 1)) hlt
    have hl := mix_len (withE (fun _ => 1)) hi
    simp only [go_sem, T_3, T_4, T_5, T_9, T_42, T_51, T_69, T_90, T_91, T_93, T_96, T_98, T_100, T_121, T_145, hlt, hx, hl, k100_enc, call128, call64, Nat.zero_add, Nat.reduceLeDiff, wrap_i64s (show i < 1000000000000000000 by omega), hcl]
    repeat (refine ⟨by kernel_rfl, ?_⟩)
    refine ⟨i + 1, by omega, by simp only; omega, ?_⟩
    have hs : ((((n.f3.take i).map (withE (fun _ => 1)) ++ n.f3.drop i).map k100.enc).set i [.int .u32 n.f3[i].f0, .int .u16 ((fun _ => 1) n.f3[i].f0), .str n.f3[i].f2.f0, .str n.f3[i].f2.f1]) = ((n.f3.take (i + 1)).map (withE (fun _ => 1)) ++ n.f3.drop (i + 1)).map k100.enc := by
      rw [← mix_set _ hlt, ← map_set']
      rfl
    try simp only at hs
    rw [hs]
    show _ = _
    kernel_rfl
  rw [mix_all _ (by omega)]
  have hl3 : (n.f3.map (withE (fun _ => 1))).length = n.f3.length := by simp
  simp only [go_sem, T_3, T_4, T_5, T_9, T_42, T_51, T_69, T_90, T_91, T_93, T_96, T_98, T_100, T_121, T_145, hlt]
  refine loop_rule (ι := Nat) (S := fun i => ⟨[(1, .clo 128 []), (2, .ptr 0 0 0), (4, .ptr 1 0 0), (31, .ms 2 6 0 n.f4.length none), (32, .int .i64 n.f4.length), (33, .int .i64 i)],
      [] ++ [some (.buf 5 [[.bool n.f0, .ms 3 2 0 n.f1.length none, .ms 4 1 0 n.f2.length none, .ms 5 4 0 n.f3.length none, .ms 2 6 0 n.f4.length none]] false false), some (.buf 5 [[.bool false, .nils, .nils, .nils, .nils]] false true),
        some (.buf 6 (((n.f4.take i).map (withM (fun _ => 1)) ++ n.f4.drop i).map k121.enc) false true), some (.buf 2 (n.f1.map k145.enc) false true), some (.buf 1 (n.f2.map Cd.str.enc) false true), some (.buf 4 ((n.f3.map (withE (fun _ => 1))).map k100.enc) false true)]⟩)
    (m := fun i => n.f4.length + 1 - i) (I := fun i => i ≤ n.f4.length) ?_ 0 _ (by simp) (by kernel_rfl)
  intro i hi
  by_cases hlt : i < n.f4.length
  · have hx := mix_get (withM (fun _ => 1)) hlt
    have hx0 : n.f4[i]? = some n.f4[i] := List.getElem?_eq_getElem hlt
    have hl := mix_len (withM (fun _ => 1)) hi
    by_cases hk : n.f4[i].f0 = 3
    · have ek : (n.f4[i].f0 == 3) = true := by simp [hk]
      simp only [go_sem, T_3, T_4, T_5, T_9, T_42, T_51, T_69, T_90, T_91, T_93, T_96, T_98, T_100, T_121, T_145, hlt, hx, hl, k121_enc, call128, call64, Nat.zero_add, Nat.reduceLeDiff, wrap_i64s (show i < 1000000000000000000 by omega), hcl, ek]
      repeat (refine ⟨by kernel_rfl, ?_⟩)
      refine ⟨i + 1, by omega, by simp only; omega, ?_⟩
      have hs : ((((n.f4.take i).map (withM (fun _ => 1)) ++ n.f4.drop i).map k121.enc).set i [.int .u8 n.f4[i].f0, .str n.f4[i].f1, .str n.f4[i].f2, .int .u32 n.f4[i].f3, .int .u16 ((fun _ => 1) n.f4[i].f3), .str n.f4[i].f5]) = ((n.f4.take (i + 1)).map (withM (fun _ => 1)) ++ n.f4.drop (i + 1)).map k121.enc := by
        rw [← mix_set _ hlt, ← map_set']
        simp only [withM, hk, if_true, k121_enc]
      try simp only at hs
      rw [hs]
      show _ = _
      kernel_rfl
    · have ek : (n.f4[i].f0 == 3) = false := by simp [hk]
      simp only [go_sem, T_3, T_4, T_5, T_9, T_42, T_51, T_69, T_90, T_91, T_93, T_96, T_98, T_100, T_121, T_145, hlt, hx, hl, k121_enc, Nat.zero_add, wrap_i64s (show i < 1000000000000000000 by omega), ek]
      refine ⟨i + 1, by omega, by simp only; omega, ?_⟩
      rw [mix_same (withM (fun _ => 1)) hlt (by simp [withM, hk])]
      show _ = _
      kernel_rfl
  rw [mix_all _ (by omega)]
  have hl4 : (n.f4.map (withM (fun _ => 1))).length = n.f4.length := by simp
  simp only [go_sem, T_3, T_4, T_5, T_9, T_42, T_51, T_69, T_90, T_91, T_93, T_96, T_98, T_100, T_121, T_145, hlt]
  refine finish_fk ?_
  simp only [frz, frzAll, frzG, frzGAll, ms2, msUp, Rd.run, Heap.at?, List.length_map, Nat.zero_add, Nat.le_refl, and_self, if_true, List.drop_zero, take_map, take_map2, FK, List.cons_append, List.nil_append]
  show _ = _
  kernel_rfl
theorem call63a (n : S93) (hn : fewN n) (k : Nat) : callV (LX T fns) k (.clo 63 []) [.agg (k93.enc n), .clo 128 []] = .pure (.agg (k93.enc (withN (fun _ => 1) n)), []) := callV_plain (fn := fn63) rfl rfl rfl (lim63a n hn) k

theorem lim63b (n : S93) (lost : Bool) (l : List S95) (m : List (Int × Int)) (hn : fewN n) : lim T fns 63 [.agg (k93.enc n), .clo 64 [.ptr 0 0 0]] [fo0, fo1 lost, fo2 l, fo3 m] = some (.agg (k93.enc (withN (deepI m) n)), [some fo0, some (fo1 lost), some (fo2 l), some (fo3 m)]) := by
  obtain ⟨h1, h2, h3, h4⟩ := hn
  have c := call133 n ⟨h1, h2, h3, h4⟩
  simp only [k93_enc] at c
  have hcl := fun b n hn rest => call64 b lost l m n hn rest
  refine fn_rule (fn := fn63) rfl rfl (by simp [fn63]) ?_
  unfold fn63
  simp only [Try.f63, Option.getD_some, argEnv, List.map_nil, List.length_nil]
  simp only [go_sem, T_3, T_4, T_5, T_9, T_42, T_51, T_69, T_90, T_91, T_93, T_96, T_98, T_100, T_121, T_145, k93_enc, c, ownV, List.map_cons]
  refine loop_rule (ι := Nat) (S := fun i => ⟨[(1, .clo 64 [.ptr 0 0 0]), (2, .ptr 4 0 0), (4, .ptr 5 0 0), (12, .int .i64 n.f3.length), (13, .int .i64 i)],
      [some fo0, some (fo1 lost), some (fo2 l), some (fo3 m)] ++ [some (.buf 5 [[.bool n.f0, .ms 6 2 0 n.f1.length none, .ms 7 1 0 n.f2.length none, .ms 8 4 0 n.f3.length none, .ms 9 6 0 n.f4.length none]] false false), some (.buf 5 [[.bool false, .nils, .nils, .nils, .nils]] false true),
        some (.buf 2 (n.f1.map k145.enc) false true), some (.buf 1 (n.f2.map Cd.str.enc) false true), some (.buf 4 (((n.f3.take i).map (withE (deepI m)) ++ n.f3.drop i).map k100.enc) false true), some (.buf 6 (n.f4.map k121.enc) false true)]⟩)
    (m := fun i => n.f3.length + 1 - i) (I := fun i => i ≤ n.f3.length) ?_ 0 _ (by simp) (by kernel_rfl)
  intro i hi
  by_cases hlt : i < n.f3.length
  · have hx := mix_get (withE (deepI m)) hlt
    have hl := mix_len (withE (deepI m)) hi
    simp only [go_sem, T_3, T_4, T_5, T_9, T_42, T_51, T_69, T_90, T_91, T_93, T_96, T_98, T_100, T_121, T_145, hlt, hx, hl, k100_enc, call128, call64, Nat.zero_add, Nat.reduceLeDiff, wrap_i64s (show i < 1000000000000000000 by omega), hcl]
    repeat (refine ⟨by kernel_rfl, ?_⟩)
    refine ⟨i + 1, by omega, by simp only; omega, ?_⟩
    have hs : ((((n.f3.take i).map (withE (deepI m)) ++ n.f3.drop i).map k100.enc).set i [.int .u32 n.f3[i].f0, .int .u16 ((deepI m) n.f3[i].f0), .str n.f3[i].f2.f0, .str n.f3[i].f2.f1]) = ((n.f3.take (i + 1)).map (withE (deepI m)) ++ n.f3.drop (i + 1)).map k100.enc := by
      rw [← mix_set _ hlt, ← map_set']
      rfl
    try simp only at hs
    rw [hs]
    show _ = _
    kernel_rfl
  rw [mix_all _ (by omega)]
  have hl3 : (n.f3.map (withE (deepI m))).length = n.f3.length := by simp
  simp only [go_sem, T_3, T_4, T_5, T_9, T_42, T_51, T_69, T_90, T_91, T_93, T_96, T_98, T_100, T_121, T_145, hlt]
  refine loop_rule (ι := Nat) (S := fun i => ⟨[(1, .clo 64 [.ptr 0 0 0]), (2, .ptr 4 0 0), (4, .ptr 5 0 0), (31, .ms 6 6 0 n.f4.length none), (32, .int .i64 n.f4.length), (33, .int .i64 i)],
      [some fo0, some (fo1 lost), some (fo2 l), some (fo3 m)] ++ [some (.buf 5 [[.bool n.f0, .ms 7 2 0 n.f1.length none, .ms 8 1 0 n.f2.length none, .ms 9 4 0 n.f3.length none, .ms 6 6 0 n.f4.length none]] false false), some (.buf 5 [[.bool false, .nils, .nils, .nils, .nils]] false true),
        some (.buf 6 (((n.f4.take i).map (withM (deepI m)) ++ n.f4.drop i).map k121.enc) false true), some (.buf 2 (n.f1.map k145.enc) false true), some (.buf 1 (n.f2.map Cd.str.enc) false true), some (.buf 4 ((n.f3.map (withE (deepI m))).map k100.enc) false true)]⟩)
    (m := fun i => n.f4.length + 1 - i) (I := fun i => i ≤ n.f4.length) ?_ 0 _ (by simp) (by kernel_rfl)
  intro i hi
  by_cases hlt : i < n.f4.length
  · have hx := mix_get (withM (deepI m)) hlt
    have hx0 : n.f4[i]? = some n.f4[i] := List.getElem?_eq_getElem hlt
    have hl := mix_len (withM (deepI m)) hi
    by_cases hk : n.f4[i].f0 = 3
    · have ek : (n.f4[i].f0 == 3) = true := by simp [hk]
      simp only [go_sem, T_3, T_4, T_5, T_9, T_42, T_51, T_69, T_90, T_91, T_93, T_96, T_98, T_100, T_121, T_145, hlt, hx, hl, k121_enc, call128, call64, Nat.zero_add, Nat.reduceLeDiff, wrap_i64s (show i < 1000000000000000000 by omega), hcl, ek]
      repeat (refine ⟨by kernel_rfl, ?_⟩)
      refine ⟨i + 1, by omega, by simp only; omega, ?_⟩
      have hs : ((((n.f4.take i).map (withM (deepI m)) ++ n.f4.drop i).map k121.enc).set i [.int .u8 n.f4[i].f0, .str n.f4[i].f1, .str n.f4[i].f2, .int .u32 n.f4[i].f3, .int .u16 ((deepI m) n.f4[i].f3), .str n.f4[i].f5]) = ((n.f4.take (i + 1)).map (withM (deepI m)) ++ n.f4.drop (i + 1)).map k121.enc := by
        rw [← mix_set _ hlt, ← map_set']
        simp only [withM, hk, if_true, k121_enc]
      try simp only at hs
      rw [hs]
      show _ = _
      kernel_rfl
    · have ek : (n.f4[i].f0 == 3) = false := by simp [hk]
      simp only [go_sem, T_3, T_4, T_5, T_9, T_42, T_51, T_69, T_90, T_91, T_93, T_96, T_98, T_100, T_121, T_145, hlt, hx, hl, k121_enc, Nat.zero_add, wrap_i64s (show i < 1000000000000000000 by omega), ek]
      refine ⟨i + 1, by omega, by simp only; omega, ?_⟩
      rw [mix_same (withM (deepI m)) hlt (by simp [withM, hk])]
      show _ = _
      kernel_rfl
  rw [mix_all _ (by omega)]
  have hl4 : (n.f4.map (withM (deepI m))).length = n.f4.length := by simp
  simp only [go_sem, T_3, T_4, T_5, T_9, T_42, T_51, T_69, T_90, T_91, T_93, T_96, T_98, T_100, T_121, T_145, hlt]
  refine finish_fk ?_
  simp only [frz, frzAll, frzG, frzGAll, ms2, msUp, Rd.run, Heap.at?, List.length_map, Nat.zero_add, Nat.le_refl, and_self, if_true, List.drop_zero, take_map, take_map2, FK, List.cons_append, List.nil_append]
  show _ = _
  kernel_rfl
end Go.Proofs.Ytfdemnefkfkghaa.R
/- Chapter 33's law: how deep a node is (the document's). -/
namespace Go.Proofs.Ytfdemnefkfkghaa.R
open Go Go.Proofs
set_option linter.unusedSimpArgs false
set_option linter.unusedVariables false
set_option maxRecDepth 10000
set_option maxHeartbeats 2000000

/-- Depths are numbers of sixteen bits. -/
def wfN (n : S93) : Prop := (∀ e ∈ n.f3, 0 ≤ e.f1 ∧ e.f1 ≤ 65535) ∧ ∀ m ∈ n.f4, 0 ≤ m.f4 ∧ m.f4 ≤ 65535
def deepK (d : Int) (l : List S100) : Int := l.foldl (fun d e => if e.f1 > d then e.f1 else d) d
def deepM (d : Int) (l : List S121) : Int := l.foldl (fun d m => if m.f0 = 3 then (if m.f4 > d then m.f4 else d) else d) d
def deepN (n : S93) : Int := if n.f0 = true then 1 else if deepM (deepK 0 n.f3) n.f4 ≥ 65535 then 65535 else deepM (deepK 0 n.f3) n.f4 + 1

theorem deepK_drop {d : Int} {l : List S100} {i : Nat} (h : i < l.length) : deepK d (l.drop i) = deepK (if l[i].f1 > d then l[i].f1 else d) (l.drop (i + 1)) := by
  rw [List.drop_eq_getElem_cons h]
  rfl
theorem deepM_drop {d : Int} {l : List S121} {i : Nat} (h : i < l.length) : deepM d (l.drop i) = deepM (if l[i].f0 = 3 then (if l[i].f4 > d then l[i].f4 else d) else d) (l.drop (i + 1)) := by
  rw [List.drop_eq_getElem_cons h]
  rfl

theorem lim116 (n : S93) (hn : fewN n) (hw : wfN n) : lim T fns 116 [.agg (k93.enc n)] [] = some (.int .u16 (deepN n), []) := by
  obtain ⟨_, _, h3, h4⟩ := hn
  obtain ⟨w3, w4⟩ := hw
  refine fn_rule (fn := fn116) rfl rfl (by simp [fn116]) ?_
  unfold fn116
  simp only [Try.f116, Option.getD_some, argEnv, List.map_nil, List.length_nil]
  cases h0 : n.f0 with
  | true =>
    simp only [go_sem, T_3, T_4, T_5, T_9, T_42, T_51, T_69, T_90, T_91, T_93, T_96, T_98, T_100, T_121, T_145, k93_enc, h0]
    simp [deepN, h0]
  | false =>
  simp only [go_sem, T_3, T_4, T_5, T_9, T_42, T_51, T_69, T_90, T_91, T_93, T_96, T_98, T_100, T_121, T_145, k93_enc, h0]
  refine loop_rule (ι := Nat × Int) (S := fun p => ⟨[(1, .ptr 0 0 0), (3, .int .i64 p.2), (10, .int .i64 n.f3.length), (11, .int .i64 p.1)], [some (.buf 5 [[.bool false, .fz (n.f1.map k145.enc), .fz (n.f2.map Cd.str.enc), .fz (n.f3.map k100.enc), .fz (n.f4.map k121.enc)]] false true)]⟩)
    (m := fun p => n.f3.length + 1 - p.1) (I := fun p => p.1 ≤ n.f3.length ∧ 0 ≤ p.2 ∧ p.2 ≤ 65535 ∧ deepK p.2 (n.f3.drop p.1) = deepK 0 n.f3) ?_ (0, 0) _ ⟨by simp, by simp, by simp, by simp⟩ rfl
  rintro ⟨i, d⟩ ⟨hi, hd0, hd1, hd⟩
  simp only at hi hd0 hd1 hd
  by_cases hlt : i < n.f3.length
  · have hx : n.f3[i]? = some n.f3[i] := List.getElem?_eq_getElem hlt
    have hb := w3 n.f3[i] (List.getElem_mem hlt)
    rw [deepK_drop hlt] at hd
    simp only [go_sem, T_3, T_4, T_5, T_9, T_42, T_51, T_69, T_90, T_91, T_93, T_96, T_98, T_100, T_121, T_145, all100, hlt, hx, k100_enc, wrap_i64s (show i < 1000000000000000000 by omega), wrap_i64 (n := n.f3[i].f1) (by omega) (by omega)]
    split
    · rename_i he
      rw [if_pos he] at hd
      exact ⟨(i + 1, n.f3[i].f1), ⟨by simp only; omega, hb.1, hb.2, hd⟩, by simp only; omega, rfl⟩
    · rename_i he
      rw [if_neg he] at hd
      exact ⟨(i + 1, d), ⟨by simp only; omega, hd0, hd1, hd⟩, by simp only; omega, rfl⟩
  rw [List.drop_eq_nil_of_le (by omega)] at hd
  have e1 : d = deepK 0 n.f3 := by rw [← hd]; rfl
  simp only [go_sem, T_3, T_4, T_5, T_9, T_42, T_51, T_69, T_90, T_91, T_93, T_96, T_98, T_100, T_121, T_145, hlt]
  refine loop_rule (ι := Nat × Int) (S := fun p => ⟨[(1, .ptr 0 0 0), (3, .int .i64 p.2), (33, .int .i64 n.f4.length), (34, .int .i64 p.1)], [some (.buf 5 [[.bool false, .fz (n.f1.map k145.enc), .fz (n.f2.map Cd.str.enc), .fz (n.f3.map k100.enc), .fz (n.f4.map k121.enc)]] false true)]⟩)
    (m := fun p => n.f4.length + 1 - p.1) (I := fun p => p.1 ≤ n.f4.length ∧ 0 ≤ p.2 ∧ p.2 ≤ 65535 ∧ deepM p.2 (n.f4.drop p.1) = deepM d n.f4) ?_ (0, d) _ ⟨by simp, hd0, hd1, by simp⟩ rfl
  clear hlt hi
  rintro ⟨i, d2⟩ ⟨hi, hq0, hq1, hq⟩
  simp only at hi hq0 hq1 hq
  by_cases hlt : i < n.f4.length
  · have hx : n.f4[i]? = some n.f4[i] := List.getElem?_eq_getElem hlt
    have hb := w4 n.f4[i] (List.getElem_mem hlt)
    rw [deepM_drop hlt] at hq
    by_cases hk : n.f4[i].f0 = 3
    · have ek : (n.f4[i].f0 == 3) = true := by simp [hk]
      rw [if_pos hk] at hq
      simp only [go_sem, T_3, T_4, T_5, T_9, T_42, T_51, T_69, T_90, T_91, T_93, T_96, T_98, T_100, T_121, T_145, all121, hlt, hx, k121_enc, ek, wrap_i64s (show i < 1000000000000000000 by omega), wrap_i64 (n := n.f4[i].f4) (by omega) (by omega)]
      split
      · rename_i he
        rw [if_pos he] at hq
        exact ⟨(i + 1, n.f4[i].f4), ⟨by simp only; omega, hb.1, hb.2, hq⟩, by simp only; omega, rfl⟩
      · rename_i he
        rw [if_neg he] at hq
        exact ⟨(i + 1, d2), ⟨by simp only; omega, hq0, hq1, hq⟩, by simp only; omega, rfl⟩
    · have ek : (n.f4[i].f0 == 3) = false := by simp [hk]
      rw [if_neg hk] at hq
      simp only [go_sem, T_3, T_4, T_5, T_9, T_42, T_51, T_69, T_90, T_91, T_93, T_96, T_98, T_100, T_121, T_145, all121, hlt, hx, k121_enc, ek, wrap_i64s (show i < 1000000000000000000 by omega)]
      exact ⟨(i + 1, d2), ⟨by simp only; omega, hq0, hq1, hq⟩, by simp only; omega, rfl⟩
  · rw [List.drop_eq_nil_of_le (by omega)] at hq
    have e2 : d2 = deepM (deepK 0 n.f3) n.f4 := by rw [← e1, ← hq]; rfl
    have hN : deepN n = if d2 ≥ 65535 then 65535 else d2 + 1 := by rw [e2]; simp [deepN, h0]
    by_cases h9 : d2 ≥ 65535
    · simp only [go_sem, T_3, T_4, T_5, T_9, T_42, T_51, T_69, T_90, T_91, T_93, T_96, T_98, T_100, T_121, T_145, hlt, h9]
      simp [hN, h9]
    · have hu : IntKind.u16.wrap (d2 + 1) = d2 + 1 := by
        simp [IntKind.wrap, IntKind.signed, IntKind.bits]
        omega
      simp only [go_sem, T_3, T_4, T_5, T_9, T_42, T_51, T_69, T_90, T_91, T_93, T_96, T_98, T_100, T_121, T_145, hlt, h9, wrap_i64 (n := d2 + 1) (by omega) (by omega), hu]
      simp [hN, h9]
theorem call116 (n : S93) (hn : fewN n) (hw : wfN n) (k : Nat) : callV (LX T fns) k (.clo 116 []) [.agg (k93.enc n)] = .pure (.int .u16 (deepN n), []) := callV_plain (fn := fn116) rfl rfl rfl (lim116 n hn hw) k
end Go.Proofs.Ytfdemnefkfkghaa.R
/- Chapter 33's law: is there a node so deep? -/
namespace Go.Proofs.Ytfdemnefkfkghaa.R
open Go Go.Proofs
set_option linter.unusedSimpArgs false
set_option linter.unusedVariables false
set_option maxRecDepth 10000
set_option maxHeartbeats 2000000

def wfL (l : List S95) : Prop := ∀ x ∈ l, wfN x.f1
theorem find_mem {b : Int} : ∀ {l : List S95} {n : S93}, find b l = some n → ∃ x ∈ l, x.f0 = b ∧ x.f1 = n
  | [], n, h => by simp [find] at h
  | x :: r, n, h => by
    unfold find at h
    split at h
    · rename_i e
      cases h
      exact ⟨x, .head _, e, rfl⟩
    · obtain ⟨y, hy, h1, h2⟩ := find_mem h
      exact ⟨y, .tail _ hy, h1, h2⟩
def leads (l : List S95) (b d : Int) : Bool := match find b l with
  | some n => decide (d < 65535) && decide (deepN n = d)
  | none => false

theorem lim71 (l : List S95) (b d : Int) (hl : fewL l) (hw : wfL l) : lim T fns 71 [.fz (l.map k95.enc), .int .u32 b, .int .u16 d] [] = some (.bool (leads l b d), []) := by
  refine fn_rule (fn := fn71) rfl rfl (by simp [fn71]) ?_
  unfold fn71
  simp only [Try.f71, Option.getD_some, argEnv, List.map_nil, List.length_nil]
  have hc := call68 l b hl
  cases hf : find b l with
  | none =>
    simp only [hf, Option.getD_none, Option.isSome_none, k93_enc, noNode, List.map_nil] at hc
    simp only [go_sem, T_4, T_5, T_9, T_22, T_42, T_51, T_69, T_90, T_91, T_93, T_95, T_96, T_98, T_100, T_121, T_145, hc]
    simp [leads, hf]
  | some n =>
    obtain ⟨x, hx, _, rfl⟩ := find_mem hf
    have hd := call116 x.f1 (hl.2 x hx) (hw x hx)
    simp only [hf, Option.getD_some, Option.isSome_some, k93_enc] at hc
    simp only [k93_enc] at hd
    cases h1 : decide (d < 65535) with
    | true =>
      simp only [go_sem, T_4, T_5, T_9, T_22, T_42, T_51, T_69, T_90, T_91, T_93, T_95, T_96, T_98, T_100, T_121, T_145, hc, hd, h1]
      simp only [leads, hf, h1, Bool.true_and]
      rw [show (deepN x.f1 == d) = decide (deepN x.f1 = d) from rfl]
    | false =>
      simp only [go_sem, T_4, T_5, T_9, T_22, T_42, T_51, T_69, T_90, T_91, T_93, T_95, T_96, T_98, T_100, T_121, T_145, hc, hd, h1]
      simp only [leads, hf, h1, Bool.false_and]
theorem call71 (l : List S95) (b d : Int) (hl : fewL l) (hw : wfL l) (k : Nat) : callV (LX T fns) k (.clo 71 []) [.fz (l.map k95.enc), .int .u32 b, .int .u16 d] = .pure (.bool (leads l b d), []) := callV_plain (fn := fn71) rfl rfl rfl (lim71 l b d hl hw) k
end Go.Proofs.Ytfdemnefkfkghaa.R
/- Chapter 33's law: depths, in plain Lean. -/
namespace Go.Proofs.Ytfdemnefkfkghaa.R
open Go Go.Proofs
set_option linter.unusedSimpArgs false
set_option linter.unusedVariables false

/-- The greatest. -/
def top {α : Type} (f : α → Int) (d : Int) (ts : List α) : Int := ts.foldl (fun d t => max d (f t)) d
theorem top_le {α : Type} {f : α → Int} : ∀ {ts : List α} {d : Int}, d ≤ top f d ts
  | [], d => Int.le_refl _
  | t :: ts, d => by
    have := top_le (f := f) (ts := ts) (d := max d (f t))
    show d ≤ top f (max d (f t)) ts
    omega
theorem top_mem {α : Type} {f : α → Int} : ∀ {ts : List α} {d : Int} {t : α}, t ∈ ts → f t ≤ top f d ts
  | x :: ts, d, t, h => by
    show f t ≤ top f (max d (f x)) ts
    rcases List.mem_cons.1 h with rfl | h
    · have := top_le (f := f) (ts := ts) (d := max d (f t))
      omega
    · exact top_mem h
theorem top_ub {α : Type} {f : α → Int} {m : Int} : ∀ {ts : List α} {d : Int}, d ≤ m → (∀ t ∈ ts, f t ≤ m) → top f d ts ≤ m
  | [], d, h, _ => h
  | x :: ts, d, h, h' => by
    show top f (max d (f x)) ts ≤ m
    have := h' x (.head _)
    exact top_ub (by omega) fun t ht => h' t (.tail _ ht)
theorem top_at {α : Type} {f : α → Int} : ∀ {ts : List α} {d : Int}, top f d ts = d ∨ ∃ t ∈ ts, top f d ts = f t
  | [], d => .inl rfl
  | x :: ts, d => by
    show top f (max d (f x)) ts = d ∨ ∃ t ∈ x :: ts, top f (max d (f x)) ts = f t
    rcases top_at (f := f) (ts := ts) (d := max d (f x)) with h | ⟨t, ht, h⟩
    · by_cases hd : f x ≤ d
      · left; omega
      · right; exact ⟨x, .head _, by omega⟩
    · exact .inr ⟨t, .tail _ ht, h⟩
theorem top_congr {α : Type} {f g : α → Int} : ∀ {ts : List α} {d : Int}, (∀ t ∈ ts, f t = g t) → top f d ts = top g d ts
  | [], d, _ => rfl
  | x :: ts, d, h => by
    show top f (max d (f x)) ts = top g (max d (g x)) ts
    rw [h x (.head _)]
    exact top_congr fun t ht => h t (.tail _ ht)

def succs (l : List S95) (b : Int) : List Int := match find b l with
  | some n => targets n
  | none => []
/-- One more than the steps of the longest way of at most so many. -/
def dk (l : List S95) : Nat → Int → Int
  | 0, _ => 1
  | k + 1, b => top (fun t => dk l k t + 1) 1 (succs l b)

theorem dk_pos {l : List S95} : ∀ {k : Nat} {b : Int}, 1 ≤ dk l k b
  | 0, _ => Int.le_refl _
  | _ + 1, _ => top_le
theorem dk_mono {l : List S95} : ∀ {k : Nat} {b : Int}, dk l k b ≤ dk l (k + 1) b
  | 0, _ => top_le
  | k + 1, b => by
    refine top_ub top_le fun t ht => ?_
    have h1 : dk l k t ≤ dk l (k + 1) t := dk_mono
    have h2 : dk l (k + 1) t + 1 ≤ top (fun t => dk l (k + 1) t + 1) 1 (succs l b) := top_mem (f := fun t => dk l (k + 1) t + 1) ht
    show dk l k t + 1 ≤ _
    exact Int.le_trans (by omega) h2
theorem dk_mono_le {l : List S95} {b : Int} {j : Nat} : ∀ {k : Nat}, j ≤ k → dk l j b ≤ dk l k b
  | 0, h => by obtain rfl : j = 0 := (by omega); exact Int.le_refl _
  | k + 1, h => by
    by_cases e : j = k + 1
    · subst e; exact Int.le_refl _
    · exact Int.le_trans (dk_mono_le (k := k) (by omega)) dk_mono
theorem dk_le {l : List S95} : ∀ {k : Nat} {b : Int}, dk l k b ≤ k + 1
  | 0, _ => by simp [dk]
  | k + 1, b => by
    refine top_ub (by omega) fun t ht => ?_
    have : dk l k t ≤ k + 1 := dk_le
    show dk l k t + 1 ≤ _
    omega

/-- Blocks rise. -/
def risesB : List S95 → Bool
  | x :: y :: r => decide (x.f0 < y.f0) && risesB (y :: r)
  | _ => true
theorem rises_lt : ∀ {x : S95} {r : List S95}, risesB (x :: r) = true → ∀ y ∈ r, x.f0 < y.f0
  | x, [], _, y, h => by simp at h
  | x, z :: r, h, y, hy => by
    simp only [risesB, Bool.and_eq_true, decide_eq_true_eq] at h
    rcases List.mem_cons.1 hy with rfl | hy
    · exact h.1
    · have := rises_lt h.2 y hy
      omega
theorem rises_tail {x : S95} {r : List S95} (h : risesB (x :: r) = true) : risesB r = true := by
  cases r with
  | nil => rfl
  | cons y r => simp only [risesB, Bool.and_eq_true] at h; exact h.2
theorem find_self : ∀ {l : List S95}, risesB l = true → ∀ x ∈ l, find x.f0 l = some x.f1
  | y :: r, h, x, hx => by
    unfold find
    rcases List.mem_cons.1 hx with rfl | hx
    · simp
    · have := rises_lt h x hx
      rw [if_neg (by omega)]
      exact find_self (rises_tail h) x hx

/-- All that is led to is there. -/
def Whole (l : List S95) : Prop := ∀ x ∈ l, ∀ t ∈ targets x.f1, ∃ y ∈ l, y.f0 = t
theorem succs_self {l : List S95} (h : risesB l = true) {x : S95} (hx : x ∈ l) : succs l x.f0 = targets x.f1 := by
  unfold succs
  rw [find_self h x hx]
theorem succs_in {l : List S95} (hw : Whole l) {b t : Int} (ht : t ∈ succs l b) : ∃ y ∈ l, y.f0 = t := by
  unfold succs at ht
  split at ht
  · rename_i n hf
    obtain ⟨x, hx, _, rfl⟩ := find_mem hf
    exact hw x hx t ht
  · simp at ht

def Stable (l : List S95) (k : Nat) : Prop := ∀ x ∈ l, dk l (k + 1) x.f0 = dk l k x.f0
instance (l : List S95) (k : Nat) : Decidable (Stable l k) := by unfold Stable; infer_instance
theorem stable_succ {l : List S95} (hw : Whole l) {k : Nat} (h : Stable l k) : Stable l (k + 1) := fun x hx =>
  top_congr fun t ht => by
    obtain ⟨y, hy, rfl⟩ := succs_in hw ht
    show dk l (k + 1) y.f0 + 1 = dk l k y.f0 + 1
    rw [h y hy]
theorem stable_le {l : List S95} (hw : Whole l) {j : Nat} (h : Stable l j) : ∀ {k : Nat}, j ≤ k → Stable l k
  | 0, hk => by obtain rfl : j = 0 := (by omega); exact h
  | k + 1, hk => by
    by_cases e : j = k + 1
    · subst e; exact h
    · exact stable_succ hw (stable_le hw h (k := k) (by omega))
theorem stable_eq {l : List S95} (hw : Whole l) {j : Nat} (h : Stable l j) {x : S95} (hx : x ∈ l) : ∀ {k : Nat}, j ≤ k → dk l k x.f0 = dk l j x.f0
  | 0, hk => by obtain rfl : j = 0 := (by omega); rfl
  | k + 1, hk => by
    by_cases e : j = k + 1
    · subst e; rfl
    · rw [stable_le hw h (k := k) (by omega) x hx]
      exact stable_eq hw h hx (by omega)

/-- How deep a block is, in the end. -/
def Lim (l : List S95) (b d : Int) : Prop := ∃ K, ∀ k, K ≤ k → dk l k b = d
theorem lim_uniq {l : List S95} {b d e : Int} : Lim l b d → Lim l b e → d = e := fun ⟨K, h⟩ ⟨K', h'⟩ => by
  rw [← h (max K K') (by omega), ← h' (max K K') (by omega)]
theorem lim_pos {l : List S95} {b d : Int} : Lim l b d → 1 ≤ d := fun ⟨K, h⟩ => by
  rw [← h K (by omega)]
  exact dk_pos
theorem lim_all {l : List S95} {g : Int → Int} : ∀ {ts : List Int}, (∀ t ∈ ts, Lim l t (g t)) → ∃ K, ∀ t ∈ ts, ∀ k, K ≤ k → dk l k t = g t
  | [], _ => ⟨0, fun t ht => by simp at ht⟩
  | x :: ts, h => by
    obtain ⟨K, hK⟩ := lim_all (ts := ts) fun t ht => h t (.tail _ ht)
    obtain ⟨K', hK'⟩ := h x (.head _)
    refine ⟨max K K', fun t ht k hk => ?_⟩
    rcases List.mem_cons.1 ht with rfl | ht
    · exact hK' k (by omega)
    · exact hK t ht k (by omega)
theorem lim_step {l : List S95} {b : Int} {g : Int → Int} (h : ∀ t ∈ succs l b, Lim l t (g t)) : Lim l b (top (fun t => g t + 1) 1 (succs l b)) := by
  obtain ⟨K, hK⟩ := lim_all h
  refine ⟨K + 1, fun k hk => ?_⟩
  obtain ⟨k, rfl⟩ : ∃ k', k = k' + 1 := ⟨k - 1, by omega⟩
  exact top_congr fun t ht => by
    show dk l k t + 1 = g t + 1
    rw [hK t ht k (by omega)]
theorem lim_succ {l : List S95} {b d t e : Int} (h : Lim l b d) (ht : t ∈ succs l b) (h' : Lim l t e) : e + 1 ≤ d := by
  obtain ⟨K, h⟩ := h
  obtain ⟨K', h'⟩ := h'
  rw [← h (max K K' + 1) (by omega), ← h' (max K K') (by omega)]
  exact top_mem (f := fun t => dk l (max K K') t + 1) ht
theorem lim_at {l : List S95} {b d : Int} (h : Lim l b d) : d = 1 ∨ ∃ t ∈ succs l b, Lim l t (d - 1) ∨ ∀ e, ¬ Lim l t e := by
  by_cases hd : d = 1
  · exact .inl hd
  right
  obtain ⟨K, hK⟩ := h
  have h1 := hK (K + 1) (by omega)
  rcases top_at (f := fun t => dk l K t + 1) (ts := succs l b) (d := 1) with h2 | ⟨t, ht, h2⟩
  · exact absurd (h1.symm.trans h2) (by omega)
  · refine ⟨t, ht, ?_⟩
    by_cases hl : ∃ e, Lim l t e
    · obtain ⟨e, K', he⟩ := hl
      left
      have hup : dk l K t ≤ e := by
        have := dk_mono_le (l := l) (b := t) (show K ≤ max K K' by omega)
        rw [he (max K K') (by omega)] at this
        exact this
      have h3 : d = dk l K t + 1 := h1.symm.trans h2
      have h4 : e + 1 ≤ d := lim_succ ⟨K, hK⟩ ht ⟨K', he⟩
      obtain rfl : e = d - 1 := by omega
      exact ⟨K', he⟩
    · right
      exact fun e he => hl ⟨e, he⟩

theorem pigeon {α : Type} {f : α → Int → Prop} (hf : ∀ x i j, f x i → f x j → i = j) : ∀ (n : Nat) (l : List α), (∀ j : Int, 1 ≤ j → j ≤ n → ∃ y ∈ l, f y j) → n ≤ l.length
  | 0, l, _ => Nat.zero_le _
  | n + 1, l, h => by
    obtain ⟨y, hy, hfy⟩ := h (n + 1 : Nat) (by omega) (by omega)
    obtain ⟨a, b, rfl⟩ := List.append_of_mem hy
    have := pigeon hf n (a ++ b) fun j h1 h2 => by
      obtain ⟨z, hz, hfz⟩ := h j h1 (by omega)
      simp only [List.mem_append, List.mem_cons] at hz
      rcases hz with hz | rfl | hz
      · exact ⟨z, List.mem_append_left _ hz, hfz⟩
      · have := hf _ _ _ hfy hfz
        omega
      · exact ⟨z, List.mem_append_right _ hz, hfz⟩
    simp only [List.length_append, List.length_cons] at this ⊢
    omega

/-- Where all are so deep, none is deeper than there are items. -/
theorem lim_le {l : List S95} (hr : risesB l = true) (hw : Whole l) (hl : ∀ x ∈ l, ∃ d, Lim l x.f0 d) {x : S95} (hx : x ∈ l) {d : Int} (h : Lim l x.f0 d) : d ≤ l.length := by
  have hp := lim_pos h
  obtain ⟨n, rfl⟩ : ∃ n : Nat, d = n := ⟨d.toNat, by omega⟩
  have key : ∀ (m : Nat) (j : Int), 1 ≤ j → j + m = n → ∃ y ∈ l, Lim l y.f0 j := by
    intro m
    induction m with
    | zero => intro j h1 h2; obtain rfl : j = n := (by omega); exact ⟨x, hx, h⟩
    | succ m ih =>
      intro j h1 h2
      obtain ⟨y, hy, hly⟩ := ih (j + 1) (by omega) (by omega)
      rcases lim_at hly with h3 | ⟨t, ht, h3⟩
      · omega
      · obtain ⟨z, hz, rfl⟩ := succs_in hw ht
        rcases h3 with h3 | h3
        · exact ⟨z, hz, by rwa [show j + 1 - 1 = j by omega] at h3⟩
        · obtain ⟨e, he⟩ := hl z hz
          exact absurd he (h3 e)
  have := pigeon (f := fun (y : S95) j => Lim l y.f0 j) (fun _ _ _ a b => lim_uniq a b) n l fun j h1 h2 => key (n - j).toNat j h1 (by omega)
  omega
theorem lim_early {l : List S95} (hw : Whole l) (hl : ∀ x ∈ l, ∃ d, Lim l x.f0 d) : ∀ (k : Nat) {x : S95}, x ∈ l → ∀ {d : Int}, Lim l x.f0 d → d ≤ k + 1 → dk l k x.f0 = d
  | 0, x, hx, d, h, hd => by
    have := lim_pos h
    show (1 : Int) = d
    omega
  | k + 1, x, hx, d, h, hd => by
    obtain ⟨K, hK⟩ := h
    have h1 := hK (max (k + 1) K + 1) (by omega)
    rw [← h1]
    refine top_congr fun t ht => ?_
    obtain ⟨z, hz, rfl⟩ := succs_in hw ht
    obtain ⟨e, he⟩ := hl z hz
    have h2 := lim_succ ⟨K, hK⟩ ht he
    have h3 := lim_early hw hl k hz he (by omega)
    have h4 := lim_early hw hl k hz he (by omega)
    obtain ⟨K', hK'⟩ := he
    show dk l k z.f0 + 1 = dk l (max (k + 1) K) z.f0 + 1
    have h5 : dk l k z.f0 ≤ dk l (max (k + 1) K) z.f0 := dk_mono_le (by omega)
    have h6 : dk l (max (k + 1) K) z.f0 ≤ dk l (max (max (k + 1) K) K') z.f0 := dk_mono_le (by omega)
    rw [hK' (max (max (k + 1) K) K') (by omega)] at h6
    omega
/-- Blocks that are as deep as can be told: behind as many rounds as there are items nothing changes. -/
theorem stable_of_lim {l : List S95} (hr : risesB l = true) (hw : Whole l) (hl : ∀ x ∈ l, ∃ d, Lim l x.f0 d) : Stable l l.length := fun x hx => by
  obtain ⟨d, hd⟩ := hl x hx
  have := lim_le hr hw hl hx hd
  rw [lim_early hw hl _ hx hd (by omega), lim_early hw hl _ hx hd (by omega)]
theorem lim_of_stable {l : List S95} (hw : Whole l) {j : Nat} (h : Stable l j) {x : S95} (hx : x ∈ l) : Lim l x.f0 (dk l j x.f0) := ⟨j, fun _ hk => stable_eq hw h hx hk⟩

/-- A way of some steps. -/
inductive Rch (l : List S95) : Int → Int → Prop where
  | one {a b : Int} : b ∈ succs l a → Rch l a b
  | more {a t b : Int} : Rch l a t → b ∈ succs l t → Rch l a b
theorem rch_grow {l : List S95} {a b : Int} (h : Rch l a b) : ∃ n : Nat, 1 ≤ n ∧ ∀ k, dk l k b + n ≤ dk l (k + n) a := by
  induction h with
  | one h => exact ⟨1, by omega, fun k => top_mem (f := fun t => dk l k t + 1) h⟩
  | more h1 h2 ih =>
    rename_i t b
    obtain ⟨n, hn, hk⟩ := ih
    refine ⟨n + 1, by omega, fun k => ?_⟩
    have h3 := hk (k + 1)
    have h4 : dk l k b + 1 ≤ dk l (k + 1) t := top_mem (f := fun t => dk l k t + 1) h2
    rw [show k + (n + 1) = k + 1 + n by omega]
    omega
theorem rch_lim {l : List S95} {b d : Int} (h : Rch l b b) : ¬ Lim l b d := fun ⟨K, hK⟩ => by
  obtain ⟨n, hn, hk⟩ := rch_grow h
  have := hk K
  rw [hK K (by omega), hK (K + n) (by omega)] at this
  omega
theorem rch_in {l : List S95} (hw : Whole l) {a b : Int} (h : Rch l a b) : ∃ y ∈ l, y.f0 = b := by
  cases h with
  | one h => exact succs_in hw h
  | more _ h => exact succs_in hw h
theorem rch_unstable {l : List S95} (hw : Whole l) {b : Int} (h : Rch l b b) (k : Nat) : ¬ Stable l k := fun hs => by
  obtain ⟨y, hy, rfl⟩ := rch_in hw h
  exact rch_lim h (lim_of_stable hw hs hy)

/-! The document's rounds. -/
theorem deepen_map {b : Int} {g : Int → Int} : ∀ {l : List S95} {d : Int}, deepen b d l (l.map fun x => g x.f0) = if (∃ x ∈ l, x.f0 = b) then max d (g b + 1) else d
  | [], d => by simp [deepen]
  | x :: l, d => by
    simp only [List.map_cons, deepen]
    rw [deepen_map]
    by_cases hx : x.f0 = b
    · subst hx
      have h1 : ∃ y ∈ x :: l, y.f0 = x.f0 := ⟨x, .head _, rfl⟩
      rw [if_pos h1, if_pos rfl]
      split <;> split <;> omega
    · rw [if_neg hx]
      have h1 : (∃ y ∈ x :: l, y.f0 = b) ↔ ∃ y ∈ l, y.f0 = b := by simp [hx]
      simp only [h1]
theorem deepens_map {l : List S95} {g : Int → Int} : ∀ {ts : List Int} {d : Int}, (∀ t ∈ ts, ∃ x ∈ l, x.f0 = t) → deepens l (l.map fun x => g x.f0) d ts = top (fun t => g t + 1) d ts
  | [], d, _ => rfl
  | t :: ts, d, h => by
    show deepens l _ (deepen t d l _) ts = top _ (max d (g t + 1)) ts
    rw [deepen_map, if_pos (h t (.head _))]
    exact deepens_map fun t ht => h t (.tail _ ht)
theorem round_map {l : List S95} (hr : risesB l = true) (hw : Whole l) (k : Nat) : round l (l.map fun x => dk l k x.f0) = l.map fun x => dk l (k + 1) x.f0 := by
  unfold round
  refine List.map_congr_left fun x hx => ?_
  rw [deepens_map (hw x hx)]
  show _ = top _ 1 (succs l x.f0)
  rw [succs_self hr hx]
theorem stable_iff {l : List S95} (k : Nat) : (l.map fun x => dk l (k + 1) x.f0) = (l.map fun x => dk l k x.f0) ↔ Stable l k := by
  rw [List.map_inj_left]
  rfl
end Go.Proofs.Ytfdemnefkfkghaa.R
/- Chapter 33's law: the document's depths. -/
namespace Go.Proofs.Ytfdemnefkfkghaa.R
open Go Go.Proofs
set_option linter.unusedSimpArgs false
set_option linter.unusedVariables false
set_option maxRecDepth 10000
set_option maxHeartbeats 2000000

def dks (l : List S95) (k : Nat) : List Int := l.map fun x => dk l k x.f0
theorem dks_len (l : List S95) (k : Nat) : (dks l k).length = l.length := by simp [dks]
theorem dks_bd {l : List S95} {k : Nat} (hk : k < 100000000000000000) : ∀ e ∈ dks l k, 0 ≤ e ∧ e < 1000000000000000000 := fun e he => by
  obtain ⟨x, _, rfl⟩ := List.mem_map.1 he
  have h1 := dk_pos (l := l) (k := k) (b := x.f0)
  have h2 := dk_le (l := l) (k := k) (b := x.f0)
  omega
theorem dks_zero (l : List S95) : dks l 0 = List.replicate l.length 1 := by
  unfold dks
  rw [List.eq_replicate_iff]
  exact ⟨by simp, fun b hb => by obtain ⟨x, _, rfl⟩ := List.mem_map.1 hb; rfl⟩

/-- A call with a whole list of an object of the call's own. -/
theorem call136m (l : List S95) (deep : List Int) (hl : fewL l) (hd : deep.length = l.length) (hb : ∀ e ∈ deep, 0 ≤ e ∧ e < 1000000000000000000) (h0 : l ≠ []) (n : Nat) : (callV (LX T fns) n (.clo 136 []) [.fz (l.map k95.enc), .ms 0 1 0 l.length none]).run [some (.buf 1 (deep.map (Cd.int .i64).enc) false true)] [] =
    some ((.fz ((round l deep).map (Cd.int .i64).enc), [(0, some (.buf 1 (deep.map (Cd.int .i64).enc) true true))]), [0]) := by
  have h := lim136 l deep hl hd hb
  have hlen : ((deep.map (Cd.int .i64).enc).drop 0).take l.length = deep.map (Cd.int .i64).enc := by
    rw [List.drop_zero, List.take_of_length_le (by simp; omega)]
  have hf : fns 136 = some fn136 := rfl
  have hr : ∃ r rs, (round l deep).map (Cd.int .i64).enc = r :: rs := by
    cases l with
    | nil => exact absurd rfl h0
    | cons x l => exact ⟨_, _, rfl⟩
  obtain ⟨r, rs, hr⟩ := hr
  unfold callV
  simp only [hf]
  unfold callR
  simp only [fn136, List.append_nil]
  simp only [frzArgs]
  simp only [frz, frzAll, frzG, frzGAll, ms2, msUp, Rd.run, Heap.at?, hlen, Nat.zero_add, List.length_map, hd, Nat.le_refl, and_self, if_true]
  simp only [V.allIds, V.ids, List.append_nil, collect]
  unfold withR
  simp only [List.map_nil, upd1, List.all_nil, List.all_cons, List.contains_nil, Bool.not_false, Bool.and_self, if_true, V.reAll, V.re, Option.bind_some, Option.map_some, pullObs, List.append_nil, h, List.length_nil, Nat.le_refl, hr]
  unfold afterR
  simp only [V.re, pushObs, V.noFz, Bool.and_false, Bool.false_eq_true, if_false, Rd.run, List.nil_append]
  rfl

theorem lim69_nil : lim T fns 69 [.fz []] [] = some (.tup [.fz [], .bool true], []) := acall_lim (R := 4) (d := 4) (by kernel_rfl)

theorem beq_iff (a b : Int) : (a == b) = decide (a = b) := rfl

theorem lim69 (l : List S95) (hl : fewL l) (hr : risesB l = true) (hw : Whole l) : lim T fns 69 [.fz (l.map k95.enc)] [] = some (.tup [.fz ((dks l (l.length + 1)).map (Cd.int .i64).enc), .bool (decide (Stable l l.length))], []) := by
  by_cases h0 : l = []
  · subst h0
    exact lim69_nil
  have hl0 : 0 < l.length := List.length_pos_iff.2 h0
  have hlm := hl.1
  refine fn_rule (fn := fn69) rfl rfl (by simp [fn69]) ?_
  unfold fn69
  simp only [Try.f69, Option.getD_some, argEnv, List.map_nil, List.length_nil]
  simp only [go_sem, T_1, T_3, T_4, T_5, T_9, T_22, T_42, T_51, T_69, T_90, T_91, T_93, T_95, T_96, T_98, T_100, T_112, T_121, T_145]
  refine loop_rule (ι := Nat) (S := fun i => ⟨[(0, .fz (l.map k95.enc)), (4, .ms 0 1 0 i none), (11, .int .i64 l.length), (12, .int .i64 i)], [some (.buf 1 ((List.replicate i (1 : Int)).map (Cd.int .i64).enc) false true)]⟩)
    (m := fun i => l.length + 1 - i) (I := fun i => i ≤ l.length) ?_ 0 _ (by simp) rfl
  intro i hi
  by_cases hlt : i < l.length
  · simp only [go_sem, T_1, T_3, T_4, T_5, T_9, T_22, T_42, T_51, T_69, T_90, T_91, T_93, T_95, T_96, T_98, T_100, T_112, T_121, T_145, hlt, List.length_replicate, wrap_i64s (show i < 1000000000000000000 by omega), show (i + 1) * 8 ≤ 140737488355328 by omega, show i + 1 ≤ 140737488355328 by omega]
    refine ⟨i + 1, by omega, by simp only; omega, ?_⟩
    show head _ _ _ = some ⟨_, [some (.buf 1 ((List.replicate (i + 1) (1 : Int)).map (Cd.int .i64).enc) false true)]⟩
    rw [List.replicate_succ', List.map_append]
    rfl
  obtain rfl : i = l.length := by omega
  simp only [go_sem, T_1, T_3, T_4, T_5, T_9, T_22, T_42, T_51, T_69, T_90, T_91, T_93, T_95, T_96, T_98, T_100, T_112, T_121, T_145, hlt]
  rw [← dks_zero]
  refine loop_rule (ι := Nat) (S := fun n => match n with
      | 0 => ⟨[(0, .fz (l.map k95.enc)), (4, .ms 0 1 0 l.length none), (5, .int .i64 (0 : Nat))], [some (.buf 1 ((dks l 0).map (Cd.int .i64).enc) false true)]⟩
      | n + 1 => ⟨[(0, .fz (l.map k95.enc)), (4, .fz ((dks l (n + 1)).map (Cd.int .i64).enc)), (5, .int .i64 (n + 1 : Nat))], []⟩)
    (m := fun n => l.length + 2 - n) (I := fun n => n ≤ l.length + 1 ∧ ∀ k, k < n → ¬ Stable l k) ?_ 0 _ ⟨by omega, fun k hk => by omega⟩ rfl
  rintro n ⟨hn, hns⟩
  -- the rounds' end: are they the same?
  have hst : ∀ n, (∀ k, k < n → ¬ Stable l k) → Stable l n → n ≤ l.length → dks l (n + 1) = dks l (l.length + 1) ∧ Stable l l.length := fun n _ hs hn => by
    refine ⟨List.map_congr_left fun x hx => ?_, stable_le hw hs hn⟩
    rw [stable_eq hw hs hx (show n ≤ n + 1 by omega), stable_eq hw hs hx (show n ≤ l.length + 1 by omega)]
  have hrd : ∀ k, round l (dks l k) = dks l (k + 1) := fun k => round_map hr hw k
  have htk : ∀ k i, i < l.length → ((dks l (k + 1)).take (i + 1) = (dks l k).take (i + 1) ↔ (dks l (k + 1)).take i = (dks l k).take i ∧ (dks l (k + 1))[i]? = (dks l k)[i]?) := by
    intro k i hi
    have h1 : i < (dks l (k + 1)).length := by rw [dks_len]; exact hi
    have h2 : i < (dks l k).length := by rw [dks_len]; exact hi
    rw [List.take_succ_eq_append_getElem h1, List.take_succ_eq_append_getElem h2, List.getElem?_eq_getElem h1, List.getElem?_eq_getElem h2]
    constructor
    · intro h
      have := List.append_inj h (by simp [dks_len])
      exact ⟨this.1, by simpa using this.2⟩
    · rintro ⟨e1, e2⟩
      rw [e1, Option.some.inj e2]
  have hfin : ∀ k, (dks l (k + 1)).take l.length = (dks l k).take l.length ↔ Stable l k := fun k => by
    rw [List.take_of_length_le (by rw [dks_len]; exact Nat.le_refl _), List.take_of_length_le (by rw [dks_len]; exact Nat.le_refl _)]
    exact stable_iff k
  cases n with
  | zero =>
    have hc := call136m l (dks l 0) hl (dks_len l 0) (dks_bd (by omega)) h0
    rw [hrd] at hc
    simp only [go_sem, T_1, T_3, T_4, T_5, T_9, T_22, T_42, T_51, T_69, T_90, T_91, T_93, T_95, T_96, T_98, T_100, T_112, T_121, T_145, hc, show ((0 : Nat) : Int) ≤ (l.length : Int) by omega, dks_len]
    refine loop_rule (ι := Nat × Bool) (S := fun p => ⟨[(0, .fz (l.map k95.enc)), (4, .ms 0 1 0 l.length none), (5, .int .i64 (0 : Nat)), (6, .fz ((dks l 1).map (Cd.int .i64).enc)), (7, .bool p.2), (28, .int .i64 l.length), (29, .int .i64 p.1)], [some (.buf 1 ((dks l 0).map (Cd.int .i64).enc) true true)]⟩)
      (m := fun p => l.length + 1 - p.1) (I := fun p => p.1 ≤ l.length ∧ p.2 = decide ((dks l 1).take p.1 = (dks l 0).take p.1)) ?_ (0, true) _ ⟨by simp, by simp⟩ rfl
    rintro ⟨i, b⟩ ⟨hi, hb⟩
    simp only at hi hb
    by_cases hlt : i < l.length
    · have h1 : (dks l 1)[i]? = some ((dks l 1)[i]'(by rw [dks_len]; exact hlt)) := List.getElem?_eq_getElem _
      have h2 : (dks l 0)[i]? = some ((dks l 0)[i]'(by rw [dks_len]; exact hlt)) := List.getElem?_eq_getElem _
      have h3 := htk 0 i hlt
      rw [h1, h2] at h3
      cases b with
      | false =>
        simp only [go_sem, T_1, T_3, T_4, T_5, T_9, T_22, T_42, T_51, T_69, T_90, T_91, T_93, T_95, T_96, T_98, T_100, T_112, T_121, T_145, hlt, h1, h2, wrap_i64s (show i < 1000000000000000000 by omega)]
        refine ⟨(i + 1, false), ⟨by simp only; omega, ?_⟩, by simp only; omega, rfl⟩
        symm
        simp only [decide_eq_false_iff_not]
        intro he
        have := (h3.1 he).1
        simp [this] at hb
      | true =>
        simp only [go_sem, T_1, T_3, T_4, T_5, T_9, T_22, T_42, T_51, T_69, T_90, T_91, T_93, T_95, T_96, T_98, T_100, T_112, T_121, T_145, hlt, h1, h2, dks_len, wrap_i64s (show i < 1000000000000000000 by omega)]
        refine ⟨(i + 1, _), ⟨by simp only; omega, ?_⟩, by simp only; omega, rfl⟩
        simp only
        rw [beq_iff]
        have hb' := of_decide_eq_true hb.symm
        simp only [decide_eq_decide]
        rw [h3]
        simp [hb']
    · obtain rfl : i = l.length := by omega
      rw [show decide ((dks l 1).take l.length = (dks l 0).take l.length) = decide (Stable l 0) by simp only [decide_eq_decide]; exact hfin 0] at hb
      cases b with
      | true =>
        have hs := of_decide_eq_true hb.symm
        obtain ⟨e1, e2⟩ := hst 0 (fun k hk => by omega) hs (by omega)
        simp only [go_sem, T_1, T_3, T_4, T_5, T_9, T_22, T_42, T_51, T_69, T_90, T_91, T_93, T_95, T_96, T_98, T_100, T_112, T_121, T_145, hlt]
        simp only [e2, decide_true, ← e1]
      | false =>
        have hs := of_decide_eq_false hb.symm
        simp only [go_sem, T_1, T_3, T_4, T_5, T_9, T_22, T_42, T_51, T_69, T_90, T_91, T_93, T_95, T_96, T_98, T_100, T_112, T_121, T_145, hlt, wrap_i64s (show 0 < 1000000000000000000 by omega)]
        exact ⟨1, ⟨by omega, fun k hk => by obtain rfl : k = 0 := (by omega); exact hs⟩, by simp only; omega, rfl⟩
  | succ n =>
    by_cases hle : n + 1 ≤ l.length
    · have hc := call136 l (dks l (n + 1)) hl (dks_len l _) (dks_bd (by omega))
      rw [hrd] at hc
      simp only [go_sem, T_1, T_3, T_4, T_5, T_9, T_22, T_42, T_51, T_69, T_90, T_91, T_93, T_95, T_96, T_98, T_100, T_112, T_121, T_145, hc, show ((n + 1 : Nat) : Int) ≤ (l.length : Int) by omega, dks_len]
      refine loop_rule (ι := Nat × Bool) (S := fun p => ⟨[(0, .fz (l.map k95.enc)), (4, .fz ((dks l (n + 1)).map (Cd.int .i64).enc)), (5, .int .i64 (n + 1 : Nat)), (6, .fz ((dks l (n + 1 + 1)).map (Cd.int .i64).enc)), (7, .bool p.2), (28, .int .i64 l.length), (29, .int .i64 p.1)], []⟩)
        (m := fun p => l.length + 1 - p.1) (I := fun p => p.1 ≤ l.length ∧ p.2 = decide ((dks l (n + 1 + 1)).take p.1 = (dks l (n + 1)).take p.1)) ?_ (0, true) _ ⟨by simp, by simp⟩ rfl
      rintro ⟨i, b⟩ ⟨hi, hb⟩
      simp only at hi hb
      by_cases hlt : i < l.length
      · have h1 : (dks l (n + 1 + 1))[i]? = some ((dks l (n + 1 + 1))[i]'(by rw [dks_len]; exact hlt)) := List.getElem?_eq_getElem _
        have h2 : (dks l (n + 1))[i]? = some ((dks l (n + 1))[i]'(by rw [dks_len]; exact hlt)) := List.getElem?_eq_getElem _
        have h3 := htk (n + 1) i hlt
        rw [h1, h2] at h3
        cases b with
        | false =>
          simp only [go_sem, T_1, T_3, T_4, T_5, T_9, T_22, T_42, T_51, T_69, T_90, T_91, T_93, T_95, T_96, T_98, T_100, T_112, T_121, T_145, hlt, h1, h2, wrap_i64s (show i < 1000000000000000000 by omega)]
          refine ⟨(i + 1, false), ⟨by simp only; omega, ?_⟩, by simp only; omega, rfl⟩
          symm
          simp only [decide_eq_false_iff_not]
          intro he
          have := (h3.1 he).1
          simp [this] at hb
        | true =>
          simp only [go_sem, T_1, T_3, T_4, T_5, T_9, T_22, T_42, T_51, T_69, T_90, T_91, T_93, T_95, T_96, T_98, T_100, T_112, T_121, T_145, hlt, h1, h2, dks_len, wrap_i64s (show i < 1000000000000000000 by omega)]
          refine ⟨(i + 1, _), ⟨by simp only; omega, ?_⟩, by simp only; omega, rfl⟩
          simp only
          rw [beq_iff]
          have hb' := of_decide_eq_true hb.symm
          simp only [decide_eq_decide]
          rw [h3]
          simp [hb']
      · obtain rfl : i = l.length := by omega
        rw [show decide ((dks l (n + 1 + 1)).take l.length = (dks l (n + 1)).take l.length) = decide (Stable l (n + 1)) by simp only [decide_eq_decide]; exact hfin (n + 1)] at hb
        cases b with
        | true =>
          have hs := of_decide_eq_true hb.symm
          obtain ⟨e1, e2⟩ := hst (n + 1) hns hs hle
          simp only [go_sem, T_1, T_3, T_4, T_5, T_9, T_22, T_42, T_51, T_69, T_90, T_91, T_93, T_95, T_96, T_98, T_100, T_112, T_121, T_145, hlt]
          simp only [e2, decide_true, ← e1]
        | false =>
          have hs := of_decide_eq_false hb.symm
          simp only [go_sem, T_1, T_3, T_4, T_5, T_9, T_22, T_42, T_51, T_69, T_90, T_91, T_93, T_95, T_96, T_98, T_100, T_112, T_121, T_145, hlt, wrap_i64s (show n + 1 < 1000000000000000000 by omega)]
          exact ⟨n + 1 + 1, ⟨by omega, fun k hk => by
            by_cases e : k = n + 1
            · subst e; exact hs
            · exact hns k (by omega)⟩, by simp only; omega, rfl⟩
    · obtain rfl : n = l.length := by omega
      have hs := hns l.length (by omega)
      simp only [go_sem, T_1, T_3, T_4, T_5, T_9, T_22, T_42, T_51, T_69, T_90, T_91, T_93, T_95, T_96, T_98, T_100, T_112, T_121, T_145, show ¬ ((l.length + 1 : Nat) : Int) ≤ (l.length : Int) by omega]
      simp only [hs, decide_false]
theorem call69 (l : List S95) (hl : fewL l) (hr : risesB l = true) (hw : Whole l) (k : Nat) : callV (LX T fns) k (.clo 69 []) [.fz (l.map k95.enc)] = .pure (.tup [.fz ((dks l (l.length + 1)).map (Cd.int .i64).enc), .bool (decide (Stable l l.length))], []) :=
  callV_plain (fn := fn69) rfl rfl rfl (lim69 l hl hr hw) k
end Go.Proofs.Ytfdemnefkfkghaa.R
/- Chapter 33's law: may a node be? (the document's) -/
namespace Go.Proofs.Ytfdemnefkfkghaa.R
open Go Go.Proofs
set_option linter.unusedSimpArgs false
set_option linter.unusedVariables false
set_option maxRecDepth 10000
set_option maxHeartbeats 4000000

def longPair (p : S145) : Bool := decide ((p.f0.size : Int) > 16) || decide ((p.f1.size : Int) > 32)
def badKid (e : S100) : Bool := decide (e.f1 < 1) || (decide ((e.f2.f0.size : Int) > 16) || decide ((e.f2.f1.size : Int) > 16))
def badPiv (p : ByteArray) : Bool := decide (p = ⟨#[]⟩) || decide ((p.size : Int) > 16)
/-- Are pivots wrong? -/
def pivBad : Option ByteArray → List ByteArray → Bool
  | _, [] => false
  | none, p :: r => badPiv p || pivBad (some p) r
  | some q, p :: r => badPiv p || (leS p q || pivBad (some p) r)
def mayN (n : S93) : Int :=
  if (decide ((n.f1.length : Int) > 16) || (decide ((n.f3.length : Int) > 8) || decide ((n.f4.length : Int) > 16))) = true then 13 else
  if n.f0 = true then
    (if (decide ((n.f2.length : Int) > 0) || (decide ((n.f3.length : Int) > 0) || (decide ((n.f4.length : Int) > 0) || !riseFrom n.f1))) = true then 3 else if n.f1.any longPair = true then 3 else 0)
  else if (decide ((n.f1.length : Int) > 0) || (decide ((n.f3.length : Int) < 1) || ((n.f2.length : Int) + 1 != (n.f3.length : Int)))) = true then 3 else
    if n.f3.any badKid = true then 3 else if pivBad none n.f2 = true then 3 else if n.f4.any (fun m => !mayMsg m) = true then 3 else 0

theorem lim65 (n : S93) (hn : fewN n) : lim T fns 65 [.agg (k93.enc n)] [] = some (.int .i64 (mayN n), []) := by
  obtain ⟨h1, h2, h3, h4⟩ := hn
  cases g1 : decide ((n.f1.length : Int) > 16) with
  | true =>
    refine fn_rule (fn := fn65) rfl rfl (by simp [fn65]) ?_
    unfold fn65
    simp only [Try.f65, Option.getD_some, argEnv, List.map_nil, List.length_nil]
    simp only [go_sem, T_3, T_4, T_5, T_9, T_42, T_51, T_69, T_90, T_91, T_93, T_96, T_98, T_100, T_121, T_145, k93_enc, g1]
    simp [mayN, g1]
  | false =>
  cases g2 : decide ((n.f3.length : Int) > 8) with
  | true =>
    refine fn_rule (fn := fn65) rfl rfl (by simp [fn65]) ?_
    unfold fn65
    simp only [Try.f65, Option.getD_some, argEnv, List.map_nil, List.length_nil]
    simp only [go_sem, T_3, T_4, T_5, T_9, T_42, T_51, T_69, T_90, T_91, T_93, T_96, T_98, T_100, T_121, T_145, k93_enc, g1, g2]
    simp [mayN, g1, g2]
  | false =>
  cases g3 : decide ((n.f4.length : Int) > 16) with
  | true =>
    refine fn_rule (fn := fn65) rfl rfl (by simp [fn65]) ?_
    unfold fn65
    simp only [Try.f65, Option.getD_some, argEnv, List.map_nil, List.length_nil]
    simp only [go_sem, T_3, T_4, T_5, T_9, T_42, T_51, T_69, T_90, T_91, T_93, T_96, T_98, T_100, T_121, T_145, k93_enc, g1, g2, g3]
    simp [mayN, g1, g2, g3]
  | false =>
  have e0 : mayN n = if n.f0 = true then
      (if (decide ((n.f2.length : Int) > 0) || (decide ((n.f3.length : Int) > 0) || (decide ((n.f4.length : Int) > 0) || !riseFrom n.f1))) = true then 3 else if n.f1.any longPair = true then 3 else 0)
    else if (decide ((n.f1.length : Int) > 0) || (decide ((n.f3.length : Int) < 1) || ((n.f2.length : Int) + 1 != (n.f3.length : Int)))) = true then 3 else
      if n.f3.any badKid = true then 3 else if pivBad none n.f2 = true then 3 else if n.f4.any (fun m => !mayMsg m) = true then 3 else 0 := by
    unfold mayN
    rw [g1, g2, g3]
    rfl
  rw [e0]
  cases h0 : n.f0 with
  | true =>
    simp only [if_true]
    cases g4 : decide ((n.f2.length : Int) > 0) with
    | true =>
      refine fn_rule (fn := fn65) rfl rfl (by simp [fn65]) ?_
      unfold fn65
      simp only [Try.f65, Option.getD_some, argEnv, List.map_nil, List.length_nil]
      simp only [go_sem, T_3, T_4, T_5, T_9, T_42, T_51, T_69, T_90, T_91, T_93, T_96, T_98, T_100, T_121, T_145, k93_enc, h0, g1, g2, g3, g4]
    | false =>
    cases g5 : decide ((n.f3.length : Int) > 0) with
    | true =>
      refine fn_rule (fn := fn65) rfl rfl (by simp [fn65]) ?_
      unfold fn65
      simp only [Try.f65, Option.getD_some, argEnv, List.map_nil, List.length_nil]
      simp only [go_sem, T_3, T_4, T_5, T_9, T_42, T_51, T_69, T_90, T_91, T_93, T_96, T_98, T_100, T_121, T_145, k93_enc, h0, g1, g2, g3, g4, g5]
    | false =>
    cases g6 : decide ((n.f4.length : Int) > 0) with
    | true =>
      refine fn_rule (fn := fn65) rfl rfl (by simp [fn65]) ?_
      unfold fn65
      simp only [Try.f65, Option.getD_some, argEnv, List.map_nil, List.length_nil]
      simp only [go_sem, T_3, T_4, T_5, T_9, T_42, T_51, T_69, T_90, T_91, T_93, T_96, T_98, T_100, T_121, T_145, k93_enc, h0, g1, g2, g3, g4, g5, g6]
    | false =>
    cases g7 : riseFrom n.f1 with
    | false =>
      refine fn_rule (fn := fn65) rfl rfl (by simp [fn65]) ?_
      unfold fn65
      simp only [Try.f65, Option.getD_some, argEnv, List.map_nil, List.length_nil]
      simp only [go_sem, T_3, T_4, T_5, T_9, T_42, T_51, T_69, T_90, T_91, T_93, T_96, T_98, T_100, T_121, T_145, k93_enc, h0, g1, g2, g3, g4, g5, g6, call90 n.f1 h1, g7]
    | true =>
    refine fn_rule (fn := fn65) rfl rfl (by simp [fn65]) ?_
    unfold fn65
    simp only [Try.f65, Option.getD_some, argEnv, List.map_nil, List.length_nil]
    simp only [go_sem, T_3, T_4, T_5, T_9, T_42, T_51, T_69, T_90, T_91, T_93, T_96, T_98, T_100, T_121, T_145, k93_enc, h0, g1, g2, g3, g4, g5, g6, call90 n.f1 h1, g7]
    refine loop_rule (ι := Nat) (S := fun i => ⟨[(1, .ptr 0 0 0), (49, .int .i64 n.f1.length), (50, .int .i64 i)], [some (.buf 5 [[.bool true, .fz (n.f1.map k145.enc), .fz (n.f2.map Cd.str.enc), .fz (n.f3.map k100.enc), .fz (n.f4.map k121.enc)]] false true)]⟩)
      (m := fun i => n.f1.length + 1 - i) (I := fun i => i ≤ n.f1.length ∧ (n.f1.drop i).any longPair = n.f1.any longPair) ?_ 0 _ ⟨by omega, by simp⟩ rfl
    rintro i ⟨hi, hg⟩
    by_cases hlt : i < n.f1.length
    · have hx : n.f1[i]? = some n.f1[i] := List.getElem?_eq_getElem hlt
      rw [any_drop hlt] at hg
      have hm : longPair n.f1[i] = (decide ((n.f1[i].f0.size : Int) > 16) || decide ((n.f1[i].f1.size : Int) > 32)) := rfl
      cases k1 : decide ((n.f1[i].f0.size : Int) > 16) with
      | true =>
        rw [hm, k1] at hg
        simp only [go_sem, T_3, T_4, T_5, T_9, T_42, T_51, T_69, T_90, T_91, T_93, T_96, T_98, T_100, T_121, T_145, all145, hlt, hx, k145_enc, k1]
        simp [← hg]
      | false =>
        cases k2 : decide ((n.f1[i].f1.size : Int) > 32) with
        | true =>
          rw [hm, k1, k2] at hg
          simp only [go_sem, T_3, T_4, T_5, T_9, T_42, T_51, T_69, T_90, T_91, T_93, T_96, T_98, T_100, T_121, T_145, all145, hlt, hx, k145_enc, k1, k2]
          simp [← hg]
        | false =>
          rw [hm, k1, k2] at hg
          simp only [go_sem, T_3, T_4, T_5, T_9, T_42, T_51, T_69, T_90, T_91, T_93, T_96, T_98, T_100, T_121, T_145, all145, hlt, hx, k145_enc, k1, k2, wrap_i64s (show i < 1000000000000000000 by omega)]
          exact ⟨i + 1, ⟨by omega, by simpa using hg⟩, by simp only; omega, rfl⟩
    · rw [List.drop_eq_nil_of_le (by omega)] at hg
      simp only [go_sem, T_3, T_4, T_5, T_9, T_42, T_51, T_69, T_90, T_91, T_93, T_96, T_98, T_100, T_121, T_145, hlt]
      simp [← hg]
  | false =>
    have wl : IntKind.i64.wrap ((n.f2.length : Int) + 1) = (n.f2.length : Int) + 1 := wrap_i64 (by omega) (by omega)
    simp only [Bool.false_eq_true, if_false]
    cases g4 : decide ((n.f1.length : Int) > 0) with
    | true =>
      refine fn_rule (fn := fn65) rfl rfl (by simp [fn65]) ?_
      unfold fn65
      simp only [Try.f65, Option.getD_some, argEnv, List.map_nil, List.length_nil]
      simp only [go_sem, T_3, T_4, T_5, T_9, T_42, T_51, T_69, T_90, T_91, T_93, T_96, T_98, T_100, T_121, T_145, k93_enc, h0, g1, g2, g3, g4]
    | false =>
    cases g5 : decide ((n.f3.length : Int) < 1) with
    | true =>
      refine fn_rule (fn := fn65) rfl rfl (by simp [fn65]) ?_
      unfold fn65
      simp only [Try.f65, Option.getD_some, argEnv, List.map_nil, List.length_nil]
      simp only [go_sem, T_3, T_4, T_5, T_9, T_42, T_51, T_69, T_90, T_91, T_93, T_96, T_98, T_100, T_121, T_145, k93_enc, h0, g1, g2, g3, g4, g5]
    | false =>
    cases g6 : ((n.f2.length : Int) + 1 != (n.f3.length : Int)) with
    | true =>
      refine fn_rule (fn := fn65) rfl rfl (by simp [fn65]) ?_
      unfold fn65
      simp only [Try.f65, Option.getD_some, argEnv, List.map_nil, List.length_nil]
      simp only [go_sem, T_3, T_4, T_5, T_9, T_42, T_51, T_69, T_90, T_91, T_93, T_96, T_98, T_100, T_121, T_145, k93_enc, h0, g1, g2, g3, g4, g5, wl, g6]
    | false =>
    refine fn_rule (fn := fn65) rfl rfl (by simp [fn65]) ?_
    unfold fn65
    simp only [Try.f65, Option.getD_some, argEnv, List.map_nil, List.length_nil]
    simp only [go_sem, T_3, T_4, T_5, T_9, T_42, T_51, T_69, T_90, T_91, T_93, T_96, T_98, T_100, T_121, T_145, k93_enc, h0, g1, g2, g3, g4, g5, wl, g6]
    refine loop_rule (ι := Nat) (S := fun i => ⟨[(1, .ptr 0 0 0), (94, .int .i64 n.f3.length), (95, .int .i64 i)], [some (.buf 5 [[.bool false, .fz (n.f1.map k145.enc), .fz (n.f2.map Cd.str.enc), .fz (n.f3.map k100.enc), .fz (n.f4.map k121.enc)]] false true)]⟩)
      (m := fun i => n.f3.length + 1 - i) (I := fun i => i ≤ n.f3.length ∧ (n.f3.drop i).any badKid = n.f3.any badKid) ?_ 0 _ ⟨by omega, by simp⟩ rfl
    rintro i ⟨hi, hg⟩
    by_cases hlt : i < n.f3.length
    · have hx : n.f3[i]? = some n.f3[i] := List.getElem?_eq_getElem hlt
      rw [any_drop hlt] at hg
      have hm : badKid n.f3[i] = (decide (n.f3[i].f1 < 1) || (decide ((n.f3[i].f2.f0.size : Int) > 16) || decide ((n.f3[i].f2.f1.size : Int) > 16))) := rfl
      cases k1 : decide (n.f3[i].f1 < 1) with
      | true =>
        rw [hm, k1] at hg
        simp only [go_sem, T_3, T_4, T_5, T_9, T_42, T_51, T_69, T_90, T_91, T_93, T_96, T_98, T_100, T_121, T_145, all100, hlt, hx, k100_enc, k1]
        simp [← hg]
      | false =>
        cases k2 : decide ((n.f3[i].f2.f0.size : Int) > 16) with
        | true =>
          rw [hm, k1, k2] at hg
          simp only [go_sem, T_3, T_4, T_5, T_9, T_42, T_51, T_69, T_90, T_91, T_93, T_96, T_98, T_100, T_121, T_145, all100, hlt, hx, k100_enc, k1, k2]
          simp [← hg]
        | false =>
          cases k3 : decide ((n.f3[i].f2.f1.size : Int) > 16) with
          | true =>
            rw [hm, k1, k2, k3] at hg
            simp only [go_sem, T_3, T_4, T_5, T_9, T_42, T_51, T_69, T_90, T_91, T_93, T_96, T_98, T_100, T_121, T_145, all100, hlt, hx, k100_enc, k1, k2, k3]
            simp [← hg]
          | false =>
            rw [hm, k1, k2, k3] at hg
            simp only [go_sem, T_3, T_4, T_5, T_9, T_42, T_51, T_69, T_90, T_91, T_93, T_96, T_98, T_100, T_121, T_145, all100, hlt, hx, k100_enc, k1, k2, k3, wrap_i64s (show i < 1000000000000000000 by omega)]
            exact ⟨i + 1, ⟨by omega, by simpa using hg⟩, by simp only; omega, rfl⟩
    rw [List.drop_eq_nil_of_le (by omega)] at hg
    have hk : n.f3.any badKid = false := by rw [← hg]; rfl
    rw [hk]
    simp only [Bool.false_eq_true, if_false]
    simp only [go_sem, T_3, T_4, T_5, T_9, T_42, T_51, T_69, T_90, T_91, T_93, T_96, T_98, T_100, T_121, T_145, hlt]
    clear hlt hi hg
    refine loop_rule (ι := Nat) (S := fun i => ⟨[(1, .ptr 0 0 0), (130, .int .i64 n.f2.length), (131, .int .i64 i)], [some (.buf 5 [[.bool false, .fz (n.f1.map k145.enc), .fz (n.f2.map Cd.str.enc), .fz (n.f3.map k100.enc), .fz (n.f4.map k121.enc)]] false true)]⟩)
      (m := fun i => n.f2.length + 1 - i) (I := fun i => i ≤ n.f2.length ∧ pivBad (if i = 0 then none else n.f2[i - 1]?) (n.f2.drop i) = pivBad none n.f2) ?_ 0 _ ⟨by omega, by simp⟩ rfl
    rintro i ⟨hi, hg⟩
    by_cases hlt : i < n.f2.length
    · have hx : n.f2[i]? = some n.f2[i] := List.getElem?_eq_getElem hlt
      have hle : ∀ a b : ByteArray, (Op.bytesLess a.toList b.toList || decide (a = b)) = leS a b := fun a b => by unfold leS; rw [ba_toList]
      rw [List.drop_eq_getElem_cons hlt] at hg
      have hm : badPiv n.f2[i] = (decide (n.f2[i] = ⟨#[]⟩) || decide ((n.f2[i].size : Int) > 16)) := rfl
      cases k1 : decide (n.f2[i] = ⟨#[]⟩) with
      | true =>
        have hp : pivBad none n.f2 = true := by
          rw [← hg]
          cases (if i = 0 then none else n.f2[i - 1]?) <;> simp [pivBad, hm, k1]
        simp only [go_sem, T_3, T_4, T_5, T_9, T_42, T_51, T_69, T_90, T_91, T_93, T_96, T_98, T_100, T_121, T_145, hlt, hx, ba_toList, k1]
        simp [hp]
      | false =>
        cases k2 : decide ((n.f2[i].size : Int) > 16) with
        | true =>
          have hp : pivBad none n.f2 = true := by
            rw [← hg]
            cases (if i = 0 then none else n.f2[i - 1]?) <;> simp [pivBad, hm, k1, k2]
          simp only [go_sem, T_3, T_4, T_5, T_9, T_42, T_51, T_69, T_90, T_91, T_93, T_96, T_98, T_100, T_121, T_145, hlt, hx, ba_toList, k1, k2]
          simp [hp]
        | false =>
          cases i with
          | zero =>
            have k3 : decide (((0 : Nat) : Int) > 0) = false := by simp
            simp only [if_true, pivBad, hm, k1, k2, Bool.or_self, Bool.false_or] at hg
            simp only [go_sem, T_3, T_4, T_5, T_9, T_42, T_51, T_69, T_90, T_91, T_93, T_96, T_98, T_100, T_121, T_145, hlt, hx, ba_toList, k1, k2, k3, wrap_i64s (show 0 < 1000000000000000000 by omega)]
            exact ⟨1, ⟨by omega, by simpa [hx] using hg⟩, by simp only; omega, rfl⟩
          | succ i =>
            have k3 : decide (((i + 1 : Nat) : Int) > 0) = true := decide_eq_true (by omega)
            have hy : n.f2[i]? = some (n.f2[i]'(by omega)) := List.getElem?_eq_getElem (by omega)
            simp only [Nat.add_one_ne_zero, if_false, Nat.add_sub_cancel, hy, pivBad, hm, k1, k2, Bool.or_self, Bool.false_or] at hg
            cases k4 : leS n.f2[i + 1] (n.f2[i]'(by omega)) with
            | true =>
              rw [k4] at hg
              simp only [go_sem, T_3, T_4, T_5, T_9, T_42, T_51, T_69, T_90, T_91, T_93, T_96, T_98, T_100, T_121, T_145, hlt, hx, hy, ba_toList, k1, k2, k3, wrap_i64p (show i < 1000000000000000000 by omega), hle, k4]
              simp [← hg]
            | false =>
              rw [k4] at hg
              simp only [go_sem, T_3, T_4, T_5, T_9, T_42, T_51, T_69, T_90, T_91, T_93, T_96, T_98, T_100, T_121, T_145, hlt, hx, hy, ba_toList, k1, k2, k3, wrap_i64p (show i < 1000000000000000000 by omega), wrap_i64s (show i + 1 < 1000000000000000000 by omega), hle, k4]
              exact ⟨i + 1 + 1, ⟨by omega, by simpa [hx] using hg⟩, by simp only; omega, rfl⟩
    rw [List.drop_eq_nil_of_le (by omega)] at hg
    have hp : pivBad none n.f2 = false := by
      rw [← hg]
      cases (if i = 0 then none else n.f2[i - 1]?) <;> rfl
    rw [hp]
    simp only [Bool.false_eq_true, if_false]
    simp only [go_sem, T_3, T_4, T_5, T_9, T_42, T_51, T_69, T_90, T_91, T_93, T_96, T_98, T_100, T_121, T_145, hlt]
    clear hlt hi hg
    refine loop_rule (ι := Nat) (S := fun i => ⟨[(1, .ptr 0 0 0), (170, .int .i64 n.f4.length), (171, .int .i64 i)], [some (.buf 5 [[.bool false, .fz (n.f1.map k145.enc), .fz (n.f2.map Cd.str.enc), .fz (n.f3.map k100.enc), .fz (n.f4.map k121.enc)]] false true)]⟩)
      (m := fun i => n.f4.length + 1 - i) (I := fun i => i ≤ n.f4.length ∧ (n.f4.drop i).any (fun m => !mayMsg m) = n.f4.any (fun m => !mayMsg m)) ?_ 0 _ ⟨by omega, by simp⟩ rfl
    rintro i ⟨hi, hg⟩
    by_cases hlt : i < n.f4.length
    · have hx : n.f4[i]? = some n.f4[i] := List.getElem?_eq_getElem hlt
      rw [any_drop hlt] at hg
      have hc := call134 n.f4[i]
      simp only [k121_enc] at hc
      cases k1 : mayMsg n.f4[i] with
      | true =>
        rw [k1] at hg
        simp only [go_sem, T_3, T_4, T_5, T_9, T_42, T_51, T_69, T_90, T_91, T_93, T_96, T_98, T_100, T_121, T_145, all121, hlt, hx, k121_enc, hc, k1, wrap_i64s (show i < 1000000000000000000 by omega)]
        exact ⟨i + 1, ⟨by omega, by simpa using hg⟩, by simp only; omega, rfl⟩
      | false =>
        rw [k1] at hg
        simp only [go_sem, T_3, T_4, T_5, T_9, T_42, T_51, T_69, T_90, T_91, T_93, T_96, T_98, T_100, T_121, T_145, all121, hlt, hx, k121_enc, hc, k1]
        simp [← hg]
    · rw [List.drop_eq_nil_of_le (by omega)] at hg
      simp only [go_sem, T_3, T_4, T_5, T_9, T_42, T_51, T_69, T_90, T_91, T_93, T_96, T_98, T_100, T_121, T_145, hlt]
      simp [← hg]
theorem call65 (n : S93) (hn : fewN n) (k : Nat) : callV (LX T fns) k (.clo 65 []) [.agg (k93.enc n)] = .pure (.int .i64 (mayN n), []) := callV_plain (fn := fn65) rfl rfl rfl (lim65 n hn) k
end Go.Proofs.Ytfdemnefkfkghaa.R
/- Chapter 33's law: may a node be? (the program's) -/
namespace Go.Proofs.Ytfdemnefkfkghaa.R
open Go Go.Proofs
set_option linter.unusedSimpArgs false
set_option linter.unusedVariables false
set_option maxRecDepth 10000
set_option maxHeartbeats 4000000

def firstI {α : Type} (f : α → Bool) : List α → Nat → Int
  | [], _ => -1
  | x :: r, i => if f x = true then (i : Int) else firstI f r (i + 1)
theorem firstI_drop {α : Type} {f : α → Bool} {l : List α} {i : Nat} (h : i < l.length) : firstI f (l.drop i) i = if f l[i] = true then (i : Int) else firstI f (l.drop (i + 1)) (i + 1) := by
  rw [List.drop_eq_getElem_cons h]
  rfl
theorem firstI_any {α : Type} {f : α → Bool} : ∀ {l : List α} {i : Nat}, decide (firstI f l i ≥ 0) = l.any f
  | [], i => by simp [firstI]
  | x :: r, i => by
    unfold firstI
    rw [List.any_cons]
    by_cases h : f x = true
    · rw [if_pos h, h, Bool.true_or]
      exact decide_eq_true (by omega)
    · rw [if_neg h, firstI_any]
      simp [h]

theorem lim221 (m : S121) : lim T fns 221 [.agg (k121.enc m)] [] = some (.bool (!mayMsg2 m), []) := by
  have hc := call222 m
  simp only [k121_enc] at hc
  refine fn_rule (fn := fn221) rfl rfl (by simp [fn221]) ?_
  unfold fn221
  simp only [Try.f221, Option.getD_some, argEnv, List.map_nil, List.length_nil]
  simp only [go_sem, T_4, T_5, T_9, T_42, T_96, T_121, k121_enc, hc]
theorem call221 (m : S121) (n : Nat) : callV (LX T fns) n (.clo 221 []) [.agg (k121.enc m)] = .pure (.bool (!mayMsg2 m), []) := callV_plain (fn := fn221) rfl rfl rfl (lim221 m) n

theorem lim236 (l : List S121) (hl : l.length < 1000000000000) : lim T fns 236 [.fz (l.map k121.enc), .clo 221 []] [] = some (.int .i64 (firstI (fun m => !mayMsg2 m) l 0), []) := by
  refine fn_rule (fn := fn236) rfl rfl (by simp [fn236]) ?_
  unfold fn236
  simp only [Try.f236, Option.getD_some, argEnv, List.map_nil, List.length_nil]
  simp only [go_sem, T_3, T_5, T_9, T_42, T_91, T_96, T_121]
  refine loop_rule (ι := Nat) (S := fun i => ⟨[(0, .fz (l.map k121.enc)), (1, .clo 221 []), (7, .int .i64 l.length), (8, .int .i64 i)], []⟩) (m := fun i => l.length + 1 - i)
    (I := fun i => i ≤ l.length ∧ firstI (fun m => !mayMsg2 m) (l.drop i) i = firstI (fun m => !mayMsg2 m) l 0) ?_ 0 _ ⟨by omega, by simp⟩ rfl
  rintro i ⟨hi, hg⟩
  by_cases hlt : i < l.length
  · have hx : l[i]? = some l[i] := List.getElem?_eq_getElem hlt
    have hc := call221 l[i]
    simp only [k121_enc] at hc
    rw [firstI_drop hlt] at hg
    cases k1 : mayMsg2 l[i] with
    | true =>
      simp only [go_sem, T_3, T_5, T_9, T_42, T_91, T_96, T_121, all121, hlt, hx, k121_enc, hc, k1, wrap_i64s (show i < 1000000000000000000 by omega)]
      exact ⟨i + 1, ⟨by omega, by simpa [k1] using hg⟩, by simp only; omega, rfl⟩
    | false =>
      simp only [go_sem, T_3, T_5, T_9, T_42, T_91, T_96, T_121, all121, hlt, hx, k121_enc, hc, k1]
      simp [← hg, k1]
  · rw [List.drop_eq_nil_of_le (by omega)] at hg
    simp only [go_sem, T_3, T_5, T_9, T_42, T_91, T_96, T_121, hlt]
    rw [← hg]
    rfl
theorem call236 (l : List S121) (hl : l.length < 1000000000000) (n : Nat) : callV (LX T fns) n (.clo 236 []) [.fz (l.map k121.enc), .clo 221 []] = .pure (.int .i64 (firstI (fun m => !mayMsg2 m) l 0), []) := callV_plain (fn := fn236) rfl rfl rfl (lim236 l hl) n
theorem lim220 (l : List S121) (hl : l.length < 1000000000000) : lim T fns 220 [.fz (l.map k121.enc), .clo 221 []] [] = some (.bool (l.any fun m => !mayMsg m), []) := by
  refine fn_rule (fn := fn220) rfl rfl (by simp [fn220]) ?_
  unfold fn220
  simp only [Try.f220, Option.getD_some, argEnv, List.map_nil, List.length_nil]
  simp only [go_sem, T_3, T_5, T_9, T_42, T_91, T_96, T_121, T_198, call236 l hl]
  have : (fun m => !mayMsg2 m) = fun m => !mayMsg m := by
    funext m
    rw [mayMsg2_eq]
  rw [firstI_any, this]
theorem call220 (l : List S121) (hl : l.length < 1000000000000) (n : Nat) : callV (LX T fns) n (.clo 220 []) [.fz (l.map k121.enc), .clo 221 []] = .pure (.bool (l.any fun m => !mayMsg m), []) := callV_plain (fn := fn220) rfl rfl rfl (lim220 l hl) n

/-- Are pairs wrong? -/
def pairBad : Option ByteArray → List S145 → Bool
  | _, [] => false
  | none, p :: r => longPair p || pairBad (some p.f0) r
  | some q, p :: r => longPair p || (leS p.f0 q || pairBad (some p.f0) r)
theorem pairBad_some : ∀ {l : List S145} {x : S145}, pairBad (some x.f0) l = (l.any longPair || !riseFrom (x :: l))
  | [], x => rfl
  | p :: r, x => by
    simp only [pairBad, List.any_cons, riseFrom, pairBad_some]
    cases longPair p <;> cases leS p.f0 x.f0 <;> cases r.any longPair <;> cases riseFrom (p :: r) <;> rfl
theorem pairBad_none {l : List S145} : pairBad none l = (l.any longPair || !riseFrom l) := by
  cases l with
  | nil => rfl
  | cons p r =>
    simp only [pairBad, pairBad_some, List.any_cons, Bool.or_assoc]

def leafB (n : S93) : Bool := if decide ((n.f2.length : Int) + (n.f3.length : Int) + (n.f4.length : Int) > 0) = true then false else !pairBad none n.f1
theorem lim185 (n : S93) (hn : fewN n) : lim T fns 185 [.agg (k93.enc n)] [] = some (.bool (leafB n), []) := by
  obtain ⟨h1, h2, h3, h4⟩ := hn
  have w1 : IntKind.i64.wrap ((n.f2.length : Int) + (n.f3.length : Int)) = (n.f2.length : Int) + (n.f3.length : Int) := wrap_i64 (by omega) (by omega)
  have w2 : IntKind.i64.wrap ((n.f2.length : Int) + (n.f3.length : Int) + (n.f4.length : Int)) = (n.f2.length : Int) + (n.f3.length : Int) + (n.f4.length : Int) := wrap_i64 (by omega) (by omega)
  unfold leafB
  cases g1 : decide ((n.f2.length : Int) + (n.f3.length : Int) + (n.f4.length : Int) > 0) with
  | true =>
    refine fn_rule (fn := fn185) rfl rfl (by simp [fn185]) ?_
    unfold fn185
    simp only [Try.f185, Option.getD_some, argEnv, List.map_nil, List.length_nil]
    simp only [go_sem, T_3, T_4, T_5, T_9, T_42, T_51, T_69, T_90, T_91, T_93, T_96, T_98, T_100, T_121, T_145, k93_enc, w1, w2, g1]
  | false =>
  simp only [Bool.false_eq_true, if_false]
  refine fn_rule (fn := fn185) rfl rfl (by simp [fn185]) ?_
  unfold fn185
  simp only [Try.f185, Option.getD_some, argEnv, List.map_nil, List.length_nil]
  simp only [go_sem, T_3, T_4, T_5, T_9, T_42, T_51, T_69, T_90, T_91, T_93, T_96, T_98, T_100, T_121, T_145, k93_enc, w1, w2, g1]
  refine loop_rule (ι := Nat) (S := fun i => ⟨[(1, .ptr 0 0 0), (18, .fz (n.f1.map k145.enc)), (19, .int .i64 n.f1.length), (20, .int .i64 i)], [some (.buf 5 [[.bool n.f0, .fz (n.f1.map k145.enc), .fz (n.f2.map Cd.str.enc), .fz (n.f3.map k100.enc), .fz (n.f4.map k121.enc)]] false true)]⟩)
    (m := fun i => n.f1.length + 1 - i) (I := fun i => i ≤ n.f1.length ∧ pairBad (if i = 0 then none else n.f1[i - 1]?.map (·.f0)) (n.f1.drop i) = pairBad none n.f1) ?_ 0 _ ⟨by omega, by simp⟩ rfl
  rintro i ⟨hi, hg⟩
  by_cases hlt : i < n.f1.length
  · have hx : n.f1[i]? = some n.f1[i] := List.getElem?_eq_getElem hlt
    have hle : ∀ a b : ByteArray, (Op.bytesLess a.toList b.toList || a.toList == b.toList) = leS a b := fun a b => rfl
    rw [List.drop_eq_getElem_cons hlt] at hg
    have hm : longPair n.f1[i] = (decide ((n.f1[i].f0.size : Int) > 16) || decide ((n.f1[i].f1.size : Int) > 32)) := rfl
    cases k1 : decide ((n.f1[i].f0.size : Int) > 16) with
    | true =>
      have hp : pairBad none n.f1 = true := by
        rw [← hg]
        cases (if i = 0 then none else n.f1[i - 1]?.map (·.f0)) <;> simp [pairBad, hm, k1]
      simp only [go_sem, T_3, T_4, T_5, T_9, T_42, T_51, T_69, T_90, T_91, T_93, T_96, T_98, T_100, T_121, T_145, all145, hlt, hx, k145_enc, k1]
      simp [hp]
    | false =>
      cases k2 : decide ((n.f1[i].f1.size : Int) > 32) with
      | true =>
        have hp : pairBad none n.f1 = true := by
          rw [← hg]
          cases (if i = 0 then none else n.f1[i - 1]?.map (·.f0)) <;> simp [pairBad, hm, k1, k2]
        simp only [go_sem, T_3, T_4, T_5, T_9, T_42, T_51, T_69, T_90, T_91, T_93, T_96, T_98, T_100, T_121, T_145, all145, hlt, hx, k145_enc, k1, k2]
        simp [hp]
      | false =>
        cases i with
        | zero =>
          have k3 : decide (((0 : Nat) : Int) > 0) = false := by simp
          simp only [if_true, pairBad, hm, k1, k2, Bool.or_self, Bool.false_or] at hg
          simp only [go_sem, T_3, T_4, T_5, T_9, T_42, T_51, T_69, T_90, T_91, T_93, T_96, T_98, T_100, T_121, T_145, all145, hlt, hx, k145_enc, k1, k2, k3, wrap_i64s (show 0 < 1000000000000000000 by omega)]
          exact ⟨1, ⟨by omega, by simpa [hx] using hg⟩, by simp only; omega, rfl⟩
        | succ i =>
          have k3 : decide (((i + 1 : Nat) : Int) > 0) = true := decide_eq_true (by omega)
          have hy : n.f1[i]? = some (n.f1[i]'(by omega)) := List.getElem?_eq_getElem (by omega)
          simp only [Nat.add_one_ne_zero, if_false, Nat.add_sub_cancel, hy, Option.map_some, pairBad, hm, k1, k2, Bool.or_self, Bool.false_or] at hg
          cases k4 : leS n.f1[i + 1].f0 (n.f1[i]'(by omega)).f0 with
          | true =>
            rw [k4] at hg
            simp only [go_sem, T_3, T_4, T_5, T_9, T_42, T_51, T_69, T_90, T_91, T_93, T_96, T_98, T_100, T_121, T_145, all145, hlt, hx, hy, k145_enc, k1, k2, k3, wrap_i64p (show i < 1000000000000000000 by omega), hle, k4]
            simp [← hg]
          | false =>
            rw [k4] at hg
            simp only [go_sem, T_3, T_4, T_5, T_9, T_42, T_51, T_69, T_90, T_91, T_93, T_96, T_98, T_100, T_121, T_145, all145, hlt, hx, hy, k145_enc, k1, k2, k3, wrap_i64p (show i < 1000000000000000000 by omega), wrap_i64s (show i + 1 < 1000000000000000000 by omega), hle, k4]
            exact ⟨i + 1 + 1, ⟨by omega, by simpa [hx] using hg⟩, by simp only; omega, rfl⟩
  · rw [List.drop_eq_nil_of_le (by omega)] at hg
    have hp : pairBad none n.f1 = false := by
      rw [← hg]
      cases (if i = 0 then none else n.f1[i - 1]?.map (·.f0)) <;> rfl
    rw [hp]
    simp only [go_sem, T_3, T_4, T_5, T_9, T_42, T_51, T_69, T_90, T_91, T_93, T_96, T_98, T_100, T_121, T_145, hlt]
theorem call185 (n : S93) (hn : fewN n) (k : Nat) : callV (LX T fns) k (.clo 185 []) [.agg (k93.enc n)] = .pure (.bool (leafB n), []) := callV_plain (fn := fn185) rfl rfl rfl (lim185 n hn) k

def badKid2 (e : S100) : Bool := (e.f1 == 0) || (!decide (e.f2.f0.size ≤ 16) || !decide (e.f2.f1.size ≤ 16))
def pivBad2 : ByteArray → List ByteArray → Bool
  | _, [] => false
  | q, p :: r => leS p q || (!decide (p.size ≤ 16) || pivBad2 p r)
def formB (n : S93) : Bool :=
  if (decide ((n.f1.length : Int) > 0) || (((n.f3.length : Int) == 0) || ((n.f2.length : Int) != (n.f3.length : Int) - 1))) = true then false else
    if n.f3.any badKid2 = true then false else if pivBad2 ⟨#[]⟩ n.f2 = true then false else !n.f4.any fun m => !mayMsg m

theorem lim186 (n : S93) (hn : fewN n) : lim T fns 186 [.agg (k93.enc n)] [] = some (.bool (formB n), []) := by
  obtain ⟨h1, h2, h3, h4⟩ := hn
  have w1 : IntKind.i64.wrap ((n.f3.length : Int) - 1) = (n.f3.length : Int) - 1 := wrap_i64 (by omega) (by omega)
  unfold formB
  cases g1 : decide ((n.f1.length : Int) > 0) with
  | true =>
    refine fn_rule (fn := fn186) rfl rfl (by simp [fn186]) ?_
    unfold fn186
    simp only [Try.f186, Option.getD_some, argEnv, List.map_nil, List.length_nil]
    simp only [go_sem, T_3, T_4, T_5, T_9, T_42, T_51, T_69, T_90, T_91, T_93, T_96, T_98, T_100, T_121, T_145, T_198, k93_enc, g1]
  | false =>
  cases g2 : ((n.f3.length : Int) == 0) with
  | true =>
    refine fn_rule (fn := fn186) rfl rfl (by simp [fn186]) ?_
    unfold fn186
    simp only [Try.f186, Option.getD_some, argEnv, List.map_nil, List.length_nil]
    simp only [go_sem, T_3, T_4, T_5, T_9, T_42, T_51, T_69, T_90, T_91, T_93, T_96, T_98, T_100, T_121, T_145, T_198, k93_enc, g1, g2]
  | false =>
  cases g3 : ((n.f2.length : Int) != (n.f3.length : Int) - 1) with
  | true =>
    refine fn_rule (fn := fn186) rfl rfl (by simp [fn186]) ?_
    unfold fn186
    simp only [Try.f186, Option.getD_some, argEnv, List.map_nil, List.length_nil]
    simp only [go_sem, T_3, T_4, T_5, T_9, T_42, T_51, T_69, T_90, T_91, T_93, T_96, T_98, T_100, T_121, T_145, T_198, k93_enc, g1, g2, w1, g3]
  | false =>
  simp only [Bool.or_self, Bool.false_eq_true, if_false]
  refine fn_rule (fn := fn186) rfl rfl (by simp [fn186]) ?_
  unfold fn186
  simp only [Try.f186, Option.getD_some, argEnv, List.map_nil, List.length_nil]
  simp only [go_sem, T_3, T_4, T_5, T_9, T_42, T_51, T_69, T_90, T_91, T_93, T_96, T_98, T_100, T_121, T_145, T_198, k93_enc, g1, g2, w1, g3]
  refine loop_rule (ι := Nat) (S := fun i => ⟨[(1, .ptr 0 0 0), (29, .fz (n.f3.map k100.enc)), (30, .int .i64 n.f3.length), (31, .int .i64 i)], [some (.buf 5 [[.bool n.f0, .fz (n.f1.map k145.enc), .fz (n.f2.map Cd.str.enc), .fz (n.f3.map k100.enc), .fz (n.f4.map k121.enc)]] false true)]⟩)
    (m := fun i => n.f3.length + 1 - i) (I := fun i => i ≤ n.f3.length ∧ (n.f3.drop i).any badKid2 = n.f3.any badKid2) ?_ 0 _ ⟨by omega, by simp⟩ rfl
  rintro i ⟨hi, hg⟩
  by_cases hlt : i < n.f3.length
  · have hx : n.f3[i]? = some n.f3[i] := List.getElem?_eq_getElem hlt
    rw [any_drop hlt] at hg
    have hm : badKid2 n.f3[i] = ((n.f3[i].f1 == 0) || (!decide (n.f3[i].f2.f0.size ≤ 16) || !decide (n.f3[i].f2.f1.size ≤ 16))) := rfl
    cases k1 : (n.f3[i].f1 == 0) with
    | true =>
      rw [hm, k1] at hg
      simp only [go_sem, T_3, T_4, T_5, T_9, T_42, T_51, T_69, T_90, T_91, T_93, T_96, T_98, T_100, T_121, T_145, T_198, all100, hlt, hx, k100_enc, k1]
      simp [← hg]
    | false =>
      cases k2 : decide (n.f3[i].f2.f0.size ≤ 16) with
      | false =>
        rw [hm, k1, k2] at hg
        simp only [go_sem, T_3, T_4, T_5, T_9, T_42, T_51, T_69, T_90, T_91, T_93, T_96, T_98, T_100, T_121, T_145, T_198, all100, hlt, hx, k100_enc, k1, call219, k2]
        simp [← hg]
      | true =>
        cases k3 : decide (n.f3[i].f2.f1.size ≤ 16) with
        | false =>
          rw [hm, k1, k2, k3] at hg
          simp only [go_sem, T_3, T_4, T_5, T_9, T_42, T_51, T_69, T_90, T_91, T_93, T_96, T_98, T_100, T_121, T_145, T_198, all100, hlt, hx, k100_enc, k1, call219, k2, k3]
          simp [← hg]
        | true =>
          rw [hm, k1, k2, k3] at hg
          simp only [go_sem, T_3, T_4, T_5, T_9, T_42, T_51, T_69, T_90, T_91, T_93, T_96, T_98, T_100, T_121, T_145, T_198, all100, hlt, hx, k100_enc, k1, call219, k2, k3, wrap_i64s (show i < 1000000000000000000 by omega)]
          exact ⟨i + 1, ⟨by omega, by simpa using hg⟩, by simp only; omega, rfl⟩
  rw [List.drop_eq_nil_of_le (by omega)] at hg
  have hk : n.f3.any badKid2 = false := by rw [← hg]; rfl
  rw [hk]
  simp only [Bool.false_eq_true, if_false]
  simp only [go_sem, T_3, T_4, T_5, T_9, T_42, T_51, T_69, T_90, T_91, T_93, T_96, T_98, T_100, T_121, T_145, T_198, hlt]
  clear hlt hi hg
  refine loop_rule (ι := Nat) (S := fun i => ⟨[(1, .ptr 0 0 0), (5, .str (if i = 0 then ⟨#[]⟩ else (n.f2[i - 1]?).getD ⟨#[]⟩)), (54, .fz (n.f2.map Cd.str.enc)), (55, .int .i64 n.f2.length), (56, .int .i64 i)], [some (.buf 5 [[.bool n.f0, .fz (n.f1.map k145.enc), .fz (n.f2.map Cd.str.enc), .fz (n.f3.map k100.enc), .fz (n.f4.map k121.enc)]] false true)]⟩)
    (m := fun i => n.f2.length + 1 - i) (I := fun i => i ≤ n.f2.length ∧ pivBad2 (if i = 0 then ⟨#[]⟩ else (n.f2[i - 1]?).getD ⟨#[]⟩) (n.f2.drop i) = pivBad2 ⟨#[]⟩ n.f2) ?_ 0 _ ⟨by omega, by simp⟩ rfl
  rintro i ⟨hi, hg⟩
  generalize hq : (if i = 0 then (⟨#[]⟩ : ByteArray) else (n.f2[i - 1]?).getD ⟨#[]⟩) = q at hg
  by_cases hlt : i < n.f2.length
  · have hx : n.f2[i]? = some n.f2[i] := List.getElem?_eq_getElem hlt
    have hle : ∀ a b : ByteArray, (Op.bytesLess a.toList b.toList || a.toList == b.toList) = leS a b := fun a b => rfl
    rw [List.drop_eq_getElem_cons hlt] at hg
    simp only [pivBad2] at hg
    cases k1 : leS n.f2[i] q with
    | true =>
      rw [k1] at hg
      simp only [go_sem, T_3, T_4, T_5, T_9, T_42, T_51, T_69, T_90, T_91, T_93, T_96, T_98, T_100, T_121, T_145, T_198, hlt, hx, hle, hq, k1]
      simp [← hg]
    | false =>
      cases k2 : decide (n.f2[i].size ≤ 16) with
      | false =>
        rw [k1, k2] at hg
        simp only [go_sem, T_3, T_4, T_5, T_9, T_42, T_51, T_69, T_90, T_91, T_93, T_96, T_98, T_100, T_121, T_145, T_198, hlt, hx, hle, hq, k1, call219, k2]
        simp [← hg]
      | true =>
        rw [k1, k2] at hg
        simp only [go_sem, T_3, T_4, T_5, T_9, T_42, T_51, T_69, T_90, T_91, T_93, T_96, T_98, T_100, T_121, T_145, T_198, hlt, hx, hle, hq, k1, call219, k2, wrap_i64s (show i < 1000000000000000000 by omega)]
        refine ⟨i + 1, ⟨by omega, by simpa [hx] using hg⟩, by simp only; omega, ?_⟩
        simp only [Nat.add_one_ne_zero, if_false, Nat.add_sub_cancel, hx, Option.getD_some]
        rfl
  rw [List.drop_eq_nil_of_le (by omega)] at hg
  have hp : pivBad2 ⟨#[]⟩ n.f2 = false := by rw [← hg]; rfl
  rw [hp]
  simp only [Bool.false_eq_true, if_false]
  simp only [go_sem, T_3, T_4, T_5, T_9, T_42, T_51, T_69, T_90, T_91, T_93, T_96, T_98, T_100, T_121, T_145, T_198, hlt, hq, call220 n.f4 h4]
theorem call186 (n : S93) (hn : fewN n) (k : Nat) : callV (LX T fns) k (.clo 186 []) [.agg (k93.enc n)] = .pure (.bool (formB n), []) := callV_plain (fn := fn186) rfl rfl rfl (lim186 n hn) k

theorem leS_nil (p : ByteArray) : leS p ⟨#[]⟩ = decide (p = ⟨#[]⟩) := by
  unfold leS
  rw [ba_toList]
  have : Op.bytesLess p.toList (⟨#[]⟩ : ByteArray).toList = false := by
    have e : (⟨#[]⟩ : ByteArray).toList = [] := by simp [ByteArray.toList_eq]
    rw [e]
    cases p.toList <;> rfl
  rw [this, Bool.false_or]
theorem nil_leS (q : ByteArray) : leS ⟨#[]⟩ q = true := by
  unfold leS
  have e : (⟨#[]⟩ : ByteArray).toList = [] := by simp [ByteArray.toList_eq]
  rw [e]
  cases q.toList <;> rfl
theorem size_dec (p : ByteArray) (k : Nat) : decide ((p.size : Int) > k) = !decide (p.size ≤ k) := by
  by_cases h : p.size ≤ k
  · have : ¬ (p.size : Int) > k := by omega
    simp [h, this]
  · have : (p.size : Int) > k := by omega
    simp [h, this]
theorem pivBad_some : ∀ {l : List ByteArray} {q : ByteArray}, pivBad (some q) l = pivBad2 q l
  | [], q => rfl
  | p :: r, q => by
    have hs := size_dec p 16
    simp only [pivBad, pivBad2, pivBad_some, badPiv]
    rw [show decide ((p.size : Int) > 16) = !decide (p.size ≤ 16) from hs]
    by_cases h : p = ⟨#[]⟩
    · subst h
      simp [nil_leS]
    · simp only [h, decide_false, Bool.false_or]
      cases leS p q <;> cases decide (p.size ≤ 16) <;> cases pivBad2 p r <;> rfl
theorem pivBad_none {l : List ByteArray} : pivBad none l = pivBad2 ⟨#[]⟩ l := by
  cases l with
  | nil => rfl
  | cons p r =>
    have hs := size_dec p 16
    simp only [pivBad, pivBad2, pivBad_some, badPiv, leS_nil]
    rw [show decide ((p.size : Int) > 16) = !decide (p.size ≤ 16) from hs, Bool.or_assoc]
theorem badKid_eq {e : S100} (h : 0 ≤ e.f1) : badKid2 e = badKid e := by
  unfold badKid badKid2
  have h1 := size_dec e.f2.f0 16
  have h2 := size_dec e.f2.f1 16
  rw [show decide ((e.f2.f0.size : Int) > 16) = !decide (e.f2.f0.size ≤ 16) from h1, show decide ((e.f2.f1.size : Int) > 16) = !decide (e.f2.f1.size ≤ 16) from h2]
  have h3 : (e.f1 == 0) = decide (e.f1 < 1) := by
    rw [Bool.eq_iff_iff]
    simp only [beq_iff_eq, decide_eq_true_eq]
    omega
  rw [h3]
theorem any_congr' {α : Type} {f g : α → Bool} : ∀ {l : List α}, (∀ x ∈ l, f x = g x) → l.any f = l.any g
  | [], _ => rfl
  | x :: l, h => by
    rw [List.any_cons, List.any_cons, h x (.head _), any_congr' fun y hy => h y (.tail _ hy)]

/-- What the program says of a node. -/
def mayP (n : S93) : Int :=
  if (decide ((n.f1.length : Int) > 16) || (decide ((n.f3.length : Int) > 8) || decide ((n.f4.length : Int) > 16))) = true then 13 else
  if n.f0 = true then (if leafB n = true then 0 else 3) else if formB n = true then 0 else 3
theorem mayP_eq (n : S93) (hw : wfN n) : mayP n = mayN n := by
  have hkid : n.f3.any badKid2 = n.f3.any badKid := any_congr' fun e he => badKid_eq (hw.1 e he).1
  unfold mayP mayN leafB formB
  rw [pairBad_none, pivBad_none, hkid]
  split
  · rfl
  split
  · have e1 : decide ((n.f2.length : Int) + (n.f3.length : Int) + (n.f4.length : Int) > 0) = (decide ((n.f2.length : Int) > 0) || (decide ((n.f3.length : Int) > 0) || decide ((n.f4.length : Int) > 0))) := by
      rw [Bool.eq_iff_iff]
      simp only [Bool.or_eq_true, decide_eq_true_eq]
      omega
    rw [e1]
    cases decide ((n.f2.length : Int) > 0) <;> cases decide ((n.f3.length : Int) > 0) <;> cases decide ((n.f4.length : Int) > 0) <;> cases riseFrom n.f1 <;> cases n.f1.any longPair <;> rfl
  · have e1 : ((n.f3.length : Int) == 0) = decide ((n.f3.length : Int) < 1) := by
      rw [Bool.eq_iff_iff]
      simp only [beq_iff_eq, decide_eq_true_eq]
      omega
    have e2 : ((n.f2.length : Int) != (n.f3.length : Int) - 1) = ((n.f2.length : Int) + 1 != (n.f3.length : Int)) := by
      rw [Bool.eq_iff_iff]
      simp only [bne_iff_ne]
      omega
    rw [e1, e2]
    cases decide ((n.f1.length : Int) > 0) <;> cases decide ((n.f3.length : Int) < 1) <;> cases ((n.f2.length : Int) + 1 != (n.f3.length : Int)) <;> cases n.f3.any badKid <;> cases pivBad2 ⟨#[]⟩ n.f2 <;> cases (n.f4.any fun m => !mayMsg m) <;> rfl

theorem lim129 (n : S93) (hn : fewN n) (hw : wfN n) : lim T fns 129 [.agg (k93.enc n)] [] = some (.int .i64 (mayN n), []) := by
  have hc1 := call185 n hn
  have hc2 := call186 n hn
  simp only [k93_enc] at hc1 hc2
  rw [← mayP_eq n hw]
  unfold mayP
  cases g1 : decide ((n.f1.length : Int) > 16) with
  | true =>
    refine fn_rule (fn := fn129) rfl rfl (by simp [fn129]) ?_
    unfold fn129
    simp only [Try.f129, Option.getD_some, argEnv, List.map_nil, List.length_nil]
    simp only [go_sem, T_3, T_4, T_5, T_9, T_42, T_51, T_69, T_90, T_91, T_93, T_96, T_98, T_100, T_121, T_145, k93_enc, g1]
  | false =>
  cases g2 : decide ((n.f3.length : Int) > 8) with
  | true =>
    refine fn_rule (fn := fn129) rfl rfl (by simp [fn129]) ?_
    unfold fn129
    simp only [Try.f129, Option.getD_some, argEnv, List.map_nil, List.length_nil]
    simp only [go_sem, T_3, T_4, T_5, T_9, T_42, T_51, T_69, T_90, T_91, T_93, T_96, T_98, T_100, T_121, T_145, k93_enc, g1, g2]
  | false =>
  cases g3 : decide ((n.f4.length : Int) > 16) with
  | true =>
    refine fn_rule (fn := fn129) rfl rfl (by simp [fn129]) ?_
    unfold fn129
    simp only [Try.f129, Option.getD_some, argEnv, List.map_nil, List.length_nil]
    simp only [go_sem, T_3, T_4, T_5, T_9, T_42, T_51, T_69, T_90, T_91, T_93, T_96, T_98, T_100, T_121, T_145, k93_enc, g1, g2, g3]
  | false =>
  cases h0 : n.f0 with
  | true =>
    simp only [h0] at hc1 hc2
    cases g4 : leafB n
    all_goals
      refine fn_rule (fn := fn129) rfl rfl (by simp [fn129]) ?_
      unfold fn129
      simp only [Try.f129, Option.getD_some, argEnv, List.map_nil, List.length_nil]
      simp only [go_sem, T_3, T_4, T_5, T_9, T_42, T_51, T_69, T_90, T_91, T_93, T_96, T_98, T_100, T_121, T_145, k93_enc, h0, g1, g2, g3, hc1, g4]
  | false =>
    simp only [h0] at hc1 hc2
    cases g4 : formB n
    all_goals
      refine fn_rule (fn := fn129) rfl rfl (by simp [fn129]) ?_
      unfold fn129
      simp only [Try.f129, Option.getD_some, argEnv, List.map_nil, List.length_nil]
      simp only [go_sem, T_3, T_4, T_5, T_9, T_42, T_51, T_69, T_90, T_91, T_93, T_96, T_98, T_100, T_121, T_145, k93_enc, h0, g1, g2, g3, hc2, g4]
theorem call129 (n : S93) (hn : fewN n) (hw : wfN n) (k : Nat) : callV (LX T fns) k (.clo 129 []) [.agg (k93.enc n)] = .pure (.int .i64 (mayN n), []) := callV_plain (fn := fn129) rfl rfl rfl (lim129 n hn hw) k
end Go.Proofs.Ytfdemnefkfkghaa.R
/- Calls whose arguments are slices of objects: they are frozen, then the callee's answer is as at plain ones. -/
namespace Go.Proofs.Ytfdemnefkfkghaa.R
open Go
set_option linter.unusedVariables false
set_option linter.unusedSimpArgs false

/-- A slice of an object, looked at. -/
def fzB (p st o l : Nat) (x : Option Ob) : Option (V × Upd × List Nat) := match x with
  | some (.buf st' rows _ true) => if st' = st ∧ o + l ≤ rows.length then some (.fz ((rows.drop o).take l), [(p, some (.buf st rows true true))], [p]) else none
  | _ => none
def fzP (v : V) : Option (V × Upd × List Nat) := if v.plain = true then some (v, [], []) else none
/-- An argument, frozen: its value, what was turned, what was looked at. -/
def fzArg (h : Heap) : V → Option (V × Upd × List Nat)
  | .ms p st o l _ => fzB p st o l (h.at? p)
  | .nils => some (.fz [], [], [])
  | v => fzP v
def fz2 (x y : Option (V × Upd × List Nat)) (r : V × Upd × List Nat → Option (List V × Upd × List Nat)) : Option (List V × Upd × List Nat) := match x with
  | some v => r v
  | none => none
def fzJ (x : Option (V × Upd × List Nat)) (y : Option (List V × Upd × List Nat)) : Option (List V × Upd × List Nat) := match x, y with
  | some (v, u, l), some (r, u', l') => some (v :: r, u ++ u', l' ++ l)
  | _, _ => none
def fzArgs (h : Heap) : List V → Option (List V × Upd × List Nat)
  | [] => some ([], [], [])
  | v :: r => fzJ (fzArg h v) (fzArgs h r)

theorem fzP_frz {α : Type} {v v' : V} {u : Upd} {l : List Nat} (hx : fzP v = some (v', u, l)) (k : V → Upd → Rd α) (h : Heap) (tr : List Nat) : (frz v k).run h tr = (k v' u).run h (l ++ tr) ∧ v'.plain = true := by
  unfold fzP at hx
  split at hx
  · rename_i hp
    cases hx
    exact ⟨by rw [plain_frz k v hp]; rfl, hp⟩
  · cases hx
theorem fzArg_frz {α : Type} {h : Heap} {v v' : V} {u : Upd} {l : List Nat} (hx : fzArg h v = some (v', u, l)) (k : V → Upd → Rd α) (tr : List Nat) : (frz v k).run h tr = (k v' u).run h (l ++ tr) ∧ v'.plain = true := by
  cases v with
  | ms p st o n c =>
    simp only [fzArg, fzB] at hx
    simp only [frz, frzAll, frzG, frzGAll, ms2, msUp, frzG, ms2, msUp, Rd.run]
    cases ho : h.at? p with
    | none => rw [ho] at hx; cases hx
    | some ob =>
      rw [ho] at hx
      cases ob with
      | mp es q => cases hx
      | buf st' rows f q =>
        cases q with
        | false => cases hx
        | true =>
          simp only at hx ⊢
          split at hx
          · rename_i hc
            cases hx
            rw [if_pos hc]
            exact ⟨rfl, rfl⟩
          · cases hx
  | nils =>
    simp only [fzArg] at hx
    cases hx
    exact ⟨by simp only [frz, frzAll, frzG, frzGAll, ms2, msUp, frzG]; rfl, rfl⟩
  | _ => exact fzP_frz hx k h tr
theorem fzArgs_frz {α : Type} {h : Heap} : ∀ {l l' : List V} {u : Upd} {rs : List Nat} {m : List Bool}, fzArgs h l = some (l', u, rs) → m.all id = true → l.length ≤ m.length → ∀ (k : List V → Upd → Rd α) (tr : List Nat), (frzArgs l m k).run h tr = (k l' u).run h (rs ++ tr) ∧ V.allPlain l' = true
  | [], l', u, rs, m, hx, _, _, k, tr => by
    simp only [fzArgs] at hx
    cases hx
    exact ⟨by simp only [frzArgs]; rfl, rfl⟩
  | v :: r, l', u, rs, m, hx, hm, hl, k, tr => by
    cases m with
    | nil => simp at hl
    | cons b m =>
      simp only [List.all_cons, id_eq, Bool.and_eq_true] at hm
      obtain ⟨rfl, hm⟩ := hm
      simp only [fzArgs] at hx
      cases h1 : fzArg h v with
      | none => rw [h1] at hx; simp [fzJ] at hx
      | some x =>
        obtain ⟨v1, u1, l1⟩ := x
        cases h2 : fzArgs h r with
        | none => rw [h1, h2] at hx; simp [fzJ] at hx
        | some y =>
          obtain ⟨r2, u2, l2⟩ := y
          rw [h1, h2] at hx
          simp only [fzJ, Option.some.injEq, Prod.mk.injEq] at hx
          obtain ⟨rfl, rfl, rfl⟩ := hx
          simp only [frzArgs]
          have a := fzArg_frz h1 (fun v u => frzArgs r m fun r u' => k (v :: r) (u ++ u')) tr
          have b := fzArgs_frz h2 hm (by simpa using hl) (fun r u' => k (v1 :: r) (u1 ++ u')) (l1 ++ tr)
          refine ⟨?_, ?_⟩
          · rw [a.1, b.1, List.append_assoc]
          · simp only [V.allPlain, a.2, b.2, Bool.and_self]

noncomputable def fzBad (T : TT) (fns : FuncId → Option AFn) (g : FuncId) (n : Nat) (args : List V) (h : Heap) (tr : List Nat) : Option ((V × Upd) × List Nat) := (callV (LX T fns) n (.clo g []) args).run h tr
noncomputable def fzC (T : TT) (fns : FuncId → Option AFn) (g : FuncId) (n : Nat) (args : List V) (h : Heap) (tr : List Nat) (u : Upd) (rs : List Nat) (y : Option (V × Heap)) : Option ((V × Upd) × List Nat) := match y with
  | some (r, []) => if r.plain = true then some ((r, if r.noFz = true then [] else u), rs ++ tr) else fzBad T fns g n args h tr
  | _ => fzBad T fns g n args h tr
noncomputable def fzCall (T : TT) (fns : FuncId → Option AFn) (g : FuncId) (n : Nat) (args : List V) (h : Heap) (tr : List Nat) (x : Option (List V × Upd × List Nat)) : Option ((V × Upd) × List Nat) := match x with
  | some (args', u, rs) => fzC T fns g n args h tr u rs (lim T fns g args' [])
  | none => fzBad T fns g n args h tr

theorem callFz {T : TT} {fns : FuncId → Option AFn} (g : FuncId) (fn : AFn) (hfn : fns g = some fn) (hp : fn.pfz.all id = true) (np : Nat) (hnp : fn.pfz.length = np) (n : Nat) (args : List V) (h : Heap) (tr : List Nat) (hl : args.length ≤ np) :
    (callV (LX T fns) n (.clo g []) args).run h tr = fzCall T fns g n args h tr (fzArgs h args) := by
  subst hnp
  unfold fzCall
  split
  · rename_i args' u rs hx
    unfold fzC
    split
    · rename_i r hr
      split
      · rename_i hpl
        unfold callV
        simp only [hfn, List.append_nil]
        unfold callR
        have key := fzArgs_frz (α := V × Upd) hx hp hl (fun args u => collect 4096 (V.allIds args) [] fun obs => withR ((LX T fns).call g) n args u obs) tr
        rw [key.1]
        rw [plainAll_ids _ key.2]
        show (withR (lim T fns g) n args' u []).run h (rs ++ tr) = _
        unfold withR
        simp only [List.map_nil, upd1, List.contains_nil, Bool.not_false, List.all_nil, Bool.and_true, plainAll_re _ _ key.2, pullObs, hr, List.length_nil, Nat.le_refl, if_true]
        rw [if_pos (by simp)]
        unfold afterR
        simp only [List.length_nil, plain_re _ _ hpl, pushObs, List.isEmpty_nil, Bool.true_and, List.nil_append]
        split <;> rfl
      · rfl
    · rfl
  · rfl

section
variable {T : TT} {fns : FuncId → Option AFn} {g : FuncId} {n : Nat} {args args' : List V} {h : Heap} {tr rs : List Nat} {u : Upd} {r : V}
theorem fzCall_some : fzCall T fns g n args h tr (some (args', u, rs)) = fzC T fns g n args h tr u rs (lim T fns g args' []) := rfl
theorem fzC_some : fzC T fns g n args h tr u rs (some (r, [])) = if r.plain = true then some ((r, if r.noFz = true then [] else u), rs ++ tr) else fzBad T fns g n args h tr := rfl
theorem fzArgs_nil : fzArgs h [] = some ([], [], []) := rfl
theorem fzArgs_cons {v : V} {r : List V} : fzArgs h (v :: r) = fzJ (fzArg h v) (fzArgs h r) := rfl
theorem fzJ_some {v : V} {l l' : List Nat} {u u' : Upd} {r : List V} : fzJ (some (v, u, l)) (some (r, u', l')) = some (v :: r, u ++ u', l' ++ l) := rfl
theorem fzArg_ms {p st o l : Nat} {c : Option Nat} : fzArg h (.ms p st o l c) = fzB p st o l (h.at? p) := rfl
theorem fzArg_nils : fzArg h .nils = some (.fz [], [], []) := rfl
theorem fzArg_int {k : IntKind} {m : Int} : fzArg h (.int k m) = some (.int k m, [], []) := rfl
theorem fzArg_bool {b : Bool} : fzArg h (.bool b) = some (.bool b, [], []) := rfl
theorem fzArg_str {s : ByteArray} : fzArg h (.str s) = some (.str s, [], []) := rfl
theorem fzArg_fz {rows : List (List V)} : fzArg h (.fz rows) = some (.fz rows, [], []) := rfl
theorem fzArg_agg {cs : List V} : fzArg h (.agg cs) = if V.allPlain cs = true then some (.agg cs, [], []) else none := rfl
theorem fzB_all {p st l : Nat} {rows : List (List V)} {f : Bool} (hl : rows.length = l) : fzB p st 0 l (some (.buf st rows f true)) = some (.fz rows, [(p, some (.buf st rows true true))], [p]) := by
  subst hl
  unfold fzB
  simp
theorem nfz_int (k : IntKind) (n : Int) : V.noFz (.int k n) = true := id rfl
theorem nfz_bool (b : Bool) : V.noFz (.bool b) = true := id rfl
theorem nfz_str (s : ByteArray) : V.noFz (.str s) = true := id rfl
theorem nfz_fz (rows : List (List V)) : V.noFz (.fz rows) = false := id rfl
theorem nfz_agg (cs : List V) : V.noFz (.agg cs) = V.allNoFz cs := id rfl
theorem nfz_tup (cs : List V) : V.noFz (.tup cs) = V.allNoFz cs := id rfl
theorem nfz_nil : V.allNoFz [] = true := id rfl
theorem nfz_cons (v : V) (r : List V) : V.allNoFz (v :: r) = (V.noFz v && V.allNoFz r) := id rfl
end
attribute [go_sem] fzCall_some fzC_some fzArgs_nil fzArgs_cons fzJ_some fzArg_ms fzArg_nils fzArg_int fzArg_bool fzArg_str fzArg_fz fzArg_agg fzB_all nfz_int nfz_bool nfz_str nfz_fz nfz_agg nfz_tup nfz_nil nfz_cons
end Go.Proofs.Ytfdemnefkfkghaa.R
/- Chapter 27's laws: how deep a node is. -/
namespace Go.Proofs.Ytfdemnefkfkghaa.R
open Go Go.Proofs
set_option linter.unusedSimpArgs false
set_option linter.unusedVariables false
set_option maxRecDepth 10000
set_option maxHeartbeats 2000000

theorem lim172 (n : S93) (hn : fewN n) (hw : wfN n) : lim T fns 172 [.agg (k93.enc n)] [] = some (.int .u16 (deepN n), []) := by
  obtain ⟨_, _, h3, h4⟩ := hn
  obtain ⟨w3, w4⟩ := hw
  refine fn_rule (fn := fn172) rfl rfl (by simp [fn172]) ?_
  unfold fn172
  simp only [Try.f172, Option.getD_some, argEnv, List.map_nil, List.length_nil]
  cases h0 : n.f0 with
  | true =>
    simp only [go_sem, T_3, T_4, T_5, T_9, T_42, T_51, T_69, T_90, T_91, T_93, T_96, T_98, T_100, T_121, T_145, k93_enc, h0]
    simp [deepN, h0]
  | false =>
  simp only [go_sem, T_3, T_4, T_5, T_9, T_42, T_51, T_69, T_90, T_91, T_93, T_96, T_98, T_100, T_121, T_145, k93_enc, h0]
  refine loop_rule (ι := Nat × Int) (S := fun p => ⟨[(1, .ptr 0 0 0), (3, .int .u16 p.2), (11, .fz (n.f3.map k100.enc)), (12, .int .i64 n.f3.length), (13, .int .i64 p.1)], [some (.buf 5 [[.bool false, .fz (n.f1.map k145.enc), .fz (n.f2.map Cd.str.enc), .fz (n.f3.map k100.enc), .fz (n.f4.map k121.enc)]] false true)]⟩)
    (m := fun p => n.f3.length + 1 - p.1) (I := fun p => p.1 ≤ n.f3.length ∧ 0 ≤ p.2 ∧ p.2 ≤ 65535 ∧ deepK p.2 (n.f3.drop p.1) = deepK 0 n.f3) ?_ (0, 0) _ ⟨by simp, by simp, by simp, by simp⟩ (by kernel_rfl)
  rintro ⟨i, d⟩ ⟨hi, hd0, hd1, hd⟩
  simp only at hi hd0 hd1 hd
  by_cases hlt : i < n.f3.length
  · have hx : n.f3[i]? = some n.f3[i] := List.getElem?_eq_getElem hlt
    have hb := w3 n.f3[i] (List.getElem_mem hlt)
    rw [deepK_drop hlt] at hd
    simp only [go_sem, T_3, T_4, T_5, T_9, T_42, T_51, T_69, T_90, T_91, T_93, T_96, T_98, T_100, T_121, T_145, all100, hlt, hx, k100_enc, wrap_i64s (show i < 1000000000000000000 by omega)]
    exact ⟨(i + 1, if n.f3[i].f1 > d then n.f3[i].f1 else d), ⟨by simp only; omega, by simp only; split <;> omega, by simp only; split <;> omega, hd⟩, by simp only; omega, by kernel_rfl⟩
  rw [List.drop_eq_nil_of_le (by omega)] at hd
  have e1 : d = deepK 0 n.f3 := by rw [← hd]; rfl
  simp only [go_sem, T_3, T_4, T_5, T_9, T_42, T_51, T_69, T_90, T_91, T_93, T_96, T_98, T_100, T_121, T_145, hlt]
  refine loop_rule (ι := Nat × Int) (S := fun p => ⟨[(3, .int .u16 p.2), (23, .fz (n.f4.map k121.enc)), (24, .int .i64 n.f4.length), (25, .int .i64 p.1)], []⟩)
    (m := fun p => n.f4.length + 1 - p.1) (I := fun p => p.1 ≤ n.f4.length ∧ 0 ≤ p.2 ∧ p.2 ≤ 65535 ∧ deepM p.2 (n.f4.drop p.1) = deepM d n.f4) ?_ (0, d) _ ⟨by simp, hd0, hd1, by simp⟩ (by kernel_rfl)
  clear hlt hi
  rintro ⟨i, d2⟩ ⟨hi, hq0, hq1, hq⟩
  simp only at hi hq0 hq1 hq
  by_cases hlt : i < n.f4.length
  · have hx : n.f4[i]? = some n.f4[i] := List.getElem?_eq_getElem hlt
    have hb := w4 n.f4[i] (List.getElem_mem hlt)
    rw [deepM_drop hlt] at hq
    by_cases hk : n.f4[i].f0 = 3
    · have ek : (n.f4[i].f0 == 3) = true := by simp [hk]
      rw [if_pos hk] at hq
      simp only [go_sem, T_3, T_4, T_5, T_9, T_42, T_51, T_69, T_90, T_91, T_93, T_96, T_98, T_100, T_121, T_145, all121, hlt, hx, k121_enc, ek, wrap_i64s (show i < 1000000000000000000 by omega)]
      exact ⟨(i + 1, if n.f4[i].f4 > d2 then n.f4[i].f4 else d2), ⟨by simp only; omega, by simp only; split <;> omega, by simp only; split <;> omega, hq⟩, by simp only; omega, by kernel_rfl⟩
    · have ek : (n.f4[i].f0 == 3) = false := by simp [hk]
      rw [if_neg hk] at hq
      simp only [go_sem, T_3, T_4, T_5, T_9, T_42, T_51, T_69, T_90, T_91, T_93, T_96, T_98, T_100, T_121, T_145, all121, hlt, hx, k121_enc, ek, wrap_i64s (show i < 1000000000000000000 by omega)]
      exact ⟨(i + 1, d2), ⟨by simp only; omega, hq0, hq1, hq⟩, by simp only; omega, by kernel_rfl⟩
  · rw [List.drop_eq_nil_of_le (by omega)] at hq
    have e2 : d2 = deepM (deepK 0 n.f3) n.f4 := by rw [← e1, ← hq]; rfl
    have hN : deepN n = if d2 ≥ 65535 then 65535 else d2 + 1 := by rw [e2]; simp [deepN, h0]
    have hu : IntKind.u16.wrap ((if 65534 < d2 then 65534 else d2) + 1) = deepN n := by
      rw [hN]
      simp [IntKind.wrap, IntKind.signed, IntKind.bits]
      split <;> split <;> omega
    simp only [go_sem, T_3, T_4, T_5, T_9, T_42, T_51, T_69, T_90, T_91, T_93, T_96, T_98, T_100, T_121, T_145, hlt, hu]
theorem call172 (n : S93) (hn : fewN n) (hw : wfN n) (k : Nat) : callV (LX T fns) k (.clo 172 []) [.agg (k93.enc n)] = .pure (.int .u16 (deepN n), []) := callV_plain (fn := fn172) rfl rfl rfl (lim172 n hn hw) k
end Go.Proofs.Ytfdemnefkfkghaa.R
/- Chapter 27's laws: slices and calls. (printed by mk27.py out of R31a .. R31i) -/
namespace Go.Proofs.Ytfdemnefkfkghaa.R
open Go Go.Proofs
set_option linter.unusedSimpArgs false
set_option linter.unusedVariables false
set_option maxRecDepth 10000
set_option maxHeartbeats 4000000

attribute [go_sem] sliceR List.length_map cutS optNat Option.map_none Option.isSome_none Option.isNone_none Option.isNone_some Bool.and_true Bool.false_and Bool.and_false List.map_cons List.map_nil Nat.sub_zero Nat.zero_add Nat.add_zero Nat.sub_self capB Int.toNat_natCast
theorem one_cast : ((1 : Nat) : Int) = 1 := rfl
theorem wrap_add1 {n : Nat} (h : n < 1000000000000000000) : IntKind.i64.wrap ((n : Int) + ((1 : Nat) : Int)) = ((n + 1 : Nat) : Int) := wrap_i64s h
theorem wrap_sub {a b : Nat} (h : a < 1000000000000000000) (hb : b ≤ a) : IntKind.i64.wrap ((a : Int) - (b : Int)) = ((a - b : Nat) : Int) := by
  rw [wrap_i64 (by omega) (by omega)]
  omega
theorem cast_eq0 {n : Nat} : (((n : Nat) : Int) == ((0 : Nat) : Int)) = decide (n = 0) := by
  rw [Bool.eq_iff_iff]
  simp
theorem cast_beq {a b : Nat} : (((a : Nat) : Int) == ((b : Nat) : Int)) = decide (a = b) := by
  rw [Bool.eq_iff_iff]
  simp only [beq_iff_eq, decide_eq_true_eq]
  omega
theorem cast_lt {a b : Nat} : ((a : Int) < (b : Int)) = (a < b) := by simp
theorem append_grow {ti : TI} {n i st l c : Nat} {new : List (List V)} {np : Bool} {h : Heap} {tr : List Nat} {st' : Nat} {rows : List (List V)} {f p : Bool} (hat : h.at? i = some (.buf st' rows f p)) (h0 : new.length ≠ 0) (h1 : st = ti.size) (h2 : st' = ti.size) (h3 : l ≤ rows.length) (h4 : (l + new.length) * ti.bytes ≤ 140737488355328) (h5 : l + new.length ≤ 140737488355328) (h6 : c < l + new.length) :
    (appendR ti n (.ms i st 0 l (some c)) new np).run h tr = some ((.ms n st 0 (l + new.length) none, [(n, some (.buf st (rows.take l ++ new) false (p && np)))]), i :: tr) := by
  subst h1
  subst h2
  unfold appendR
  simp only [h0, if_false, if_true, Rd.run, hat]
  rw [if_pos ⟨trivial, by omega, h4, h5⟩]
  unfold appendM
  simp only
  rw [if_pos h6]
  simp [Rd.run]
theorem copy_fz {ti : TI} {i st o n : Nat} {c : Option Nat} {new : List (List V)} {h : Heap} {tr : List Nat} {st' : Nat} {rows : List (List V)} {p : Bool} (hat : h.at? i = some (.buf st' rows false p)) (h1 : st = ti.size) (h2 : st' = ti.size) (ha : (new.all fun r => r.length == ti.size) = true) (h3 : o + n ≤ rows.length) :
    (copyR ti (.ms i st o n c) (.fz new)).run h tr = some ((.int .i64 (min new.length n : Nat), [(i, some (.buf st (rows.take o ++ new.take n ++ rows.drop (o + min new.length n)) false p))]), i :: tr) := by
  subst h1
  subst h2
  unfold copyR
  simp only [if_true, rows?, ha, Rd.run, hat]
  rw [if_pos ⟨trivial, h3⟩]
  simp [Rd.run]
theorem copy_ms {ti : TI} {i st o n j o2 n2 : Nat} {c c2 : Option Nat} {h : Heap} {tr : List Nat} {st' st2 st2' : Nat} {rows rows2 : List (List V)} {f2 p p2 : Bool} (hat : h.at? i = some (.buf st' rows false p)) (h1 : st = ti.size) (h2 : st' = ti.size) (h3 : o + n ≤ rows.length)
    (hat2 : h.at? j = some (.buf st2' rows2 f2 p2)) (h4 : st2 = ti.size) (h5 : st2' = ti.size) (h6 : o2 + n2 ≤ rows2.length) :
    (copyR ti (.ms i st o n c) (.ms j st2 o2 n2 c2)).run h tr = some ((.int .i64 (min n2 n : Nat), [(i, some (.buf st (rows.take o ++ ((rows2.drop o2).take n2).take n ++ rows.drop (o + min n2 n)) false (p && p2)))]), i :: j :: tr) := by
  subst h1
  subst h2
  subst h4
  subst h5
  have hl : ((rows2.drop o2).take n2).length = n2 := by simp; omega
  unfold copyR
  simp only [if_true, rows?, Rd.run, hat2]
  rw [if_pos ⟨trivial, h6⟩]
  simp only [Rd.run, hat]
  rw [if_pos ⟨trivial, h3⟩]
  simp [Rd.run, hl]
theorem natOf_lit (k : IntKind) (n : Nat) : natOf (.int k (n : Int)) = some n := natOf_cast k n
/-- What slices.Insert does: zeros behind, the new one, the rest. -/
theorem ins_facts {ti : TI} {z kr : List V} {rows : List (List V)} {n i : Nat} {f : Bool} (hkr : kr.length = ti.size) (hl : rows.length = n) (hn : n < 1000000000000) (hi : i < n) (hb : ti.bytes ≤ 100) :
    (appendR ti 1 (.ms 0 ti.size 0 i (some n)) (List.replicate (n + 1 - i) z) true).run [some (.buf ti.size rows f true)] [] = some ((.ms 1 ti.size 0 (n + 1) none, [(1, some (.buf ti.size (rows.take i ++ List.replicate (n + 1 - i) z) false true))]), [0]) ∧
    (copyR ti (.ms 1 ti.size i (n + 1 - i) none) (.fz [kr])).run [some (.buf ti.size rows f true), some (.buf ti.size (rows.take i ++ List.replicate (n + 1 - i) z) false true)] [] = some ((.int .i64 ((min 1 (n + 1 - i) : Nat) : Int), [(1, some (.buf ti.size (rows.take i ++ [kr] ++ List.replicate (n - i) z) false true))]), [1]) ∧
    ∀ rest : Heap, (copyR ti (.ms 1 ti.size (i + 1) (n + 1 - (i + 1)) none) (.ms 0 ti.size i (n - i) (some (n - i)))).run (some (.buf ti.size rows f true) :: some (.buf ti.size (rows.take i ++ [kr] ++ List.replicate (n - i) z) false true) :: rest) [] = some ((.int .i64 ((min (n - i) (n + 1 - (i + 1)) : Nat) : Int), [(1, some (.buf ti.size (rows.take i ++ [kr] ++ rows.drop i) false true))]), [1, 0]) := by
  have hlt : (rows.take i).length = i := by simp; omega
  have hm : (n + 1) * ti.bytes ≤ (n + 1) * 100 := Nat.mul_le_mul_left _ hb
  refine ⟨?_, ?_, ?_⟩
  · have ha := append_grow (ti := ti) (n := 1) (i := 0) (st := ti.size) (l := i) (c := n) (new := List.replicate (n + 1 - i) z) (np := true) (h := [some (.buf ti.size rows f true)]) (tr := []) rfl (by simp; omega) rfl rfl (by omega) (by rw [List.length_replicate, show i + (n + 1 - i) = n + 1 by omega]; omega) (by simp; omega) (by simp; omega)
    rw [List.length_replicate, show i + (n + 1 - i) = n + 1 by omega] at ha
    exact ha
  · have hA : (rows.take i ++ List.replicate (n + 1 - i) z).length = n + 1 := by simp; omega
    have hc := copy_fz (ti := ti) (i := 1) (st := ti.size) (o := i) (n := n + 1 - i) (c := none) (new := [kr]) (tr := []) (h := [some (.buf ti.size rows f true), some (.buf ti.size (rows.take i ++ List.replicate (n + 1 - i) z) false true)]) rfl rfl rfl (by simp [hkr]) (by omega)
    rw [hc]
    have e1 : List.take i (rows.take i ++ List.replicate (n + 1 - i) z) = rows.take i := by rw [List.take_left' hlt]
    have e2 : List.drop (i + min 1 (n + 1 - i)) (rows.take i ++ List.replicate (n + 1 - i) z) = List.replicate (n - i) z := by
      rw [show i + min 1 (n + 1 - i) = i + 1 by omega, List.drop_append, hlt, List.drop_eq_nil_of_le (by omega), List.nil_append, List.drop_replicate]
      congr 1
      omega
    rw [e1, show [kr].length = 1 from rfl, e2, show List.take (n + 1 - i) [kr] = [kr] from List.take_of_length_le (by simp; omega)]
  · intro rest
    have hB : (rows.take i ++ [kr] ++ List.replicate (n - i) z).length = n + 1 := by simp; omega
    have hc := copy_ms (ti := ti) (i := 1) (st := ti.size) (o := i + 1) (n := n + 1 - (i + 1)) (c := none) (j := 0) (st2 := ti.size) (o2 := i) (n2 := n - i) (c2 := some (n - i)) (tr := []) (h := some (.buf ti.size rows f true) :: some (.buf ti.size (rows.take i ++ [kr] ++ List.replicate (n - i) z) false true) :: rest) rfl rfl rfl (by omega) rfl rfl rfl (by omega)
    rw [hc]
    have e3 : List.take (i + 1) (rows.take i ++ [kr] ++ List.replicate (n - i) z) = rows.take i ++ [kr] := by rw [List.take_left' (by simp; omega)]
    have e4 : List.drop (i + 1 + min (n - i) (n + 1 - (i + 1))) (rows.take i ++ [kr] ++ List.replicate (n - i) z) = [] := List.drop_eq_nil_of_le (by omega)
    rw [e3, e4, show ((rows.drop i).take (n - i)).take (n + 1 - (i + 1)) = rows.drop i by rw [List.take_of_length_le (by simp; omega), List.take_of_length_le (by simp; omega)], List.append_nil]
    rfl
theorem nan_no (a : ByteArray) : (!(a.toList == a.toList)) = false := by simp
theorem wrap_u64 {n : Nat} (h : n < 1000000000000000000) : IntKind.u64.wrap (n : Int) = n := by
  simp [IntKind.wrap, IntKind.signed, IntKind.bits]
  omega
theorem wrap_add2 {a b : Nat} (h : a + b < 1000000000000000000) : IntKind.i64.wrap ((a : Int) + (b : Int)) = ((a + b : Nat) : Int) := by
  rw [wrap_i64 (by omega) (by omega)]
  omega
theorem wrap_nat {n : Nat} (h : n < 1000000000000000000) : IntKind.i64.wrap (n : Int) = n := wrap_i64 (by omega) (by omega)
theorem half {i j : Nat} (h : i + j < 1000000000000000) : (IntKind.u64.wrap (IntKind.i64.wrap ((i : Int) + (j : Int)))).fdiv (2 ^ min (Int.toNat 1) 64) = (((i + j) / 2 : Nat) : Int) := by
  rw [wrap_add2 (by omega), wrap_u64 (by omega), show (2 : Int) ^ min (Int.toNat 1) 64 = 2 from rfl]
  rw [Int.fdiv_eq_ediv_of_nonneg _ (by omega)]
  omega
/-- A call whose arguments are plain once they are frozen, and such an answer. -/
theorem callV_leaf {T : TT} {fns : FuncId → Option AFn} {g : FuncId} {fn : AFn} (hfn : fns g = some fn) {args caps args' : List V} {u : Upd} {r : V} {h : Heap} {tr tr' : List Nat} {n : Nat} (hz : ∀ K : List V → Upd → Rd (V × Upd), (frzArgs (args ++ caps) fn.pfz K).run h tr = (K args' u).run h tr')
    (ha : V.allPlain args' = true) (hr : r.plain = true) (hf : r.noFz = true) (hl : lim T fns g args' [] = some (r, [])) : (callV (LX T fns) n (.clo g caps) args).run h tr = some ((r, []), tr') := by
  unfold callV
  simp only [hfn]
  unfold callR
  rw [hz, plainAll_ids _ ha]
  show (withR (lim T fns g) n args' u []).run h tr' = _
  unfold withR
  simp only [List.map_nil, upd1, List.contains_nil, Bool.not_false, List.all_nil, Bool.and_true, plainAll_re _ _ ha, pullObs, hl, List.length_nil, Nat.le_refl, if_true]
  rw [if_pos (by simp)]
  unfold afterR
  simp [plain_re _ _ hr, pushObs, hf, Rd.run]
def insAt {α : Type} (i : Nat) (x : α) (l : List α) : List α := l.take i ++ [x] ++ l.drop i
/-- A call that is handed no object, and answers with new ones. -/
theorem callV_newf {T : TT} {fns : FuncId → Option AFn} {g : FuncId} {fn : AFn} (hfn : fns g = some fn) {args caps args' : List V} {u us : Upd} {r r' : V} {H : Heap} {h : Heap} {tr tr' : List Nat} {n : Nat} (hz : ∀ K : List V → Upd → Rd (V × Upd), (frzArgs (args ++ caps) fn.pfz K).run h tr = (K args' u).run h tr')
    (ha : V.allPlain args' = true) (hl : lim T fns g args' [] = some (r, H)) (hr : V.re (back [] n H.length) r = some r') (hp : pushObs (back [] n H.length) H 0 = some us) (he : H.isEmpty = false) : (callV (LX T fns) n (.clo g caps) args).run h tr = some ((r', us ++ u), tr') := by
  unfold callV
  simp only [hfn]
  unfold callR
  rw [hz, plainAll_ids _ ha]
  show (withR (lim T fns g) n args' u []).run h tr' = _
  unfold withR
  simp only [List.map_nil, upd1, List.contains_nil, Bool.not_false, List.all_nil, Bool.and_true, plainAll_re _ _ ha, pullObs, hl, List.length_nil, Nat.zero_le, if_true]
  rw [if_pos (by simp)]
  unfold afterR
  simp [hr, hp, he, Rd.run]
/-- A call that is handed one object, which leads to no other one. -/
theorem callV_one {T : TT} {fns : FuncId → Option AFn} {g : FuncId} {fn : AFn} (hfn : fns g = some fn) {args caps args' args2 : List V} {u us : Upd} {r r' : V} {o : Ob} {H : Heap} {h : Heap} {tr tr' : List Nat} {n p : Nat} (hz : ∀ K : List V → Upd → Rd (V × Upd), (frzArgs (args ++ caps) fn.pfz K).run h tr = (K args' u).run h tr')
    (hat : h.at? p = some o) (hid : V.allIds args' = [p]) (ho : o.ids = []) (hu : (u.all fun q => !([p].contains q.1)) = true) (hpn : p < n) (h2 : V.reAll (idx [p]) args' = some args2) (h3 : o.re (idx [p]) = some o) (hl : lim T fns g args2 [o] = some (r, H)) (h1 : 1 ≤ H.length)
    (hr : V.re (back [p] n H.length) r = some r') (hp : pushObs (back [p] n H.length) H 0 = some us) : (callV (LX T fns) n (.clo g caps) args).run h tr = some ((r', us ++ u), p :: tr') := by
  unfold callV
  simp only [hfn]
  unfold callR
  rw [hz, hid]
  simp only [collect, List.map_nil, List.contains_nil, Bool.false_eq_true, if_false, Rd.run, hat, ho, List.nil_append, List.append_nil]
  unfold withR
  simp only [List.map_cons, List.map_nil, upd1, hu, List.all_cons, List.all_nil, hpn, decide_true, Bool.and_self, if_true, h2, pullObs, h3, Option.bind_some, Option.map_some, hl, List.length_cons, List.length_nil, Nat.zero_add, h1]
  unfold afterR
  simp only [hr, hp, List.isEmpty_cons, Bool.false_and, Bool.false_eq_true, if_false, Rd.run]
theorem insAt_map {α β : Type} {f : α → β} {i : Nat} {x : α} {l : List α} : insAt i (f x) (l.map f) = (insAt i x l).map f := by
  unfold insAt
  simp only [List.map_append, List.map_cons, List.map_nil, List.map_take, List.map_drop]
end Go.Proofs.Ytfdemnefkfkghaa.R
/- Numbers in order: where one stands among those that rise. -/
namespace Go.Proofs.Ytfdemnefkfkghaa.R
open Go
set_option linter.unusedVariables false
set_option linter.unusedSimpArgs false

def ltI (a b : Int) : Bool := decide (a < b)
theorem ltI_iff {a b : Int} : ltI a b = true ↔ a < b := decide_eq_true_iff
theorem ltI_no {a b : Int} : ltI a b = false ↔ ¬ a < b := decide_eq_false_iff_not
def risesI : List Int → Bool
  | a :: b :: r => ltI a b && risesI (b :: r)
  | _ => true
theorem risesI_tail {a : Int} {r : List Int} (h : risesI (a :: r) = true) : risesI r = true := by
  cases r with
  | nil => rfl
  | cons b r => simp only [risesI, Bool.and_eq_true] at h; exact h.2
theorem risesI_lt : ∀ {r : List Int} {a : Int}, risesI (a :: r) = true → ∀ x ∈ r, a < x
  | [], a, _, x, hx => by simp at hx
  | b :: r, a, h, x, hx => by
    simp only [risesI, Bool.and_eq_true, ltI_iff] at h
    rcases List.mem_cons.1 hx with rfl | hx
    · exact h.1
    · exact Int.lt_trans h.1 (risesI_lt h.2 x hx)
theorem risesI_cons {a : Int} {r : List Int} (h : risesI r = true) (k : ∀ x ∈ r, a < x) : risesI (a :: r) = true := by
  cases r with
  | nil => rfl
  | cons b r => simp only [risesI, Bool.and_eq_true, ltI_iff]; exact ⟨k b (.head _), h⟩
def posI (k : Int) : List Int → Nat
  | [] => 0
  | x :: r => if ltI x k = true then posI k r + 1 else 0
theorem posI_le (k : Int) : ∀ l : List Int, posI k l ≤ l.length
  | [] => Nat.le_refl _
  | x :: r => by
    have := posI_le k r
    simp only [posI, List.length_cons]
    split <;> omega
theorem posI_lt {k : Int} : ∀ {l : List Int}, risesI l = true → ∀ {h : Nat} (hh : h < l.length), ltI l[h] k = decide (h < posI k l)
  | [], _, h, hh => by simp at hh
  | x :: r, hr, h, hh => by
    simp only [posI]
    cases h with
    | zero =>
      simp only [List.getElem_cons_zero]
      split
      · rename_i e; rw [e]; simp
      · rename_i e; simp at e; rw [e]; simp
    | succ h =>
      simp only [List.getElem_cons_succ]
      split
      · rename_i e
        rw [posI_lt (risesI_tail hr) (by simpa using hh)]
        simp
      · rename_i e
        have hh' : h < r.length := by simpa using hh
        have h1 := risesI_lt hr _ (List.getElem_mem hh')
        rw [ltI_iff] at e
        rw [ltI_no.2 (by omega)]
        simp
def hasI (k : Int) (l : List Int) : Bool := match l[posI k l]? with
  | some x => decide (x = k)
  | none => false
theorem hasI_get {k : Int} {ks : List Int} (h : posI k ks < ks.length) : hasI k ks = decide (ks[posI k ks] = k) := by
  unfold hasI
  rw [List.getElem?_eq_getElem h]
theorem hasI_end {k : Int} {ks : List Int} (h : ks.length ≤ posI k ks) : hasI k ks = false := by
  unfold hasI
  rw [List.getElem?_eq_none h]
theorem hasI_lt {k : Int} {ks : List Int} (h : hasI k ks = true) : posI k ks < ks.length := by
  rcases Nat.lt_or_ge (posI k ks) ks.length with h1 | h1
  · exact h1
  · rw [hasI_end h1] at h; cases h
def gtI {α : Type} (z : α) (k : Int) (ks : List Int) (vs : List α) : α := if hasI k ks = true then (vs[posI k ks]?).getD z else z

section
variable {β : Type}
def lookI (k : Int) : List Int → List β → Option β
  | x :: r, v :: s => if x = k then some v else lookI k r s
  | _, _ => none
theorem lookI_gt {k : Int} : ∀ {ks : List Int} {vs : List β}, (∀ x ∈ ks, k < x) → lookI k ks vs = none
  | [], _, _ => by simp [lookI]
  | x :: r, [], _ => by simp [lookI]
  | x :: r, v :: s, h => by
    have h1 : ¬ x = k := fun e => by have := h x (.head _); omega
    simp only [lookI, h1, if_false]
    exact lookI_gt fun y hy => h y (.tail _ hy)
theorem posI_here {k x : Int} {r : List Int} (h : ¬ x < k) : posI k (x :: r) = 0 := by simp only [posI]; rw [if_neg (by rw [ltI_iff]; exact h)]
theorem posI_next {k x : Int} {r : List Int} (h : x < k) : posI k (x :: r) = posI k r + 1 := by simp only [posI]; rw [if_pos (ltI_iff.2 h)]
theorem hasI_here {k x : Int} {r : List Int} (h : ¬ x < k) : hasI k (x :: r) = decide (x = k) := by
  unfold hasI
  rw [posI_here h]
  rfl
theorem hasI_next {k x : Int} {r : List Int} (h : x < k) : hasI k (x :: r) = hasI k r := by
  unfold hasI
  rw [posI_next h]
  rfl
theorem lookI_get {k : Int} : ∀ {ks : List Int} {vs : List β}, risesI ks = true → vs.length = ks.length → lookI k ks vs = if hasI k ks = true then vs[posI k ks]? else none
  | [], vs, _, _ => by simp [lookI, hasI]
  | x :: r, [], _, h => by simp at h
  | x :: r, v :: s, hr, h => by
    simp only [lookI]
    by_cases h1 : x < k
    · rw [if_neg (by omega), hasI_next h1, posI_next h1, lookI_get (risesI_tail hr) (by simpa using h)]
      rfl
    · rw [hasI_here h1, posI_here h1]
      by_cases h2 : x = k
      · simp [h2]
      · simp [h2, lookI_gt (vs := s) fun y hy => (by have := risesI_lt hr y hy; omega : k < y)]
theorem lookI_has {k : Int} {ks : List Int} {vs : List β} (hr : risesI ks = true) (hl : vs.length = ks.length) : hasI k ks = (lookI k ks vs).isSome := by
  rw [lookI_get hr hl]
  cases h : hasI k ks with
  | false => rfl
  | true =>
    have : posI k ks < vs.length := by rw [hl]; exact hasI_lt h
    rw [if_pos rfl, List.getElem?_eq_getElem this]
    rfl
theorem gtI_look {z : β} {k : Int} {ks : List Int} {vs : List β} (hr : risesI ks = true) (hl : vs.length = ks.length) : gtI z k ks vs = (lookI k ks vs).getD z := by
  unfold gtI
  rw [lookI_get hr hl]
  cases h : hasI k ks with
  | true => rw [if_pos rfl, if_pos rfl]
  | false => simp
theorem lookI_set {k j : Int} {c : β} : ∀ {ks : List Int} {vs : List β}, risesI ks = true → vs.length = ks.length → hasI k ks = true → lookI j ks (vs.set (posI k ks) c) = if k = j then some c else lookI j ks vs
  | [], vs, _, _, hb => by simp [hasI] at hb
  | x :: r, [], _, h, _ => by simp at h
  | x :: r, v :: s, hr, h, hb => by
    by_cases h1 : x < k
    · rw [hasI_next h1] at hb
      rw [posI_next h1]
      simp only [List.set_cons_succ, lookI]
      rw [lookI_set (risesI_tail hr) (by simpa using h) hb]
      by_cases hx : x = j
      · have : ¬ k = j := by omega
        simp [hx, this]
      · simp [hx]
    · rw [hasI_here h1] at hb
      have hb : x = k := by simpa using hb
      subst hb
      rw [posI_here h1]
      simp only [List.set_cons_zero, lookI]
      split <;> rfl
theorem insI0 {α : Type} (x : α) (l : List α) : l.take 0 ++ [x] ++ l.drop 0 = x :: l := by simp
theorem insIS {α : Type} (i : Nat) (x y : α) (l : List α) : (y :: l).take (i + 1) ++ [x] ++ (y :: l).drop (i + 1) = y :: (l.take i ++ [x] ++ l.drop i) := by simp
theorem lookI_ins {k j : Int} {c : β} : ∀ {ks : List Int} {vs : List β}, risesI ks = true → vs.length = ks.length → hasI k ks = false →
    lookI j (ks.take (posI k ks) ++ [k] ++ ks.drop (posI k ks)) (vs.take (posI k ks) ++ [c] ++ vs.drop (posI k ks)) = if k = j then some c else lookI j ks vs
  | [], vs, _, h, _ => by
    obtain rfl : vs = [] := List.eq_nil_of_length_eq_zero (by simpa using h)
    simp [posI, lookI]
  | x :: r, [], _, h, _ => by simp at h
  | x :: r, v :: s, hr, h, hb => by
    by_cases h1 : x < k
    · rw [hasI_next h1] at hb
      rw [posI_next h1, insIS, insIS]
      simp only [lookI]
      rw [lookI_ins (risesI_tail hr) (by simpa using h) hb]
      by_cases hx : x = j
      · have : ¬ k = j := by omega
        simp [hx, this]
      · simp [hx]
    · rw [posI_here h1, insI0, insI0]
      simp only [lookI]
theorem insI_mem {α : Type} {i : Nat} {x y : α} {l : List α} (h : y ∈ l.take i ++ [x] ++ l.drop i) : y = x ∨ y ∈ l := by
  simp only [List.mem_append, List.mem_singleton] at h
  rcases h with (h | h) | h
  · exact .inr (List.mem_of_mem_take h)
  · exact .inl h
  · exact .inr (List.mem_of_mem_drop h)
theorem risesI_ins {k : Int} : ∀ {l : List Int}, risesI l = true → hasI k l = false → risesI (l.take (posI k l) ++ [k] ++ l.drop (posI k l)) = true
  | [], _, _ => rfl
  | x :: r, hr, hb => by
    by_cases h1 : x < k
    · rw [hasI_next h1] at hb
      rw [posI_next h1, insIS]
      refine risesI_cons (risesI_ins (risesI_tail hr) hb) fun y hy => ?_
      rcases insI_mem hy with rfl | hy
      · exact h1
      · exact risesI_lt hr y hy
    · rw [hasI_here h1] at hb
      have hb : ¬ x = k := by simpa using hb
      rw [posI_here h1, insI0]
      refine risesI_cons hr fun y hy => ?_
      rcases List.mem_cons.1 hy with rfl | hy
      · omega
      · have := risesI_lt hr y hy
        omega
end
end Go.Proofs.Ytfdemnefkfkghaa.R
/- Chapter 27's laws: a map of numbers to numbers. (printed by mk27.py out of R31a .. R31i) -/
namespace Go.Proofs.Ytfdemnefkfkghaa.R
open Go Go.Proofs
set_option linter.unusedSimpArgs false
set_option linter.unusedVariables false
set_option maxRecDepth 10000
set_option maxHeartbeats 4000000

theorem nanU (a : Int) : (a != a) = false := by simp
theorem lim216_lt (n i : Nat) (kr : List V) (rows : List (List V)) (f : Bool) (hk : kr.length = 1) (hl : rows.length = n) (hn : n < 1000000000000) (hi : i < n) : lim T fns 216 [.ms 0 1 0 n (some n), .int .i64 i, .fz [kr]] [.buf 1 rows f true] =
    some (.ms 1 1 0 (n + 1) none, [some (.buf 1 rows f true), some (.buf 1 (rows.take i ++ [kr] ++ rows.drop i) false true)]) := by
  refine fn_rule (fn := fn216) rfl rfl (by simp [fn216]) ?_
  unfold fn216
  simp only [Try.f216, Option.getD_some, argEnv, List.map_nil, List.length_nil]
  have hi' : i ≤ n := Nat.le_of_lt hi
  have hc1 : (0 : Int) ≤ ((n + 1 - i : Nat) : Int) ∧ (n + 1 - i) * 4 ≤ 140737488355328 ∧ ((n + 1 - i : Nat) : Int) ≤ 140737488355328 := ⟨by omega, by omega, by omega⟩
  obtain ⟨f1, f2, f3⟩ := ins_facts (ti := ⟨.int .u32, 1, 4, .int .u32 0⟩) (z := [.int .u32 0]) (kr := kr) (f := f) hk hl hn hi (by decide)
  simp only at f1 f2 f3
  simp only [go_sem, T_3, T_4, T_42, T_76, Nat.le_refl, Nat.zero_le, hi, hi', hl, cast_eq0, cast_beq, wrap_add1 (show n < 1000000000000000000 by omega), wrap_add1 (show i < 1000000000000000000 by omega), wrap_sub (show n + 1 < 1000000000000000000 by omega) (show i ≤ n + 1 by omega), natOf_lit, show ¬ i = n by omega, hc1, f1, f2, f3, show i ≤ n + 1 by omega, show i + 1 ≤ n + 1 by omega, hk]
  repeat (refine ⟨by kernel_rfl, ?_⟩)
  show _ = _
  kernel_rfl
theorem lim216_eq (n : Nat) (kr : List V) (rows : List (List V)) (f : Bool) (hk : kr.length = 1) (hl : rows.length = n) (hn : n < 1000000000000) : lim T fns 216 [.ms 0 1 0 n (some n), .int .i64 n, .fz [kr]] [.buf 1 rows f true] =
    some (.ms 1 1 0 (n + 1) none, [some (.buf 1 rows f true), some (.buf 1 (rows.take n ++ [kr]) false true)]) := by
  refine fn_rule (fn := fn216) rfl rfl (by simp [fn216]) ?_
  unfold fn216
  simp only [Try.f216, Option.getD_some, argEnv, List.map_nil, List.length_nil]
  have ha := append_grow (ti := ⟨.int .u32, 1, 4, .int .u32 0⟩) (n := 1) (i := 0) (st := 1) (l := n) (c := n) (new := [kr]) (np := true) (h := [some (.buf 1 rows f true)]) (tr := []) rfl (by simp) rfl rfl (by omega) (by simp; omega) (by simp; omega) (by simp)
  simp only [List.length_cons, List.length_nil, Nat.zero_add, Bool.and_self] at ha
  simp only [go_sem, T_3, T_4, T_42, T_76, Nat.le_refl, Nat.zero_le, hl, cast_eq0, cast_beq, natOf_lit, ha, hk]
  repeat (refine ⟨by kernel_rfl, ?_⟩)
  show _ = _
  kernel_rfl
theorem lim216 (n i : Nat) (kr : List V) (rows : List (List V)) (f : Bool) (hk : kr.length = 1) (hl : rows.length = n) (hn : n < 1000000000000) (hi : i ≤ n) : lim T fns 216 [.ms 0 1 0 n (some n), .int .i64 i, .fz [kr]] [.buf 1 rows f true] =
    some (.ms 1 1 0 (n + 1) none, [some (.buf 1 rows f true), some (.buf 1 (rows.take i ++ [kr] ++ rows.drop i) false true)]) := by
  rcases Nat.lt_or_ge i n with h | h
  · exact lim216_lt n i kr rows f hk hl hn h
  · obtain rfl : i = n := by omega
    rw [lim216_eq i kr rows f hk hl hn, List.drop_eq_nil_of_le (by omega), List.append_nil]
theorem lim217 (n : Nat) (rows : List (List V)) (f : Bool) (hn : n < 1000000000000) : lim T fns 217 [.ms 0 1 0 n none] [.buf 1 rows f true] = some (.ms 0 1 0 n (some n), [some (.buf 1 rows f true)]) := by
  refine fn_rule (fn := fn217) rfl rfl (by simp [fn217]) ?_
  unfold fn217
  simp only [Try.f217, Option.getD_some, argEnv, List.map_nil, List.length_nil]
  simp only [go_sem, T_42, T_76, Nat.le_refl, Nat.zero_le]
  show _ = _
  kernel_rfl
theorem lim176 (a : Int) : lim T fns 176 [.int .u32 a] [] = some (.bool false, []) := by
  refine fn_rule (fn := fn176) rfl rfl (by simp [fn176]) ?_
  unfold fn176
  simp only [Try.f176, Option.getD_some, argEnv, List.map_nil, List.length_nil]
  simp only [go_sem, T_42, nanU]
theorem call176 (a : Int) (n : Nat) : callV (LX T fns) n (.clo 176 []) [.int .u32 a] = .pure (.bool false, []) := callV_plain (fn := fn176) rfl rfl rfl (lim176 a) n
theorem lim203 (a : Int) : lim T fns 203 [.int .u32 a] [] = some (.bool false, []) := by
  refine fn_rule (fn := fn203) rfl rfl (by simp [fn203]) ?_
  unfold fn203
  simp only [Try.f203, Option.getD_some, argEnv, List.map_nil, List.length_nil]
  simp only [go_sem, T_42, nanU]
theorem call203 (a : Int) (n : Nat) : callV (LX T fns) n (.clo 203 []) [.int .u32 a] = .pure (.bool false, []) := callV_plain (fn := fn203) rfl rfl rfl (lim203 a) n
theorem lim175 (a b : Int) : lim T fns 175 [.int .u32 a, .int .u32 b] [] = some (.bool (ltI a b), []) := by
  refine fn_rule (fn := fn175) rfl rfl (by simp [fn175]) ?_
  unfold fn175
  simp only [Try.f175, Option.getD_some, argEnv, List.map_nil, List.length_nil]
  have hl : decide (a < b) = ltI a b := rfl
  simp only [go_sem, T_4, T_42, call203, hl]
theorem call175 (a b : Int) (n : Nat) : callV (LX T fns) n (.clo 175 []) [.int .u32 a, .int .u32 b] = .pure (.bool (ltI a b), []) := callV_plain (fn := fn175) rfl rfl rfl (lim175 a b) n
theorem lim121 (k : Int) (ks : List Int) (hr : risesI ks = true) (hl : ks.length < 1000000000000) : lim T fns 121 [.fz (ks.map (Cd.int .u32).enc), .int .u32 k] [] = some (.tup [.int .i64 (posI k ks), .bool (hasI k ks)], []) := by
  refine fn_rule (fn := fn121) rfl rfl (by simp [fn121]) ?_
  unfold fn121
  simp only [Try.f121, Option.getD_some, argEnv, List.map_nil, List.length_nil]
  simp only [go_sem, T_3, T_42, T_76, T_234]
  refine loop_rule (ι := Nat × Nat) (S := fun p => ⟨[(0, .fz (ks.map (Cd.int .u32).enc)), (1, .int .u32 k), (6, .int .i64 ks.length), (7, .int .i64 p.1), (8, .int .i64 p.2)], []⟩) (m := fun p => p.2 - p.1)
    (I := fun p => p.1 ≤ posI k ks ∧ posI k ks ≤ p.2 ∧ p.2 ≤ ks.length) ?_ (0, ks.length) _ ⟨by simp, posI_le k ks, Nat.le_refl _⟩ (by kernel_rfl)
  rintro ⟨i, j⟩ ⟨h1, h2, h3⟩
  simp only at h1 h2 h3
  by_cases hlt : i < j
  · have hm : (i + j) / 2 < ks.length := by omega
    have hx : ks[(i + j) / 2]? = some ks[(i + j) / 2] := List.getElem?_eq_getElem hm
    have hp := posI_lt (k := k) hr hm
    simp only [go_sem, T_3, T_42, T_76, T_234, hlt, show (0 : Int) ≤ 1 by decide, half (show i + j < 1000000000000000 by omega), wrap_nat (show (i + j) / 2 < 1000000000000000000 by omega), hm, hx, call175, hp, wrap_i64s (show (i + j) / 2 < 1000000000000000000 by omega)]
    split
    · rename_i hlt2
      exact ⟨((i + j) / 2 + 1, j), ⟨by simp only; omega, by simp only; omega, by simp only; omega⟩, by simp only; omega, by kernel_rfl⟩
    · rename_i hlt2
      exact ⟨(i, (i + j) / 2), ⟨by simp only; omega, by simp only; omega, by simp only; omega⟩, by simp only; omega, by kernel_rfl⟩
  · have hij : i = posI k ks := by omega
    by_cases hend : i < ks.length
    · have hx : ks[i]? = some ks[i] := List.getElem?_eq_getElem hend
      have hb : hasI k ks = decide (ks[i] = k) := by subst hij; exact hasI_get hend
      rw [hb, ← hij]
      by_cases he : ks[i] = k
      · have heb : (ks[i] == k) = true := by simpa using he
        simp only [go_sem, T_3, T_42, T_76, T_234, hlt, hend, hx, heb, call176]
        simp [he]
      · have heb : (ks[i] == k) = false := by simpa using he
        simp only [go_sem, T_3, T_42, T_76, T_234, hlt, hend, hx, heb, call176]
        simp [he]
    · rw [hasI_end (by omega), ← hij]
      simp only [go_sem, T_3, T_42, T_76, T_234, hlt, hend]
theorem call121 (k : Int) (ks : List Int) (hr : risesI ks = true) (hl : ks.length < 1000000000000) (n : Nat) : callV (LX T fns) n (.clo 121 []) [.fz (ks.map (Cd.int .u32).enc), .int .u32 k] = .pure (.tup [.int .i64 (posI k ks), .bool (hasI k ks)], []) :=
  callV_plain (fn := fn121) rfl rfl rfl (lim121 k ks hr hl) n
theorem call121_at {ks : List Int} {ex : List (List V)} {k : Int} {n p l : Nat} {c : Option Nat} {f : Bool} {h : Heap} {tr : List Nat} (hat : h.at? p = some (.buf 1 (ks.map (Cd.int .u32).enc ++ ex) f true)) (hl : l = ks.length) (hr : risesI ks = true) (hb : ks.length < 1000000000000) :
    (callV (LX T fns) n (.clo 121 []) [.ms p 1 0 l c, .int .u32 k]).run h tr = some ((.tup [.int .i64 (posI k ks), .bool (hasI k ks)], []), p :: tr) := by
  subst hl
  refine callV_leaf (fn := fn121) rfl (args' := [.fz (ks.map (Cd.int .u32).enc), .int .u32 k]) (u := [(p, some (.buf 1 (ks.map (Cd.int .u32).enc ++ ex) true true))]) (fun K => ?_) rfl rfl rfl (lim121 k ks hr hb)
  simp only [fn121, List.append_nil, frzArgs, frz, frzAll, frzG, frzGAll, ms2, msUp, frzG, frzGAll, ms2, msUp, Rd.run, hat, List.tail]
  rw [if_pos ⟨trivial, by simp⟩]
  simp only [List.drop_zero, List.nil_append, List.append_nil, List.singleton_append]
  rw [List.take_left' (by simp)]
/-- Keys (and what lies behind them). -/
def kobU (ks : List Int) (ex : List (List V)) (f : Bool) : Ob := .buf 1 (ks.map (Cd.int .u32).enc ++ ex) f true
def mobU (i j n : Nat) : Ob := .buf 2 [[.ms i 1 0 n none, .ms j 1 0 n none]] false false
def vobU (vs : List Int) (ex : List (List V)) (f : Bool) : Ob := .buf 1 (vs.map (Cd.int .u32).enc ++ ex) f true
theorem eqPU (i r o : Nat) : eqV T 239 (.ptr i r o) .nilp = some false := by
  unfold eqV
  rw [T_239]
theorem lim215 (k : Int) (ks : List Int) (vs : List Int) (ex ey : List (List V)) (f g : Bool) (hr : risesI ks = true) (hl : ks.length < 1000000000000) : lim T fns 215 [.ptr 0 0 0, .int .u32 k] [mobU 1 2 ks.length, kobU ks ex f, vobU vs ey g] =
    some (.tup [.int .i64 (posI k ks), .bool (hasI k ks)], [some (mobU 1 2 ks.length), some (kobU ks ex f), some (vobU vs ey g)]) := by
  refine fn_rule (fn := fn215) rfl rfl (by simp [fn215]) ?_
  unfold fn215
  simp only [Try.f215, Option.getD_some, argEnv, List.map_nil, List.length_nil]
  have hc := fun (n : Nat) (a : Option Ob) (rest : Heap) => call121_at (ks := ks) (k := k) (n := n) (p := 1) (l := ks.length) (c := none) (f := f) (h := a :: some (.buf 1 (ks.map (Cd.int .u32).enc ++ ex) f true) :: rest) (tr := []) rfl rfl hr hl
  simp only [mobU, kobU, vobU]
  simp only [go_sem, T_42, T_76, T_239, T_269, hc, eqPU, nilCheckR, extractR]
  show _ = _
  kernel_rfl
theorem call215 (k : Int) (ks : List Int) (vs : List Int) (ex ey : List (List V)) (f g : Bool) (hr : risesI ks = true) (hl : ks.length < 1000000000000) (n : Nat) (hn : 3 ≤ n) (rest : Heap) : (callV (LX T fns) n (.clo 215 []) [.ptr 0 0 0, .int .u32 k]).run (some (mobU 1 2 ks.length) :: some (kobU ks ex f) :: some (vobU vs ey g) :: rest) [] =
    some ((.tup [.int .i64 (posI k ks), .bool (hasI k ks)], [(0, some (mobU 1 2 ks.length)), (1, some (kobU ks ex f)), (2, some (vobU vs ey g))]), [2, 1, 0]) := by
  have h := lim215 k ks vs ex ey f g hr hl
  simp only [mobU, kobU, vobU] at h ⊢
  have hf : fns 215 = some fn215 := rfl
  unfold callV
  simp only [hf]
  unfold callR
  simp only [fn215, List.cons_append, List.nil_append, List.append_nil, frzArgs, frz, frzAll, frzG, frzGAll, ms2, msUp, List.tail]
  simp only [V.allIds, V.ids, List.append_nil, List.nil_append, collect, List.map_nil, List.contains_nil, Bool.false_eq_true, if_false, Rd.run, Heap.at?, Ob.ids, rowsIds, List.map_cons, List.cons_append, List.contains_cons, Nat.reduceBEq, Bool.or_self, Bool.or_false, Bool.false_or, Bool.or_true, Bool.true_or, if_true]
  unfold withR
  simp only [List.map_cons, List.map_nil, upd1, List.all_nil, List.all_cons, show 0 < n by omega, show 1 < n by omega, show 2 < n by omega, decide_true, Bool.and_self, if_true, V.reAll, V.re, idx, Nat.beq, cond_true, cond_false, Option.bind_some, Option.map_some, pullObs, Ob.re, reRows, Nat.reduceAdd, h, List.length_cons, List.length_nil, Nat.le_refl]
  unfold afterR
  simp only [V.re, V.reAll, pushObs, back, nth, Ob.re, reRows, Option.bind_some, Option.map_some, List.isEmpty_cons, Bool.false_and, Bool.false_eq_true, if_false, Rd.run, List.append_nil, Nat.reduceAdd]
def valU (x : Int) : V := .int .u32 x
def zU : Int := 0
theorem lim182 (k : Int) (ks : List Int) (vs : List Int) (ex ey : List (List V)) (f g : Bool) (hr : risesI ks = true) (hl : ks.length < 1000000000000) (hv : vs.length = ks.length) : lim T fns 182 [.ptr 0 0 0, .int .u32 k] [mobU 1 2 ks.length, kobU ks ex f, vobU vs ey g] =
    some (.tup [valU (gtI zU k ks vs), .bool (hasI k ks)], [some (mobU 1 2 ks.length), some (kobU ks ex f), some (vobU vs ey g)]) := by
  refine fn_rule (fn := fn182) rfl rfl (by simp [fn182]) ?_
  unfold fn182
  simp only [Try.f182, Option.getD_some, argEnv, List.map_nil, List.length_nil]
  have hc := fun (n : Nat) (hn : 3 ≤ n) (rest : Heap) => call215 k ks vs ex ey f g hr hl n hn rest
  cases hb : hasI k ks with
  | true =>
    have hp : posI k ks < vs.length := by rw [hv]; exact hasI_lt hb
    have hx : vs[posI k ks]? = some vs[posI k ks] := List.getElem?_eq_getElem hp
    have hy : (vs.map (Cd.int .u32).enc ++ ey)[posI k ks]? = some ((Cd.int .u32).enc vs[posI k ks]) := by
      rw [List.getElem?_append_left (by simpa using hp), List.getElem?_map, hx]
      rfl
    have hp2 : posI k ks < ks.length := by omega
    rw [hb] at hc
    simp only [mobU, kobU, vobU] at hc ⊢
    have hy : (vs.map (Cd.int .u32).enc ++ ey)[posI k ks]? = some [V.int .u32 vs[posI k ks]] := hy
    simp only [go_sem, T_4, T_42, T_76, T_239, T_269, hc, eqPU, nilCheckR, extractR, hx, hy, hp, hp2, hv, valU, gtI, hb, Option.getD_some]
    show _ = _
    kernel_rfl
  | false =>
    rw [hb] at hc
    simp only [mobU, kobU, vobU] at hc ⊢
    simp only [go_sem, T_4, T_42, T_76, T_239, T_269, hc, eqPU, nilCheckR, extractR, valU, gtI, hb, zU]
    show _ = _
    kernel_rfl
theorem call182 (k : Int) (ks : List Int) (vs : List Int) (ex ey : List (List V)) (f g : Bool) (hr : risesI ks = true) (hl : ks.length < 1000000000000) (hv : vs.length = ks.length) (n : Nat) (hn : 3 ≤ n) (rest : Heap) : (callV (LX T fns) n (.clo 182 []) [.ptr 0 0 0, .int .u32 k]).run (some (mobU 1 2 ks.length) :: some (kobU ks ex f) :: some (vobU vs ey g) :: rest) [] =
    some ((.tup [valU (gtI zU k ks vs), .bool (hasI k ks)], [(0, some (mobU 1 2 ks.length)), (1, some (kobU ks ex f)), (2, some (vobU vs ey g))]), [2, 1, 0]) := by
  have h := lim182 k ks vs ex ey f g hr hl hv
  simp only [mobU, kobU, vobU, valU] at h ⊢
  have hf : fns 182 = some fn182 := rfl
  unfold callV
  simp only [hf]
  unfold callR
  simp only [fn182, List.cons_append, List.nil_append, List.append_nil, frzArgs, frz, frzAll, frzG, frzGAll, ms2, msUp, List.tail]
  simp only [V.allIds, V.ids, List.append_nil, List.nil_append, collect, List.map_nil, List.contains_nil, Bool.false_eq_true, if_false, Rd.run, Heap.at?, Ob.ids, rowsIds, List.map_cons, List.cons_append, List.contains_cons, Nat.reduceBEq, Bool.or_self, Bool.or_false, Bool.false_or, Bool.or_true, Bool.true_or, if_true]
  unfold withR
  simp only [List.map_cons, List.map_nil, upd1, List.all_nil, List.all_cons, show 0 < n by omega, show 1 < n by omega, show 2 < n by omega, decide_true, Bool.and_self, if_true, V.reAll, V.re, idx, Nat.beq, cond_true, cond_false, Option.bind_some, Option.map_some, pullObs, Ob.re, reRows, Nat.reduceAdd, h, List.length_cons, List.length_nil, Nat.le_refl]
  unfold afterR
  simp only [V.re, V.reAll, pushObs, back, nth, Ob.re, reRows, Option.bind_some, Option.map_some, List.isEmpty_cons, Bool.false_and, Bool.false_eq_true, if_false, Rd.run, List.append_nil, Nat.reduceAdd]
theorem cloneU_at {n p l : Nat} {c : Option Nat} {rows : List (List V)} {f : Bool} {h : Heap} {tr : List Nat} (hat : h.at? p = some (.buf 1 rows f true)) (hl : l ≤ rows.length) (ha : ((rows.take l).all fun r => r.length == 1) = true) (hb : l < 1000000000000) :
    (callV (LX T fns) n (.clo 174 []) [.ms p 1 0 l c]).run h tr = some ((.ms n 1 0 l none, [(n, some (.buf 1 (rows.take l) false true)), (p, some (.buf 1 rows true true))]), p :: tr) := by
  have hlen : (rows.take l).length = l := by simp; omega
  refine callV_newf (fn := fn174) rfl (args' := [.fz (rows.take l)]) (u := [(p, some (.buf 1 rows true true))]) (us := [(n, some (.buf 1 (rows.take l) false true))]) (r := .ms 0 1 0 l none) (H := [some (.buf 1 (rows.take l) false true)]) (fun K => ?_) rfl ?_ ?_ ?_ rfl
  · simp only [fn174, List.append_nil, frzArgs, frz, frzAll, frzG, frzGAll, ms2, msUp, frzG, frzGAll, ms2, msUp, Rd.run, hat, List.tail]
    rw [if_pos ⟨trivial, by omega⟩]
    simp only [List.drop_zero, List.nil_append, List.append_nil]
  · refine lim_clone T fns (fn := fn174) rfl (st := 1) (bytes := 4) rfl ?_
    simp only [cloneFn]
    rw [if_pos ⟨by decide, ha, by omega⟩, hlen]
  · simp [V.re, back, nth]
  · simp [pushObs, back, nth, Ob.re]
theorem clipU_at {n p l : Nat} {rows : List (List V)} {f : Bool} {h : Heap} {tr : List Nat} (hat : h.at? p = some (.buf 1 rows f true)) (hpn : p < n) (hb : l < 1000000000000) :
    (callV (LX T fns) n (.clo 217 []) [.ms p 1 0 l none]).run h tr = some ((.ms p 1 0 l (some l), [(p, some (.buf 1 rows f true))]), p :: tr) := by
  have := callV_one (T := T) (fns := fns) (g := 217) (fn := fn217) rfl (args := [.ms p 1 0 l none]) (caps := []) (args' := [.ms p 1 0 l none]) (args2 := [.ms 0 1 0 l none]) (u := []) (us := [(p, some (.buf 1 rows f true))]) (r := .ms 0 1 0 l (some l)) (r' := .ms p 1 0 l (some l)) (o := .buf 1 rows f true) (H := [some (.buf 1 rows f true)]) (h := h) (tr := tr) (tr' := tr) (n := n) (p := p)
    (fun K => by simp only [fn217, List.append_nil, frzArgs, List.tail]) hat rfl rfl rfl hpn (by simp [V.reAll, V.re, idx]) rfl (lim217 l rows f hb) (Nat.le_refl _) (by simp [V.re, back, nth]) (by simp [pushObs, back, nth, Ob.re])
  simpa using this
theorem insU_at {n p q l i : Nat} {kr : List V} {rows : List (List V)} {f g : Bool} {h : Heap} {tr : List Nat} (hat : h.at? p = some (.buf 1 rows f true)) (hat2 : h.at? q = some (.buf 1 [kr] g true)) (hpq : q ≠ p) (hpn : p < n) (hk : kr.length = 1) (hl : rows.length = l) (hb : l < 1000000000000) (hi : i ≤ l) :
    (callV (LX T fns) n (.clo 216 []) [.ms p 1 0 l (some l), .int .i64 i, .ms q 1 0 1 none]).run h tr = some ((.ms n 1 0 (l + 1) none, [(p, some (.buf 1 rows f true)), (n, some (.buf 1 (rows.take i ++ [kr] ++ rows.drop i) false true)), (q, some (.buf 1 [kr] true true))]), p :: q :: tr) := by
  have := callV_one (T := T) (fns := fns) (g := 216) (fn := fn216) rfl (args := [.ms p 1 0 l (some l), .int .i64 i, .ms q 1 0 1 none]) (caps := []) (args' := [.ms p 1 0 l (some l), .int .i64 i, .fz [kr]]) (args2 := [.ms 0 1 0 l (some l), .int .i64 i, .fz [kr]]) (u := [(q, some (.buf 1 [kr] true true))]) (us := [(p, some (.buf 1 rows f true)), (n, some (.buf 1 (rows.take i ++ [kr] ++ rows.drop i) false true))])
    (r := .ms 1 1 0 (l + 1) none) (r' := .ms n 1 0 (l + 1) none) (o := .buf 1 rows f true) (H := [some (.buf 1 rows f true), some (.buf 1 (rows.take i ++ [kr] ++ rows.drop i) false true)]) (h := h) (tr := tr) (tr' := q :: tr) (n := n) (p := p)
    (fun K => by
      simp only [fn216, List.append_nil, frzArgs, frz, frzAll, frzG, frzGAll, ms2, msUp, frzG, frzGAll, ms2, msUp, Rd.run, hat2, List.tail]
      rw [if_pos ⟨trivial, by simp⟩]
      simp) hat (by simp [V.allIds, V.ids]) rfl (by simp [hpq]) hpn (by simp [V.reAll, V.re, idx]) rfl (lim216 l i kr rows f hk hl hb hi) (by simp) (by simp [V.re, back, nth]) (by simp [pushObs, back, nth, Ob.re])
  simpa using this
/-! As simp sees them: the objects first. -/
open Classical in
noncomputable def clU (n p l : Nat) (c : Option Nat) (h : Heap) (tr : List Nat) (x : Option Ob) : Option ((V × Upd) × List Nat) := match x with
  | some (.buf st rows _ true) => if st = 1 ∧ l ≤ rows.length ∧ ((rows.take l).all fun r => r.length == 1) = true ∧ l < 1000000000000 then some ((.ms n 1 0 l none, [(n, some (.buf 1 (rows.take l) false true)), (p, some (.buf 1 rows true true))]), p :: tr) else (callV (LX T fns) n (.clo 174 []) [.ms p 1 0 l c]).run h tr
  | _ => (callV (LX T fns) n (.clo 174 []) [.ms p 1 0 l c]).run h tr
theorem cloneU_look {n p l : Nat} {c : Option Nat} {h : Heap} {tr : List Nat} : (callV (LX T fns) n (.clo 174 []) [.ms p 1 0 l c]).run h tr = clU n p l c h tr (h.at? p) := by
  unfold clU
  split
  · rename_i st rows f hx
    split
    · rename_i hc
      obtain ⟨rfl, h1, h2, h3⟩ := hc
      exact cloneU_at hx h1 h2 h3
    · rfl
  · rfl
theorem cloneU_got {n p l : Nat} {c : Option Nat} {h : Heap} {tr : List Nat} {rows ex : List (List V)} {f : Bool} (h1 : rows.length = l) (h2 : (rows.all fun r => r.length == 1) = true) (h3 : l < 1000000000000) :
    clU n p l c h tr (some (.buf 1 (rows ++ ex) f true)) = some ((.ms n 1 0 l none, [(n, some (.buf 1 rows false true)), (p, some (.buf 1 (rows ++ ex) true true))]), p :: tr) := by
  have e : (rows ++ ex).take l = rows := List.take_left' h1
  unfold clU
  simp only
  rw [if_pos ⟨trivial, by simp; omega, by rw [e]; exact h2, h3⟩, e]
open Classical in
noncomputable def cpU (n p l : Nat) (h : Heap) (tr : List Nat) (x : Option Ob) : Option ((V × Upd) × List Nat) := match x with
  | some (.buf st rows f true) => if st = 1 ∧ p < n ∧ l < 1000000000000 then some ((.ms p 1 0 l (some l), [(p, some (.buf 1 rows f true))]), p :: tr) else (callV (LX T fns) n (.clo 217 []) [.ms p 1 0 l none]).run h tr
  | _ => (callV (LX T fns) n (.clo 217 []) [.ms p 1 0 l none]).run h tr
theorem clipU_look {n p l : Nat} {h : Heap} {tr : List Nat} : (callV (LX T fns) n (.clo 217 []) [.ms p 1 0 l none]).run h tr = cpU n p l h tr (h.at? p) := by
  unfold cpU
  split
  · rename_i st rows f hx
    split
    · rename_i hc
      obtain ⟨rfl, h1, h2⟩ := hc
      exact clipU_at hx h1 h2
    · rfl
  · rfl
theorem clipU_got {n p l : Nat} {h : Heap} {tr : List Nat} {rows : List (List V)} {f : Bool} (h1 : p < n) (h3 : l < 1000000000000) :
    cpU n p l h tr (some (.buf 1 rows f true)) = some ((.ms p 1 0 l (some l), [(p, some (.buf 1 rows f true))]), p :: tr) := by
  unfold cpU
  simp only
  rw [if_pos ⟨trivial, h1, h3⟩]
open Classical in
noncomputable def inU (n p q l i : Nat) (h : Heap) (tr : List Nat) (x y : Option Ob) : Option ((V × Upd) × List Nat) := match x, y with
  | some (.buf st rows f true), some (.buf st2 [kr] g true) => if st = 1 ∧ st2 = 1 ∧ q ≠ p ∧ p < n ∧ kr.length = 1 ∧ rows.length = l ∧ l < 1000000000000 ∧ i ≤ l then
      some ((.ms n 1 0 (l + 1) none, [(p, some (.buf 1 rows f true)), (n, some (.buf 1 (rows.take i ++ [kr] ++ rows.drop i) false true)), (q, some (.buf 1 [kr] true true))]), p :: q :: tr) else (callV (LX T fns) n (.clo 216 []) [.ms p 1 0 l (some l), .int .i64 i, .ms q 1 0 1 none]).run h tr
  | _, _ => (callV (LX T fns) n (.clo 216 []) [.ms p 1 0 l (some l), .int .i64 i, .ms q 1 0 1 none]).run h tr
theorem insU_look {n p q l i : Nat} {h : Heap} {tr : List Nat} : (callV (LX T fns) n (.clo 216 []) [.ms p 1 0 l (some l), .int .i64 i, .ms q 1 0 1 none]).run h tr = inU n p q l i h tr (h.at? p) (h.at? q) := by
  unfold inU
  split
  · rename_i st rows f st2 kr g hx hy
    split
    · rename_i hc
      obtain ⟨rfl, rfl, h1, h2, h3, h4, h5, h6⟩ := hc
      exact insU_at hx hy h1 h2 h3 h4 h5 h6
    · rfl
  · rfl
theorem insU_got {n p q l i : Nat} {h : Heap} {tr : List Nat} {rows : List (List V)} {kr : List V} {f g : Bool} (h1 : q ≠ p) (h2 : p < n) (h3 : kr.length = 1) (h4 : rows.length = l) (h5 : l < 1000000000000) (h6 : i ≤ l) :
    inU n p q l i h tr (some (.buf 1 rows f true)) (some (.buf 1 [kr] g true)) = some ((.ms n 1 0 (l + 1) none, [(p, some (.buf 1 rows f true)), (n, some (.buf 1 (insAt i kr rows) false true)), (q, some (.buf 1 [kr] true true))]), p :: q :: tr) := by
  unfold inU
  exact if_pos ⟨rfl, rfl, h1, h2, h3, h4, h5, h6⟩
attribute [go_sem] cloneU_look cloneU_got clipU_look clipU_got insU_look insU_got
theorem insAt_u32 {i : Nat} {x : Int} {l : List Int} : insAt i [V.int .u32 x] (l.map (Cd.int .u32).enc) = (insAt i x l).map (Cd.int .u32).enc := insAt_map (f := (Cd.int .u32).enc)
theorem lim183_new (k : Int) (c : Int) (ks : List Int) (vs : List Int) (ex ey : List (List V)) (f g : Bool) (hr : risesI ks = true) (hl : ks.length < 1000000000) (hv : vs.length = ks.length) (hb : hasI k ks = false) : lim T fns 183 [.ptr 0 0 0, .int .u32 k, valU c] [mobU 1 2 ks.length, kobU ks ex f, vobU vs ey g] =
    some (.bool true, [some (mobU 3 4 (ks.length + 1)), some (kobU ks ex true), some (vobU vs ey true), some (kobU (insAt (posI k ks) k ks) [] false), some (vobU (insAt (posI k ks) c vs) [] false)]) := by
  refine fn_rule (fn := fn183) rfl rfl (by simp [fn183]) ?_
  unfold fn183
  simp only [Try.f183, Option.getD_some, argEnv, List.map_nil, List.length_nil]
  have hc := fun (n : Nat) (hn : 3 ≤ n) (rest : Heap) => call215 k ks vs ex ey f g hr (by omega) n hn rest
  have hp := posI_le k ks
  have hl12 : ks.length < 1000000000000 := by omega
  rw [hb] at hc
  simp only [mobU, kobU, vobU, List.append_nil] at hc ⊢
  simp only [go_sem, T_1, T_3, T_42, T_76, T_239, T_269, hc, eqPU, nilCheckR, extractR, hv, hp, hl12, valU, all_int, insAt_u32, buildSliceR, fillR, List.replicate, List.set_cons_zero, ne_eq, Nat.reduceEqDiff]
  repeat (refine ⟨by kernel_rfl, ?_⟩)
  show _ = _
  kernel_rfl
theorem lim183_old (k : Int) (c : Int) (ks : List Int) (vs : List Int) (ex ey : List (List V)) (f g : Bool) (hr : risesI ks = true) (hl : ks.length < 1000000000) (hv : vs.length = ks.length) (hb : hasI k ks = true) : lim T fns 183 [.ptr 0 0 0, .int .u32 k, valU c] [mobU 1 2 ks.length, kobU ks ex f, vobU vs ey g] =
    some (.bool false, [some (mobU 1 3 ks.length), some (kobU ks ex f), some (vobU vs ey true), some (vobU (vs.set (posI k ks) c) [] false)]) := by
  refine fn_rule (fn := fn183) rfl rfl (by simp [fn183]) ?_
  unfold fn183
  simp only [Try.f183, Option.getD_some, argEnv, List.map_nil, List.length_nil]
  have hc := fun (n : Nat) (hn : 3 ≤ n) (rest : Heap) => call215 k ks vs ex ey f g hr (by omega) n hn rest
  have hp2 := hasI_lt hb
  have hp : posI k ks < vs.length := by omega
  have hl12 : ks.length < 1000000000000 := by omega
  have hx : vs[posI k ks]? = some vs[posI k ks] := List.getElem?_eq_getElem hp
  rw [hb] at hc
  simp only [mobU, kobU, vobU, List.append_nil] at hc ⊢
  simp only [go_sem, T_1, T_3, T_42, T_76, T_239, T_269, hc, eqPU, nilCheckR, extractR, hv, hp, hp2, hl12, hx, valU, all_int, ne_eq, Nat.reduceEqDiff]
  repeat (refine ⟨by kernel_rfl, ?_⟩)
  rw [show [V.int .u32 c] = (Cd.int .u32).enc c from rfl, ← List.map_set]
  show _ = _
  kernel_rfl
theorem call183_new (k : Int) (c : Int) (ks : List Int) (vs : List Int) (ex ey : List (List V)) (f g : Bool) (hr : risesI ks = true) (hl : ks.length < 1000000000) (hv : vs.length = ks.length) (hb : hasI k ks = false) (n : Nat) (hn : 3 ≤ n) (rest : Heap) :
    (callV (LX T fns) n (.clo 183 []) [.ptr 0 0 0, .int .u32 k, valU c]).run (some (mobU 1 2 ks.length) :: some (kobU ks ex f) :: some (vobU vs ey g) :: rest) [] =
    some ((.bool true, [(0, some (mobU n (n + 1) (ks.length + 1))), (1, some (kobU ks ex true)), (2, some (vobU vs ey true)), (n, some (kobU (insAt (posI k ks) k ks) [] false)), (n + 1, some (vobU (insAt (posI k ks) c vs) [] false))]), [2, 1, 0]) := by
  have h := lim183_new k c ks vs ex ey f g hr hl hv hb
  simp only [mobU, kobU, vobU, valU, List.append_nil] at h ⊢
  have hf : fns 183 = some fn183 := rfl
  unfold callV
  simp only [hf]
  unfold callR
  simp only [fn183, List.cons_append, List.nil_append, List.append_nil, frzArgs, frz, frzAll, frzG, frzGAll, ms2, msUp, List.tail]
  simp only [V.allIds, V.ids, List.append_nil, List.nil_append, collect, List.map_nil, List.contains_nil, Bool.false_eq_true, if_false, Rd.run, Heap.at?, Ob.ids, rowsIds, List.map_cons, List.cons_append, List.contains_cons, Nat.reduceBEq, Bool.or_self, Bool.or_false, Bool.false_or, Bool.or_true, Bool.true_or, if_true]
  unfold withR
  simp only [List.map_cons, List.map_nil, upd1, List.all_nil, List.all_cons, show 0 < n by omega, show 1 < n by omega, show 2 < n by omega, decide_true, Bool.and_self, if_true, V.reAll, V.re, idx, Nat.beq, cond_true, cond_false, Option.bind_some, Option.map_some, pullObs, Ob.re, reRows, Nat.reduceAdd, h, List.length_cons, List.length_nil, Nat.le_refl]
  unfold afterR
  simp only [V.re, V.reAll, pushObs, back, nth, Ob.re, reRows, Option.bind_some, Option.map_some, List.isEmpty_cons, Bool.false_and, Bool.false_eq_true, if_false, Rd.run, List.append_nil, Nat.reduceAdd]
  simp only [List.length_cons, List.length_nil, Nat.zero_add, Nat.reduceAdd, Nat.reduceLT, Nat.reduceLeDiff, if_true, Option.map_some, Option.bind_some, Nat.reduceSub, Nat.sub_self, Nat.add_zero]
  show _ = _
  kernel_rfl
theorem call183_old (k : Int) (c : Int) (ks : List Int) (vs : List Int) (ex ey : List (List V)) (f g : Bool) (hr : risesI ks = true) (hl : ks.length < 1000000000) (hv : vs.length = ks.length) (hb : hasI k ks = true) (n : Nat) (hn : 3 ≤ n) (rest : Heap) :
    (callV (LX T fns) n (.clo 183 []) [.ptr 0 0 0, .int .u32 k, valU c]).run (some (mobU 1 2 ks.length) :: some (kobU ks ex f) :: some (vobU vs ey g) :: rest) [] =
    some ((.bool false, [(0, some (mobU 1 n ks.length)), (1, some (kobU ks ex f)), (2, some (vobU vs ey true)), (n, some (vobU (vs.set (posI k ks) c) [] false))]), [2, 1, 0]) := by
  have h := lim183_old k c ks vs ex ey f g hr hl hv hb
  simp only [mobU, kobU, vobU, valU, List.append_nil] at h ⊢
  have hf : fns 183 = some fn183 := rfl
  unfold callV
  simp only [hf]
  unfold callR
  simp only [fn183, List.cons_append, List.nil_append, List.append_nil, frzArgs, frz, frzAll, frzG, frzGAll, ms2, msUp, List.tail]
  simp only [V.allIds, V.ids, List.append_nil, List.nil_append, collect, List.map_nil, List.contains_nil, Bool.false_eq_true, if_false, Rd.run, Heap.at?, Ob.ids, rowsIds, List.map_cons, List.cons_append, List.contains_cons, Nat.reduceBEq, Bool.or_self, Bool.or_false, Bool.false_or, Bool.or_true, Bool.true_or, if_true]
  unfold withR
  simp only [List.map_cons, List.map_nil, upd1, List.all_nil, List.all_cons, show 0 < n by omega, show 1 < n by omega, show 2 < n by omega, decide_true, Bool.and_self, if_true, V.reAll, V.re, idx, Nat.beq, cond_true, cond_false, Option.bind_some, Option.map_some, pullObs, Ob.re, reRows, Nat.reduceAdd, h, List.length_cons, List.length_nil, Nat.le_refl]
  unfold afterR
  simp only [V.re, V.reAll, pushObs, back, nth, Ob.re, reRows, Option.bind_some, Option.map_some, List.isEmpty_cons, Bool.false_and, Bool.false_eq_true, if_false, Rd.run, List.append_nil, Nat.reduceAdd]
  simp only [List.length_cons, List.length_nil, Nat.zero_add, Nat.reduceAdd, Nat.reduceLT, Nat.reduceLeDiff, if_true, Option.map_some, Option.bind_some, Nat.reduceSub, Nat.sub_self, Nat.add_zero]
  show _ = _
  kernel_rfl
theorem lim180 : lim T fns 180 [] [] = some (.ptr 0 0 0, [some (.buf 2 [[.nils, .nils]] false true)]) := by
  refine fn_rule (fn := fn180) rfl rfl (by simp [fn180]) ?_
  unfold fn180
  simp only [Try.f180, Option.getD_some, argEnv, List.map_nil, List.length_nil]
  simp only [go_sem, T_42, T_76, T_269]
  show _ = _
  kernel_rfl
theorem call180 {n : Nat} {h : Heap} {tr : List Nat} : (callV (LX T fns) n (.clo 180 []) []).run h tr = some ((.ptr n 0 0, [(n, some (.buf 2 [[.nils, .nils]] false true))]), tr) :=
  callV_newf (fn := fn180) rfl (args' := []) (u := []) (us := [(n, some (.buf 2 [[.nils, .nils]] false true))]) (fun K => by simp only [fn180, List.append_nil, frzArgs]) rfl lim180 (by simp [V.re, back, nth]) (by simp [pushObs, back, nth, Ob.re]) rfl
theorem lim218 (ks : List Int) (vs : List Int) (ex ey : List (List V)) (f g : Bool) : lim T fns 218 [.ptr 0 0 0, .int .i64 0] [mobU 1 2 ks.length, kobU ks ex f, vobU vs ey g] =
    some (.clo 235 [.ptr 3 0 0, .ptr 4 0 0], [some (mobU 1 2 ks.length), some (kobU ks ex f), some (vobU vs ey g), some (.buf 1 [[.ptr 0 0 0]] false false), some (.buf 1 [[.int .i64 0]] false true)]) := by
  refine fn_rule (fn := fn218) rfl rfl (by simp [fn218]) ?_
  unfold fn218
  simp only [Try.f218, Option.getD_some, argEnv, List.map_nil, List.length_nil]
  simp only [mobU, kobU, vobU]
  simp only [go_sem, T_3, T_239]
  show _ = _
  kernel_rfl
theorem call218 (ks : List Int) (vs : List Int) (ex ey : List (List V)) (f g : Bool) (n : Nat) (hn : 3 ≤ n) (rest : Heap) :
    (callV (LX T fns) n (.clo 218 []) [.ptr 0 0 0, .int .i64 0]).run (some (mobU 1 2 ks.length) :: some (kobU ks ex f) :: some (vobU vs ey g) :: rest) [] =
    some ((.clo 235 [.ptr n 0 0, .ptr (n + 1) 0 0], [(0, some (mobU 1 2 ks.length)), (1, some (kobU ks ex f)), (2, some (vobU vs ey g)), (n, some (.buf 1 [[.ptr 0 0 0]] false false)), (n + 1, some (.buf 1 [[.int .i64 0]] false true))]), [2, 1, 0]) := by
  have h := lim218 ks vs ex ey f g
  simp only [mobU, kobU, vobU] at h ⊢
  have hf : fns 218 = some fn218 := rfl
  unfold callV
  simp only [hf]
  unfold callR
  simp only [fn218, List.cons_append, List.nil_append, List.append_nil, frzArgs, frz, frzAll, frzG, frzGAll, ms2, msUp, List.tail]
  simp only [V.allIds, V.ids, List.append_nil, List.nil_append, collect, List.map_nil, List.contains_nil, Bool.false_eq_true, if_false, Rd.run, Heap.at?, Ob.ids, rowsIds, List.map_cons, List.cons_append, List.contains_cons, Nat.reduceBEq, Bool.or_self, Bool.or_false, Bool.false_or, Bool.or_true, Bool.true_or, if_true]
  unfold withR
  simp only [List.map_cons, List.map_nil, upd1, List.all_nil, List.all_cons, show 0 < n by omega, show 1 < n by omega, show 2 < n by omega, decide_true, Bool.and_self, if_true, V.reAll, V.re, idx, Nat.beq, cond_true, cond_false, Option.bind_some, Option.map_some, pullObs, Ob.re, reRows, Nat.reduceAdd, h, List.length_cons, List.length_nil, Nat.le_refl]
  unfold afterR
  simp only [V.re, V.reAll, pushObs, back, nth, Ob.re, reRows, Option.bind_some, Option.map_some, List.isEmpty_cons, Bool.false_and, Bool.false_eq_true, if_false, Rd.run, List.append_nil, Nat.reduceAdd]
  simp only [List.length_cons, List.length_nil, Nat.zero_add, Nat.reduceAdd, Nat.reduceLT, Nat.reduceLeDiff, if_true, Option.map_some, Option.bind_some, Nat.reduceSub, Nat.sub_self, Nat.add_zero]
  show _ = _
  kernel_rfl
theorem lim184 (ks : List Int) (vs : List Int) (ex ey : List (List V)) (f g : Bool) : lim T fns 184 [.ptr 0 0 0] [mobU 1 2 ks.length, kobU ks ex f, vobU vs ey g] =
    some (.clo 235 [.ptr 3 0 0, .ptr 4 0 0], [some (mobU 1 2 ks.length), some (kobU ks ex f), some (vobU vs ey g), some (.buf 1 [[.ptr 0 0 0]] false false), some (.buf 1 [[.int .i64 0]] false true)]) := by
  refine fn_rule (fn := fn184) rfl rfl (by simp [fn184]) ?_
  unfold fn184
  simp only [Try.f184, Option.getD_some, argEnv, List.map_nil, List.length_nil]
  have hc := fun (n : Nat) (hn : 3 ≤ n) (rest : Heap) => call218 ks vs ex ey f g n hn rest
  simp only [mobU, kobU, vobU] at hc ⊢
  simp only [go_sem, T_3, T_239, hc]
  show _ = _
  kernel_rfl
theorem call184 (ks : List Int) (vs : List Int) (ex ey : List (List V)) (f g : Bool) (n : Nat) (hn : 3 ≤ n) (rest : Heap) :
    (callV (LX T fns) n (.clo 184 []) [.ptr 0 0 0]).run (some (mobU 1 2 ks.length) :: some (kobU ks ex f) :: some (vobU vs ey g) :: rest) [] =
    some ((.clo 235 [.ptr n 0 0, .ptr (n + 1) 0 0], [(0, some (mobU 1 2 ks.length)), (1, some (kobU ks ex f)), (2, some (vobU vs ey g)), (n, some (.buf 1 [[.ptr 0 0 0]] false false)), (n + 1, some (.buf 1 [[.int .i64 0]] false true))]), [2, 1, 0]) := by
  have h := lim184 ks vs ex ey f g
  simp only [mobU, kobU, vobU] at h ⊢
  have hf : fns 184 = some fn184 := rfl
  unfold callV
  simp only [hf]
  unfold callR
  simp only [fn184, List.cons_append, List.nil_append, List.append_nil, frzArgs, frz, frzAll, frzG, frzGAll, ms2, msUp, List.tail]
  simp only [V.allIds, V.ids, List.append_nil, List.nil_append, collect, List.map_nil, List.contains_nil, Bool.false_eq_true, if_false, Rd.run, Heap.at?, Ob.ids, rowsIds, List.map_cons, List.cons_append, List.contains_cons, Nat.reduceBEq, Bool.or_self, Bool.or_false, Bool.false_or, Bool.or_true, Bool.true_or, if_true]
  unfold withR
  simp only [List.map_cons, List.map_nil, upd1, List.all_nil, List.all_cons, show 0 < n by omega, show 1 < n by omega, show 2 < n by omega, decide_true, Bool.and_self, if_true, V.reAll, V.re, idx, Nat.beq, cond_true, cond_false, Option.bind_some, Option.map_some, pullObs, Ob.re, reRows, Nat.reduceAdd, h, List.length_cons, List.length_nil, Nat.le_refl]
  unfold afterR
  simp only [V.re, V.reAll, pushObs, back, nth, Ob.re, reRows, Option.bind_some, Option.map_some, List.isEmpty_cons, Bool.false_and, Bool.false_eq_true, if_false, Rd.run, List.append_nil, Nat.reduceAdd]
  simp only [List.length_cons, List.length_nil, Nat.zero_add, Nat.reduceAdd, Nat.reduceLT, Nat.reduceLeDiff, if_true, Option.map_some, Option.bind_some, Nat.reduceSub, Nat.sub_self, Nat.add_zero]
  show _ = _
  kernel_rfl
end Go.Proofs.Ytfdemnefkfkghaa.R
/- Chapter 27's laws: how often blocks are named, the program's way. -/
namespace Go.Proofs.Ytfdemnefkfkghaa.R
open Go Go.Proofs
set_option linter.unusedSimpArgs false
set_option linter.unusedVariables false
set_option maxRecDepth 10000
set_option maxHeartbeats 4000000

def cell1 : Ob := .buf 1 [[.ptr 1 0 0]] false false
theorem call182_1 (k : Int) (ks : List Int) (vs : List Int) (ex ey : List (List V)) (f g : Bool) (hr : risesI ks = true) (hl : ks.length < 1000000000000) (hv : vs.length = ks.length) (n : Nat) (hn : 4 ≤ n) (o0 : Option Ob) (rest : Heap) : (callV (LX T fns) n (.clo 182 []) [.ptr 1 0 0, .int .u32 k]).run (o0 :: some (mobU 2 3 ks.length) :: some (kobU ks ex f) :: some (vobU vs ey g) :: rest) [] =
    some ((.tup [valU (gtI zU k ks vs), .bool (hasI k ks)], [(1, some (mobU 2 3 ks.length)), (2, some (kobU ks ex f)), (3, some (vobU vs ey g))]), [3, 2, 1]) := by
  have h := lim182 k ks vs ex ey f g hr hl hv
  simp only [mobU, kobU, vobU, valU] at h ⊢
  have hf : fns 182 = some fn182 := rfl
  unfold callV
  simp only [hf]
  unfold callR
  simp only [fn182, List.cons_append, List.nil_append, List.append_nil, frzArgs, frz, frzAll, frzG, frzGAll, ms2, msUp, List.tail]
  simp only [V.allIds, V.ids, List.append_nil, List.nil_append, collect, List.map_nil, List.contains_nil, Bool.false_eq_true, if_false, Rd.run, Heap.at?, Ob.ids, rowsIds, List.map_cons, List.cons_append, List.contains_cons, Nat.reduceBEq, Bool.or_self, Bool.or_false, Bool.false_or, Bool.or_true, Bool.true_or, if_true]
  unfold withR
  simp only [List.map_cons, List.map_nil, upd1, List.all_nil, List.all_cons, show 1 < n by omega, show 2 < n by omega, show 3 < n by omega, decide_true, Bool.and_self, if_true, V.reAll, V.re, idx, Nat.beq, cond_true, cond_false, Option.bind_some, Option.map_some, pullObs, Ob.re, reRows, Nat.reduceAdd, h, List.length_cons, List.length_nil, Nat.le_refl]
  unfold afterR
  simp only [V.re, V.reAll, pushObs, back, nth, Ob.re, reRows, Option.bind_some, Option.map_some, List.isEmpty_cons, Bool.false_and, Bool.false_eq_true, if_false, Rd.run, List.append_nil, Nat.reduceAdd]
theorem call183_new1 (k : Int) (c : Int) (ks : List Int) (vs : List Int) (ex ey : List (List V)) (f g : Bool) (hr : risesI ks = true) (hl : ks.length < 1000000000) (hv : vs.length = ks.length) (hb : hasI k ks = false) (n : Nat) (hn : 4 ≤ n) (o0 : Option Ob) (rest : Heap) :
    (callV (LX T fns) n (.clo 183 []) [.ptr 1 0 0, .int .u32 k, valU c]).run (o0 :: some (mobU 2 3 ks.length) :: some (kobU ks ex f) :: some (vobU vs ey g) :: rest) [] =
    some ((.bool true, [(1, some (mobU n (n + 1) (ks.length + 1))), (2, some (kobU ks ex true)), (3, some (vobU vs ey true)), (n, some (kobU (insAt (posI k ks) k ks) [] false)), (n + 1, some (vobU (insAt (posI k ks) c vs) [] false))]), [3, 2, 1]) := by
  have h := lim183_new k c ks vs ex ey f g hr hl hv hb
  simp only [mobU, kobU, vobU, valU, List.append_nil] at h ⊢
  have hf : fns 183 = some fn183 := rfl
  unfold callV
  simp only [hf]
  unfold callR
  simp only [fn183, List.cons_append, List.nil_append, List.append_nil, frzArgs, frz, frzAll, frzG, frzGAll, ms2, msUp, List.tail]
  simp only [V.allIds, V.ids, List.append_nil, List.nil_append, collect, List.map_nil, List.contains_nil, Bool.false_eq_true, if_false, Rd.run, Heap.at?, Ob.ids, rowsIds, List.map_cons, List.cons_append, List.contains_cons, Nat.reduceBEq, Bool.or_self, Bool.or_false, Bool.false_or, Bool.or_true, Bool.true_or, if_true]
  unfold withR
  simp only [List.map_cons, List.map_nil, upd1, List.all_nil, List.all_cons, show 1 < n by omega, show 2 < n by omega, show 3 < n by omega, decide_true, Bool.and_self, if_true, V.reAll, V.re, idx, Nat.beq, cond_true, cond_false, Option.bind_some, Option.map_some, pullObs, Ob.re, reRows, Nat.reduceAdd, h, List.length_cons, List.length_nil, Nat.le_refl]
  unfold afterR
  simp only [V.re, V.reAll, pushObs, back, nth, Ob.re, reRows, Option.bind_some, Option.map_some, List.isEmpty_cons, Bool.false_and, Bool.false_eq_true, if_false, Rd.run, List.append_nil, Nat.reduceAdd]
  simp only [List.length_cons, List.length_nil, Nat.zero_add, Nat.reduceAdd, Nat.reduceLT, Nat.reduceLeDiff, if_true, Option.map_some, Option.bind_some, Nat.reduceSub, Nat.sub_self, Nat.add_zero]
  show _ = _
  kernel_rfl
theorem call183_old1 (k : Int) (c : Int) (ks : List Int) (vs : List Int) (ex ey : List (List V)) (f g : Bool) (hr : risesI ks = true) (hl : ks.length < 1000000000) (hv : vs.length = ks.length) (hb : hasI k ks = true) (n : Nat) (hn : 4 ≤ n) (o0 : Option Ob) (rest : Heap) :
    (callV (LX T fns) n (.clo 183 []) [.ptr 1 0 0, .int .u32 k, valU c]).run (o0 :: some (mobU 2 3 ks.length) :: some (kobU ks ex f) :: some (vobU vs ey g) :: rest) [] =
    some ((.bool false, [(1, some (mobU 2 n ks.length)), (2, some (kobU ks ex f)), (3, some (vobU vs ey true)), (n, some (vobU (vs.set (posI k ks) c) [] false))]), [3, 2, 1]) := by
  have h := lim183_old k c ks vs ex ey f g hr hl hv hb
  simp only [mobU, kobU, vobU, valU, List.append_nil] at h ⊢
  have hf : fns 183 = some fn183 := rfl
  unfold callV
  simp only [hf]
  unfold callR
  simp only [fn183, List.cons_append, List.nil_append, List.append_nil, frzArgs, frz, frzAll, frzG, frzGAll, ms2, msUp, List.tail]
  simp only [V.allIds, V.ids, List.append_nil, List.nil_append, collect, List.map_nil, List.contains_nil, Bool.false_eq_true, if_false, Rd.run, Heap.at?, Ob.ids, rowsIds, List.map_cons, List.cons_append, List.contains_cons, Nat.reduceBEq, Bool.or_self, Bool.or_false, Bool.false_or, Bool.or_true, Bool.true_or, if_true]
  unfold withR
  simp only [List.map_cons, List.map_nil, upd1, List.all_nil, List.all_cons, show 1 < n by omega, show 2 < n by omega, show 3 < n by omega, decide_true, Bool.and_self, if_true, V.reAll, V.re, idx, Nat.beq, cond_true, cond_false, Option.bind_some, Option.map_some, pullObs, Ob.re, reRows, Nat.reduceAdd, h, List.length_cons, List.length_nil, Nat.le_refl]
  unfold afterR
  simp only [V.re, V.reAll, pushObs, back, nth, Ob.re, reRows, Option.bind_some, Option.map_some, List.isEmpty_cons, Bool.false_and, Bool.false_eq_true, if_false, Rd.run, List.append_nil, Nat.reduceAdd]
  simp only [List.length_cons, List.length_nil, Nat.zero_add, Nat.reduceAdd, Nat.reduceLT, Nat.reduceLeDiff, if_true, Option.map_some, Option.bind_some, Nat.reduceSub, Nat.sub_self, Nat.add_zero]
  show _ = _
  kernel_rfl

def capA (c n : Int) : Int := if 4294967295 < c + n then 4294967295 else c + n
def u32B (x : Int) : Prop := 0 ≤ x ∧ x ≤ 4294967295
theorem capA_b {c n : Int} (hc : u32B c) (hn : u32B n) : u32B (capA c n) := by
  unfold capA u32B at *
  split <;> omega
theorem wrap64_u {x : Int} (h0 : 0 ≤ x) (h1 : x < 1000000000000000000) : IntKind.u64.wrap x = x := by
  simp [IntKind.wrap, IntKind.signed, IntKind.bits]
  omega
theorem wrap32_u {x : Int} (h : u32B x) : IntKind.u32.wrap x = x := by
  unfold u32B at h
  simp [IntKind.wrap, IntKind.signed, IntKind.bits]
  omega
theorem capA_wrap {c n : Int} (hc : u32B c) (hn : u32B n) : IntKind.u32.wrap (if 4294967295 < IntKind.u64.wrap (IntKind.u64.wrap c + IntKind.u64.wrap n) then 4294967295 else IntKind.u64.wrap (IntKind.u64.wrap c + IntKind.u64.wrap n)) = capA c n := by
  have hb := capA_b hc hn
  unfold u32B at hc hn
  rw [wrap64_u (x := c) (by omega) (by omega), wrap64_u (x := n) (by omega) (by omega), wrap64_u (by omega) (by omega)]
  exact wrap32_u hb
theorem lim181_new (b m : Int) (ks vs : List Int) (f g : Bool) (hr : risesI ks = true) (hl : ks.length < 1000000000) (hv : vs.length = ks.length) (hm : u32B m) (hb : hasI b ks = false) : lim T fns 181 [.int .u32 b, .int .u32 m, .ptr 0 0 0] [cell1, mobU 2 3 ks.length, kobU ks [] f, vobU vs [] g] =
    some (.tup [], [some cell1, some (mobU 4 5 (ks.length + 1)), some (kobU ks [] true), some (vobU vs [] true), some (kobU (insAt (posI b ks) b ks) [] false), some (vobU (insAt (posI b ks) (capA 0 m) vs) [] false)]) := by
  refine fn_rule (fn := fn181) rfl rfl (by simp [fn181]) ?_
  unfold fn181
  simp only [Try.f181, Option.getD_some, argEnv, List.map_nil, List.length_nil]
  have hg : gtI zU b ks vs = 0 := by unfold gtI; rw [hb]; rfl
  have hc1 := fun (n : Nat) (hn : 4 ≤ n) (o0 : Option Ob) (rest : Heap) => call182_1 b ks vs [] [] f g hr (by omega) hv n hn o0 rest
  have hc2 := fun (n : Nat) (hn : 4 ≤ n) (o0 : Option Ob) (rest : Heap) => call183_new1 b (capA 0 m) ks vs [] [] f g hr hl hv hb n hn o0 rest
  have hw := capA_wrap (c := 0) (n := m) (by simp [u32B]) hm
  rw [hg, hb] at hc1
  simp only [cell1, mobU, kobU, vobU, valU, List.append_nil] at hc1 hc2 ⊢
  simp only [go_sem, T_42, T_130, T_239, hc1, hc2, extractR, hw]
  show _ = _
  kernel_rfl
theorem lim181_old (b m : Int) (ks vs : List Int) (f g : Bool) (hr : risesI ks = true) (hl : ks.length < 1000000000) (hv : vs.length = ks.length) (hm : u32B m) (hvb : ∀ x ∈ vs, u32B x) (hb : hasI b ks = true) : lim T fns 181 [.int .u32 b, .int .u32 m, .ptr 0 0 0] [cell1, mobU 2 3 ks.length, kobU ks [] f, vobU vs [] g] =
    some (.tup [], [some cell1, some (mobU 2 4 ks.length), some (kobU ks [] f), some (vobU vs [] true), some (vobU (vs.set (posI b ks) (capA (gtI zU b ks vs) m)) [] false)]) := by
  refine fn_rule (fn := fn181) rfl rfl (by simp [fn181]) ?_
  unfold fn181
  simp only [Try.f181, Option.getD_some, argEnv, List.map_nil, List.length_nil]
  have hgb : u32B (gtI zU b ks vs) := by
    unfold gtI
    rw [if_pos hb]
    have hp : posI b ks < vs.length := by rw [hv]; exact hasI_lt hb
    rw [List.getElem?_eq_getElem hp]
    exact hvb _ (List.getElem_mem hp)
  have hc1 := fun (n : Nat) (hn : 4 ≤ n) (o0 : Option Ob) (rest : Heap) => call182_1 b ks vs [] [] f g hr (by omega) hv n hn o0 rest
  have hw := capA_wrap hgb hm
  generalize gtI zU b ks vs = c at *
  have hc2 := fun (n : Nat) (hn : 4 ≤ n) (o0 : Option Ob) (rest : Heap) => call183_old1 b (capA c m) ks vs [] [] f g hr hl hv hb n hn o0 rest
  rw [hb] at hc1
  simp only [cell1, mobU, kobU, vobU, valU, List.append_nil] at hc1 hc2 ⊢
  simp only [go_sem, T_42, T_130, T_239, hc1, hc2, extractR, hw]
  show _ = _
  kernel_rfl
theorem call181_new (b m : Int) (ks vs : List Int) (f g : Bool) (hr : risesI ks = true) (hl : ks.length < 1000000000) (hv : vs.length = ks.length) (hm : u32B m) (hb : hasI b ks = false) (n : Nat) (hn : 4 ≤ n) (rest : Heap) :
    (callV (LX T fns) n (.clo 181 [.ptr 0 0 0]) [.int .u32 b, .int .u32 m]).run (some cell1 :: some (mobU 2 3 ks.length) :: some (kobU ks [] f) :: some (vobU vs [] g) :: rest) [] =
    some ((.tup [], [(0, some cell1), (1, some (mobU n (n + 1) (ks.length + 1))), (2, some (kobU ks [] true)), (3, some (vobU vs [] true)), (n, some (kobU (insAt (posI b ks) b ks) [] false)), (n + 1, some (vobU (insAt (posI b ks) (capA 0 m) vs) [] false))]), [3, 2, 1, 0]) := by
  have h := lim181_new b m ks vs f g hr hl hv hm hb
  simp only [cell1, mobU, kobU, vobU, valU, List.append_nil] at h ⊢
  have hf : fns 181 = some fn181 := rfl
  unfold callV
  simp only [hf]
  unfold callR
  simp only [fn181, List.cons_append, List.nil_append, List.append_nil, frzArgs, frz, frzAll, frzG, frzGAll, ms2, msUp, List.tail]
  simp only [V.allIds, V.ids, List.append_nil, List.nil_append, collect, List.map_nil, List.contains_nil, Bool.false_eq_true, if_false, Rd.run, Heap.at?, Ob.ids, rowsIds, List.map_cons, List.cons_append, List.contains_cons, Nat.reduceBEq, Bool.or_self, Bool.or_false, Bool.false_or, Bool.or_true, Bool.true_or, if_true]
  unfold withR
  simp only [List.map_cons, List.map_nil, upd1, List.all_nil, List.all_cons, show 0 < n by omega, show 1 < n by omega, show 2 < n by omega, show 3 < n by omega, decide_true, Bool.and_self, if_true, V.reAll, V.re, idx, Nat.beq, cond_true, cond_false, Option.bind_some, Option.map_some, pullObs, Ob.re, reRows, Nat.reduceAdd, h, List.length_cons, List.length_nil, Nat.le_refl]
  unfold afterR
  simp only [V.re, V.reAll, pushObs, back, nth, Ob.re, reRows, Option.bind_some, Option.map_some, List.isEmpty_cons, Bool.false_and, Bool.false_eq_true, if_false, Rd.run, List.append_nil, Nat.reduceAdd]
  simp only [List.length_cons, List.length_nil, Nat.zero_add, Nat.reduceAdd, Nat.reduceLT, Nat.reduceLeDiff, if_true, Option.map_some, Option.bind_some, Nat.reduceSub, Nat.sub_self, Nat.add_zero]
  show _ = _
  kernel_rfl
theorem call181_old (b m : Int) (ks vs : List Int) (f g : Bool) (hr : risesI ks = true) (hl : ks.length < 1000000000) (hv : vs.length = ks.length) (hm : u32B m) (hvb : ∀ x ∈ vs, u32B x) (hb : hasI b ks = true) (n : Nat) (hn : 4 ≤ n) (rest : Heap) :
    (callV (LX T fns) n (.clo 181 [.ptr 0 0 0]) [.int .u32 b, .int .u32 m]).run (some cell1 :: some (mobU 2 3 ks.length) :: some (kobU ks [] f) :: some (vobU vs [] g) :: rest) [] =
    some ((.tup [], [(0, some cell1), (1, some (mobU 2 n ks.length)), (2, some (kobU ks [] f)), (3, some (vobU vs [] true)), (n, some (vobU (vs.set (posI b ks) (capA (gtI zU b ks vs) m)) [] false))]), [3, 2, 1, 0]) := by
  have h := lim181_old b m ks vs f g hr hl hv hm hvb hb
  simp only [cell1, mobU, kobU, vobU, valU, List.append_nil] at h ⊢
  have hf : fns 181 = some fn181 := rfl
  unfold callV
  simp only [hf]
  unfold callR
  simp only [fn181, List.cons_append, List.nil_append, List.append_nil, frzArgs, frz, frzAll, frzG, frzGAll, ms2, msUp, List.tail]
  simp only [V.allIds, V.ids, List.append_nil, List.nil_append, collect, List.map_nil, List.contains_nil, Bool.false_eq_true, if_false, Rd.run, Heap.at?, Ob.ids, rowsIds, List.map_cons, List.cons_append, List.contains_cons, Nat.reduceBEq, Bool.or_self, Bool.or_false, Bool.false_or, Bool.or_true, Bool.true_or, if_true]
  unfold withR
  simp only [List.map_cons, List.map_nil, upd1, List.all_nil, List.all_cons, show 0 < n by omega, show 1 < n by omega, show 2 < n by omega, show 3 < n by omega, decide_true, Bool.and_self, if_true, V.reAll, V.re, idx, Nat.beq, cond_true, cond_false, Option.bind_some, Option.map_some, pullObs, Ob.re, reRows, Nat.reduceAdd, h, List.length_cons, List.length_nil, Nat.le_refl]
  unfold afterR
  simp only [V.re, V.reAll, pushObs, back, nth, Ob.re, reRows, Option.bind_some, Option.map_some, List.isEmpty_cons, Bool.false_and, Bool.false_eq_true, if_false, Rd.run, List.append_nil, Nat.reduceAdd]
  simp only [List.length_cons, List.length_nil, Nat.zero_add, Nat.reduceAdd, Nat.reduceLT, Nat.reduceLeDiff, if_true, Option.map_some, Option.bind_some, Nat.reduceSub, Nat.sub_self, Nat.add_zero]
  show _ = _
  kernel_rfl
end Go.Proofs.Ytfdemnefkfkghaa.R
/- Chapter 27's laws: graph.Counts. -/
namespace Go.Proofs.Ytfdemnefkfkghaa.R
open Go Go.Proofs
set_option linter.unusedSimpArgs false
set_option linter.unusedVariables false
set_option maxRecDepth 10000
set_option maxHeartbeats 4000000

theorem append_nils {ti : TI} {n : Nat} {kr : List V} {p : Bool} (hb : ti.bytes ≤ 1000) : appendR ti n .nils [kr] p = .pure (.ms n ti.size 0 1 none, [(n, some (.buf ti.size [kr] false p))]) := by
  unfold appendR
  simp only [List.length_cons, List.length_nil, Nat.zero_add, Nat.one_ne_zero, if_false]
  rw [if_pos ⟨by omega, by omega⟩]
theorem insAt_len {α : Type} {i : Nat} {x : α} {l : List α} (h : i ≤ l.length) : (insAt i x l).length = l.length + 1 := by
  unfold insAt
  simp
  omega
/-- A block, named so often more. -/
def addU (b n : Int) (p : List Int × List Int) : List Int × List Int := if hasI b p.1 = true then (p.1, p.2.set (posI b p.1) (capA (gtI zU b p.1 p.2) n)) else (insAt (posI b p.1) b p.1, insAt (posI b p.1) (capA 0 n) p.2)
def cntInv (p : List Int × List Int) : Prop := risesI p.1 = true ∧ p.2.length = p.1.length ∧ ∀ x ∈ p.2, u32B x
theorem gtI_b {b : Int} {p : List Int × List Int} (h : cntInv p) : u32B (gtI zU b p.1 p.2) := by
  unfold gtI
  cases hb : hasI b p.1 with
  | true =>
    rw [if_pos rfl]
    have hp : posI b p.1 < p.2.length := by rw [h.2.1]; exact hasI_lt hb
    rw [List.getElem?_eq_getElem hp]
    exact h.2.2 _ (List.getElem_mem hp)
  | false => simp [zU, u32B]
theorem addU_inv {b n : Int} {p : List Int × List Int} (h : cntInv p) (hn : u32B n) : cntInv (addU b n p) := by
  unfold addU
  cases hb : hasI b p.1 with
  | true =>
    rw [if_pos rfl]
    refine ⟨h.1, by simpa using h.2.1, fun x hx => ?_⟩
    rcases List.mem_or_eq_of_mem_set hx with hx | rfl
    · exact h.2.2 x hx
    · exact capA_b (gtI_b h) hn
  | false =>
    rw [if_neg (by simp)]
    have hp := posI_le b p.1
    refine ⟨risesI_ins h.1 hb, by simp only; rw [insAt_len hp, insAt_len (by rw [h.2.1]; exact hp), h.2.1], fun x hx => ?_⟩
    rcases insI_mem hx with rfl | hx
    · exact capA_b (by simp [u32B]) hn
    · exact h.2.2 x hx
theorem addU_len {b n : Int} {p : List Int × List Int} : (addU b n p).1.length ≤ p.1.length + 1 := by
  unfold addU
  have hp := posI_le b p.1
  split
  · simp
  · simp only; rw [insAt_len hp]; exact Nat.le_refl _
def addsU (l : List (Int × Int)) (p : List Int × List Int) : List Int × List Int := l.foldl (fun p x => addU x.1 x.2 p) p
theorem addsU_len {l : List (Int × Int)} : ∀ {p : List Int × List Int}, (addsU l p).1.length ≤ p.1.length + l.length := by
  induction l with
  | nil => intro p; simp [addsU]
  | cons x r ih =>
    intro p
    have h1 := ih (p := addU x.1 x.2 p)
    have h2 := addU_len (b := x.1) (n := x.2) (p := p)
    show (addsU r _).1.length ≤ _
    simp only [List.length_cons]
    omega
theorem addsU_inv {l : List (Int × Int)} : ∀ {p : List Int × List Int}, cntInv p → (∀ x ∈ l, u32B x.2) → cntInv (addsU l p) := by
  induction l with
  | nil => intro p h _; exact h
  | cons x r ih => intro p h hl; exact ih (addU_inv h (hl x (.head _))) fun y hy => hl y (.tail _ hy)
theorem addsU_app {l m : List (Int × Int)} {p : List Int × List Int} : addsU (l ++ m) p = addsU m (addsU l p) := by unfold addsU; rw [List.foldl_append]
theorem addsU_snoc {l : List (Int × Int)} {x : Int × Int} {p : List Int × List Int} : addsU (l ++ [x]) p = addU x.1 x.2 (addsU l p) := by rw [addsU_app]; rfl
def cntH (p : List Int × List Int) : Heap := [some cell1, some (mobU 2 3 p.1.length), some (kobU p.1 [] false), some (vobU p.2 [] false)]
/-- What is named, in order. -/
def nmRoots (l : List S179) : List (Int × Int) := l.map fun v => (v.f1, 1)
def nmNode (n : S93) : List (Int × Int) := (targets n).map fun t => (t, 1)
def nmItems (l : List S95) : List (Int × Int) := (l.map fun x => nmNode x.f1).flatten
def nmPend (l : List S184) : List (Int × Int) := l.map fun x => (x.f0, x.f1)
theorem call184_1 (ks vs : List Int) (ex ey : List (List V)) (f g : Bool) (n : Nat) (hn : 4 ≤ n) (o0 : Option Ob) (rest : Heap) :
    (callV (LX T fns) n (.clo 184 []) [.ptr 1 0 0]).run (o0 :: some (mobU 2 3 ks.length) :: some (kobU ks ex f) :: some (vobU vs ey g) :: rest) [] =
    some ((.clo 235 [.ptr n 0 0, .ptr (n + 1) 0 0], [(1, some (mobU 2 3 ks.length)), (2, some (kobU ks ex f)), (3, some (vobU vs ey g)), (n, some (.buf 1 [[.ptr 1 0 0]] false false)), (n + 1, some (.buf 1 [[.int .i64 0]] false true))]), [3, 2, 1]) := by
  have h := lim184 ks vs ex ey f g
  simp only [mobU, kobU, vobU] at h ⊢
  have hf : fns 184 = some fn184 := rfl
  unfold callV
  simp only [hf]
  unfold callR
  simp only [fn184, List.cons_append, List.nil_append, List.append_nil, frzArgs, frz, frzAll, frzG, frzGAll, ms2, msUp, List.tail]
  simp only [V.allIds, V.ids, List.append_nil, List.nil_append, collect, List.map_nil, List.contains_nil, Bool.false_eq_true, if_false, Rd.run, Heap.at?, Ob.ids, rowsIds, List.map_cons, List.cons_append, List.contains_cons, Nat.reduceBEq, Bool.or_self, Bool.or_false, Bool.false_or, Bool.or_true, Bool.true_or, if_true]
  unfold withR
  simp only [List.map_cons, List.map_nil, upd1, List.all_nil, List.all_cons, show 1 < n by omega, show 2 < n by omega, show 3 < n by omega, decide_true, Bool.and_self, if_true, V.reAll, V.re, idx, Nat.beq, cond_true, cond_false, Option.bind_some, Option.map_some, pullObs, Ob.re, reRows, Nat.reduceAdd, h, List.length_cons, List.length_nil, Nat.le_refl]
  unfold afterR
  simp only [V.re, V.reAll, pushObs, back, nth, Ob.re, reRows, Option.bind_some, Option.map_some, List.isEmpty_cons, Bool.false_and, Bool.false_eq_true, if_false, Rd.run, List.append_nil, Nat.reduceAdd]
  simp only [List.length_cons, List.length_nil, Nat.zero_add, Nat.reduceAdd, Nat.reduceLT, Nat.reduceLeDiff, if_true, Option.map_some, Option.bind_some, Nat.reduceSub, Nat.sub_self, Nat.add_zero]
  show _ = _
  kernel_rfl
def mk184 (p : Int × Int) : S184 := ⟨p.1, p.2⟩
def refsU (p : List Int × List Int) : List S184 := ((p.1.zip p.2).filter fun x => decide (x.2 > 0)).map mk184
theorem refsU_succ {ks vs : List Int} {i : Nat} (h : i < ks.length) (h2 : i < vs.length) : refsU (ks.take (i + 1), vs.take (i + 1)) = refsU (ks.take i, vs.take i) ++ (if vs[i] > 0 then [⟨ks[i], vs[i]⟩] else []) := by
  unfold refsU
  simp only
  rw [List.take_succ_eq_append_getElem h, List.take_succ_eq_append_getElem h2, List.zip_append (by simp; omega), List.filter_append, List.map_append]
  congr 1
  by_cases hp : vs[i] > 0
  · simp [hp, mk184]
  · simp [hp]
theorem refsU_le {ks vs : List Int} {i : Nat} : (refsU (ks.take i, vs.take i)).length ≤ i := by
  unfold refsU
  rw [List.length_map]
  refine Nat.le_trans (List.length_filter_le _ _) ?_
  simp
  omega
/-- The objects while the refs are gathered. -/
def accU (ks vs : List Int) (acc : List S184) : Heap := match acc with
  | [] => [some cell1, some (.buf 2 [[.ms 2 1 0 ks.length none, .ms 3 1 0 ks.length none]] false false), some (.buf 1 (ks.map (Cd.int .u32).enc) false true), some (.buf 1 (vs.map (Cd.int .u32).enc) false true), some (.buf 1 [[.nils]] false true), some (.buf 1 [[.ptr 1 0 0]] false false), some (.buf 1 [[.int .i64 0]] false true)]
  | acc => [some cell1, some (.buf 2 [[.ms 2 1 0 ks.length none, .ms 3 1 0 ks.length none]] false false), some (.buf 1 (ks.map (Cd.int .u32).enc) false true), some (.buf 1 (vs.map (Cd.int .u32).enc) false true), some (.buf 1 [[.ms 7 2 0 acc.length none]] false false), some (.buf 1 [[.ptr 1 0 0]] false false), some (.buf 1 [[.int .i64 0]] false true), some (.buf 2 (acc.map k184.enc) false true)]
theorem accU_nil {ks vs : List Int} : accU ks vs [] = [some cell1, some (.buf 2 [[.ms 2 1 0 ks.length none, .ms 3 1 0 ks.length none]] false false), some (.buf 1 (ks.map (Cd.int .u32).enc) false true), some (.buf 1 (vs.map (Cd.int .u32).enc) false true), some (.buf 1 [[.nils]] false true), some (.buf 1 [[.ptr 1 0 0]] false false), some (.buf 1 [[.int .i64 0]] false true)] := rfl
theorem accU_ne {ks vs : List Int} {acc : List S184} (h : acc ≠ []) : accU ks vs acc = [some cell1, some (.buf 2 [[.ms 2 1 0 ks.length none, .ms 3 1 0 ks.length none]] false false), some (.buf 1 (ks.map (Cd.int .u32).enc) false true), some (.buf 1 (vs.map (Cd.int .u32).enc) false true), some (.buf 1 [[.ms 7 2 0 acc.length none]] false false), some (.buf 1 [[.ptr 1 0 0]] false false), some (.buf 1 [[.int .i64 0]] false true), some (.buf 2 (acc.map k184.enc) false true)] := by
  cases acc with
  | nil => exact absurd rfl h
  | cons a r => rfl
def tooMany (l : List S95) : Prop := (nmItems l).length < 100000000
theorem nmItems_succ {l : List S95} {i : Nat} (h : i < l.length) : nmItems (l.take (i + 1)) = nmItems (l.take i) ++ nmNode l[i].f1 := by
  unfold nmItems
  rw [List.take_succ_eq_append_getElem h, List.map_append, List.flatten_append]
  simp
theorem nmItems_le {l : List S95} {i : Nat} : (nmItems (l.take i)).length ≤ (nmItems l).length := by
  have : nmItems l = nmItems (l.take i) ++ nmItems (l.drop i) := by
    conv => lhs; rw [← List.take_append_drop i l]
    unfold nmItems
    rw [List.map_append, List.flatten_append]
  rw [this, List.length_append]
  omega
end Go.Proofs.Ytfdemnefkfkghaa.R
/- Chapter 27's laws: graph.Counts, in the machine (printed by mk126.py). -/
namespace Go.Proofs.Ytfdemnefkfkghaa.R
open Go Go.Proofs
set_option linter.unusedSimpArgs false
set_option linter.unusedVariables false
set_option maxRecDepth 10000
set_option maxHeartbeats 4000000

theorem cntH_mk {ks vs : List Int} : cntH (ks, vs) = [some (.buf 1 [[.ptr 1 0 0]] false false), some (.buf 2 [[.ms 2 1 0 ks.length none, .ms 3 1 0 ks.length none]] false false), some (.buf 1 (ks.map (Cd.int .u32).enc) false true), some (.buf 1 (vs.map (Cd.int .u32).enc) false true)] := by
  simp only [cntH, cell1, mobU, kobU, vobU, List.append_nil]
theorem cntH_new {b n : Int} {ks vs : List Int} (hb : hasI b ks = false) : cntH (addU b n (ks, vs)) = [some (.buf 1 [[.ptr 1 0 0]] false false), some (.buf 2 [[.ms 2 1 0 (ks.length + 1) none, .ms 3 1 0 (ks.length + 1) none]] false false), some (.buf 1 ((insAt (posI b ks) b ks).map (Cd.int .u32).enc) false true), some (.buf 1 ((insAt (posI b ks) (capA 0 n) vs).map (Cd.int .u32).enc) false true)] := by
  unfold addU
  rw [if_neg (by rw [hb]; simp), cntH_mk, insAt_len (posI_le b ks)]
theorem cntH_old {b n : Int} {ks vs : List Int} (hb : hasI b ks = true) : cntH (addU b n (ks, vs)) = [some (.buf 1 [[.ptr 1 0 0]] false false), some (.buf 2 [[.ms 2 1 0 ks.length none, .ms 3 1 0 ks.length none]] false false), some (.buf 1 (ks.map (Cd.int .u32).enc) false true), some (.buf 1 ((vs.set (posI b ks) (capA (gtI zU b ks vs) n)).map (Cd.int .u32).enc) false true)] := by
  unfold addU
  rw [if_pos hb, cntH_mk]
theorem one_b : u32B 1 := by simp [u32B]
theorem lim126 (l : List S95) (vols : List S179) (pend : List S184) (hl : fewL l) (h1 : vols.length < 100000000) (h2 : (nmItems l).length < 100000000) (h3 : pend.length < 100000000) (hp : ∀ x ∈ pend, u32B x.f1) : lim T fns 126 [.fz (l.map k95.enc), .fz (vols.map k179.enc), .fz (pend.map k184.enc)] [] =
    some (.fz ((refsU (addsU (nmRoots vols ++ nmItems l ++ nmPend pend) ([], []))).map k184.enc), []) := by
  refine fn_rule (fn := fn126) rfl rfl (by simp [fn126]) ?_
  unfold fn126
  simp only [Try.f126, Option.getD_some, argEnv, List.map_nil, List.length_nil]
  have hl1 := hl.1
  have inv0 : cntInv ([], []) := ⟨rfl, rfl, by simp⟩
  have rb : ∀ m : List S179, ∀ x ∈ nmRoots m, u32B x.2 := fun m x hx => by
    obtain ⟨v, _, rfl⟩ := List.mem_map.1 hx
    exact one_b
  have ib : ∀ m : List S95, ∀ x ∈ nmItems m, u32B x.2 := fun m x hx => by
    obtain ⟨y, hy, hx⟩ := List.mem_flatten.1 hx
    obtain ⟨z, _, rfl⟩ := List.mem_map.1 hy
    obtain ⟨t, _, rfl⟩ := List.mem_map.1 hx
    exact one_b
  have nb : ∀ (n : S93) (k : Nat), ∀ x ∈ (nmNode n).take k, u32B x.2 := fun n k x hx => by
    obtain ⟨t, _, rfl⟩ := List.mem_map.1 (List.mem_of_mem_take hx)
    exact one_b
  simp only [go_sem, T_1, T_3, T_4, T_5, T_9, T_22, T_42, T_51, T_69, T_76, T_77, T_78, T_90, T_91, T_93, T_95, T_96, T_98, T_100, T_121, T_145, T_179, T_184, T_239, call180]
  refine loop_rule (ι := Nat) (S := fun i => ⟨[(0, .fz (l.map k95.enc)), (2, .fz (pend.map k184.enc)), (7, .ptr 0 0 0), (8, .clo 181 [.ptr 0 0 0]), (22, .fz (vols.map k179.enc)), (23, .int .i64 vols.length), (24, .int .i64 i)], cntH (addsU (nmRoots (vols.take i)) ([], []))⟩) (m := fun i => vols.length + 1 - i)
    (I := fun i => i ≤ vols.length) ?_ 0 _ (Nat.zero_le _) (by kernel_rfl)
  rintro i hi
  by_cases hlt : i < vols.length
  · have hx : vols[i]? = some vols[i] := List.getElem?_eq_getElem hlt
    have hn : addsU (nmRoots (vols.take (i + 1))) ([], []) = addU vols[i].f1 1 (addsU (nmRoots (vols.take i)) ([], [])) := by
      unfold nmRoots
      rw [List.take_succ_eq_append_getElem hlt, List.map_append]
      exact addsU_snoc
    have inv := addsU_inv inv0 (rb (vols.take i))
    have hlen := addsU_len (l := nmRoots (vols.take i)) (p := ([], []))
    have hlen2 : (nmRoots (vols.take i)).length ≤ i := by simp [nmRoots]; omega
    simp only [List.length_nil] at hlen
    generalize addsU (nmRoots (vols.take i)) ([], []) = p at *
    obtain ⟨ks, vs⟩ := p
    simp only at inv hlen
    simp only [cntInv] at inv
    simp only [cntH_mk]
    cases hb : hasI vols[i].f1 ks with
    | false =>
      have hc := fun (n : Nat) (hn : 4 ≤ n) (rest : Heap) => call181_new vols[i].f1 1 ks vs false false inv.1 (by omega) inv.2.1 one_b hb n hn rest
      simp only [cell1, mobU, kobU, vobU, List.append_nil] at hc
      simp only [go_sem, T_1, T_3, T_4, T_5, T_9, T_22, T_42, T_51, T_69, T_76, T_77, T_78, T_90, T_91, T_93, T_95, T_96, T_98, T_100, T_121, T_145, T_179, T_184, T_239, hlt, all179, hx, k179_enc, hc, wrap_i64s (show i < 1000000000000000000 by omega)]
      refine ⟨i + 1, by omega, by simp only; omega, ?_⟩
      simp only [hn]
      rw [cntH_new hb]
      show _ = _
      kernel_rfl
    | true =>
      have hc := fun (n : Nat) (hn : 4 ≤ n) (rest : Heap) => call181_old vols[i].f1 1 ks vs false false inv.1 (by omega) inv.2.1 one_b inv.2.2 hb n hn rest
      simp only [cell1, mobU, kobU, vobU, List.append_nil] at hc
      simp only [go_sem, T_1, T_3, T_4, T_5, T_9, T_22, T_42, T_51, T_69, T_76, T_77, T_78, T_90, T_91, T_93, T_95, T_96, T_98, T_100, T_121, T_145, T_179, T_184, T_239, hlt, all179, hx, k179_enc, hc, wrap_i64s (show i < 1000000000000000000 by omega)]
      refine ⟨i + 1, by omega, by simp only; omega, ?_⟩
      simp only [hn]
      rw [cntH_old hb]
      show _ = _
      kernel_rfl
  obtain rfl : i = vols.length := by omega
  rw [List.take_length]
  simp only [cntH]
  have invR := addsU_inv inv0 (rb vols)
  have lenR : (addsU (nmRoots vols) ([], [])).1.length ≤ vols.length := by
    have := addsU_len (l := nmRoots vols) (p := ([], []))
    simp only [List.length_nil] at this
    simp only [nmRoots, List.length_map] at this
    unfold nmRoots
    omega
  simp only [addsU_app]
  generalize addsU (nmRoots vols) ([], []) = R at *
  simp only [go_sem, T_1, T_3, T_4, T_5, T_9, T_22, T_42, T_51, T_69, T_76, T_77, T_78, T_90, T_91, T_93, T_95, T_96, T_98, T_100, T_121, T_145, T_179, T_184, T_239, hlt]
  clear hlt hi
  refine loop_rule (ι := Nat) (S := fun i => ⟨[(2, .fz (pend.map k184.enc)), (7, .ptr 0 0 0), (8, .clo 181 [.ptr 0 0 0]), (33, .fz (l.map k95.enc)), (34, .int .i64 l.length), (35, .int .i64 i)], cntH (addsU (nmItems (l.take i)) R)⟩) (m := fun i => l.length + 1 - i)
    (I := fun i => i ≤ l.length) ?_ 0 _ (Nat.zero_le _) (by kernel_rfl)
  rintro i hi
  by_cases hlt : i < l.length
  · have hx : l[i]? = some l[i] := List.getElem?_eq_getElem hlt
    have hnl := hl.2 l[i] (List.getElem_mem hlt)
    have hts := call131 l[i].f1 hnl
    simp only [k93_enc] at hts
    have hsucc := nmItems_succ hlt
    have hle := nmItems_le (l := l) (i := i + 1)
    rw [hsucc, List.length_append] at hle
    have invI := addsU_inv invR (ib (l.take i))
    have lenI := addsU_len (l := nmItems (l.take i)) (p := R)
    have htl : (nmNode l[i].f1).length = (targets l[i].f1).length := by simp [nmNode]
    have hnx : addsU (nmItems (l.take (i + 1))) R = addsU (nmNode l[i].f1) (addsU (nmItems (l.take i)) R) := by rw [hsucc, addsU_app]
    generalize addsU (nmItems (l.take i)) R = Q at *
    simp only [cntH]
    simp only [go_sem, T_1, T_3, T_4, T_5, T_9, T_22, T_42, T_51, T_69, T_76, T_77, T_78, T_90, T_91, T_93, T_95, T_96, T_98, T_100, T_121, T_145, T_179, T_184, T_239, all95, hlt, hx, k95_enc, hts]
    refine loop_rule (ι := Nat) (S := fun j => ⟨[(2, .fz (pend.map k184.enc)), (7, .ptr 0 0 0), (8, .clo 181 [.ptr 0 0 0]), (33, .fz (l.map k95.enc)), (34, .int .i64 l.length), (35, .int .i64 i), (41, .fz ((targets l[i].f1).map (Cd.int .u32).enc)), (42, .int .i64 (targets l[i].f1).length), (43, .int .i64 j)], cntH (addsU ((nmNode l[i].f1).take j) Q)⟩) (m := fun j => (targets l[i].f1).length + 1 - j)
      (I := fun j => j ≤ (targets l[i].f1).length) ?_ 0 _ (Nat.zero_le _) (by kernel_rfl)
    rintro j hj
    by_cases hlj : j < (targets l[i].f1).length
    · have hy : (targets l[i].f1)[j]? = some (targets l[i].f1)[j] := List.getElem?_eq_getElem hlj
      have hn : addsU ((nmNode l[i].f1).take (j + 1)) Q = addU (targets l[i].f1)[j] 1 (addsU ((nmNode l[i].f1).take j) Q) := by
        rw [List.take_succ_eq_append_getElem (by rw [htl]; exact hlj), addsU_snoc]
        simp [nmNode]
      have inv := addsU_inv invI (nb l[i].f1 j)
      have hlen := addsU_len (l := (nmNode l[i].f1).take j) (p := Q)
      have hlen2 : ((nmNode l[i].f1).take j).length ≤ (nmNode l[i].f1).length := by simp; omega
      generalize addsU ((nmNode l[i].f1).take j) Q = p at *
      obtain ⟨ks, vs⟩ := p
      simp only at inv hlen
      simp only [cntInv] at inv
      simp only [cntH_mk]
      generalize (targets l[i].f1)[j] = t at *
      cases hb : hasI t ks with
      | false =>
        have hc := fun (n : Nat) (hn : 4 ≤ n) (rest : Heap) => call181_new t 1 ks vs false false inv.1 (by omega) inv.2.1 one_b hb n hn rest
        simp only [cell1, mobU, kobU, vobU, List.append_nil] at hc
        simp only [go_sem, T_1, T_3, T_4, T_5, T_9, T_22, T_42, T_51, T_69, T_76, T_77, T_78, T_90, T_91, T_93, T_95, T_96, T_98, T_100, T_121, T_145, T_179, T_184, T_239, hlt, hlj, hy, all_int, hc, wrap_i64s (show j < 1000000000000000000 by omega)]
        refine ⟨j + 1, by omega, by simp only; omega, ?_⟩
        simp only [hn]
        rw [cntH_new hb]
        show _ = _
        kernel_rfl
      | true =>
        have hc := fun (n : Nat) (hn : 4 ≤ n) (rest : Heap) => call181_old t 1 ks vs false false inv.1 (by omega) inv.2.1 one_b inv.2.2 hb n hn rest
        simp only [cell1, mobU, kobU, vobU, List.append_nil] at hc
        simp only [go_sem, T_1, T_3, T_4, T_5, T_9, T_22, T_42, T_51, T_69, T_76, T_77, T_78, T_90, T_91, T_93, T_95, T_96, T_98, T_100, T_121, T_145, T_179, T_184, T_239, hlt, hlj, hy, all_int, hc, wrap_i64s (show j < 1000000000000000000 by omega)]
        refine ⟨j + 1, by omega, by simp only; omega, ?_⟩
        simp only [hn]
        rw [cntH_old hb]
        show _ = _
        kernel_rfl
    · obtain rfl : j = (targets l[i].f1).length := by omega
      rw [← htl, List.take_length] 
      rw [← hnx]
      simp only [cntH]
      simp only [go_sem, T_1, T_3, T_4, T_5, T_9, T_22, T_42, T_51, T_69, T_76, T_77, T_78, T_90, T_91, T_93, T_95, T_96, T_98, T_100, T_121, T_145, T_179, T_184, T_239, hlt, htl, Nat.lt_irrefl, wrap_i64s (show i < 1000000000000000000 by omega)]
      exact ⟨i + 1, by omega, by simp only; omega, by kernel_rfl⟩
  obtain rfl : i = l.length := by omega
  rw [List.take_length]
  have invI := addsU_inv invR (ib l)
  have lenI := addsU_len (l := nmItems l) (p := R)
  generalize addsU (nmItems l) R = Q at *
  simp only [cntH]
  simp only [go_sem, T_1, T_3, T_4, T_5, T_9, T_22, T_42, T_51, T_69, T_76, T_77, T_78, T_90, T_91, T_93, T_95, T_96, T_98, T_100, T_121, T_145, T_179, T_184, T_239, hlt]
  clear hlt hi
  refine loop_rule (ι := Nat) (S := fun i => ⟨[(7, .ptr 0 0 0), (8, .clo 181 [.ptr 0 0 0]), (52, .fz (pend.map k184.enc)), (53, .int .i64 pend.length), (54, .int .i64 i)], cntH (addsU (nmPend (pend.take i)) Q)⟩) (m := fun i => pend.length + 1 - i)
    (I := fun i => i ≤ pend.length) ?_ 0 _ (Nat.zero_le _) (by kernel_rfl)
  rintro i hi
  have pb : ∀ k, ∀ x ∈ nmPend (pend.take k), u32B x.2 := fun k x hx => by
    obtain ⟨y, hy, rfl⟩ := List.mem_map.1 hx
    exact hp y (List.mem_of_mem_take hy)
  by_cases hlt : i < pend.length
  · have hx : pend[i]? = some pend[i] := List.getElem?_eq_getElem hlt
    have hpb := hp pend[i] (List.getElem_mem hlt)
    have hn : addsU (nmPend (pend.take (i + 1))) Q = addU pend[i].f0 pend[i].f1 (addsU (nmPend (pend.take i)) Q) := by
      unfold nmPend
      rw [List.take_succ_eq_append_getElem hlt, List.map_append]
      exact addsU_snoc
    have inv := addsU_inv invI (pb i)
    have hlen := addsU_len (l := nmPend (pend.take i)) (p := Q)
    have hlen2 : (nmPend (pend.take i)).length ≤ i := by simp [nmPend]; omega
    generalize addsU (nmPend (pend.take i)) Q = p at *
    obtain ⟨ks, vs⟩ := p
    simp only at inv hlen
    simp only [cntInv] at inv
    simp only [cntH_mk]
    cases hb : hasI pend[i].f0 ks with
    | false =>
      have hc := fun (n : Nat) (hn : 4 ≤ n) (rest : Heap) => call181_new pend[i].f0 pend[i].f1 ks vs false false inv.1 (by omega) inv.2.1 hpb hb n hn rest
      simp only [cell1, mobU, kobU, vobU, List.append_nil] at hc
      simp only [go_sem, T_1, T_3, T_4, T_5, T_9, T_22, T_42, T_51, T_69, T_76, T_77, T_78, T_90, T_91, T_93, T_95, T_96, T_98, T_100, T_121, T_145, T_179, T_184, T_239, hlt, all184, hx, k184_enc, hc, wrap_i64s (show i < 1000000000000000000 by omega)]
      refine ⟨i + 1, by omega, by simp only; omega, ?_⟩
      simp only [hn]
      rw [cntH_new hb]
      show _ = _
      kernel_rfl
    | true =>
      have hc := fun (n : Nat) (hn : 4 ≤ n) (rest : Heap) => call181_old pend[i].f0 pend[i].f1 ks vs false false inv.1 (by omega) inv.2.1 hpb inv.2.2 hb n hn rest
      simp only [cell1, mobU, kobU, vobU, List.append_nil] at hc
      simp only [go_sem, T_1, T_3, T_4, T_5, T_9, T_22, T_42, T_51, T_69, T_76, T_77, T_78, T_90, T_91, T_93, T_95, T_96, T_98, T_100, T_121, T_145, T_179, T_184, T_239, hlt, all184, hx, k184_enc, hc, wrap_i64s (show i < 1000000000000000000 by omega)]
      refine ⟨i + 1, by omega, by simp only; omega, ?_⟩
      simp only [hn]
      rw [cntH_old hb]
      show _ = _
      kernel_rfl
  obtain rfl : i = pend.length := by omega
  have inv := addsU_inv invI (pb pend.length)
  have hlenF := addsU_len (l := nmPend pend) (p := Q)
  rw [show (nmPend pend).length = pend.length by simp [nmPend]] at hlenF
  rw [List.take_length] at inv ⊢
  generalize addsU (nmPend pend) Q = p at *
  obtain ⟨ks, vs⟩ := p
  simp only at hlenF
  simp only [cntInv] at inv
  have g2 := inv.2.1
  have hall := fun (n : Nat) (hn : 4 ≤ n) (o0 : Option Ob) (rest : Heap) => call184_1 ks vs [] [] false false n hn o0 rest
  simp only [mobU, kobU, vobU, List.append_nil] at hall
  simp only [cntH_mk]
  have hf235 : fns 235 = some fn235 := rfl
  simp only [go_sem, T_1, T_3, T_4, T_5, T_9, T_22, T_42, T_51, T_69, T_76, T_77, T_78, T_90, T_91, T_93, T_95, T_96, T_98, T_100, T_121, T_145, T_179, T_184, T_239, hlt, hall, hf235]
  refine ⟨⟨rfl, rfl, by simp [fn235]⟩, ?_⟩
  unfold fn235
  simp only [Try.f235, Option.getD_some, argEnv]
  have hz : (0 : Int) = ((0 : Nat) : Int) := rfl
  simp only [go_sem, T_3, T_4, T_42, T_76, T_239, T_269, eqPU, nilCheckR, hz, Nat.zero_le, Nat.le_refl, List.filter, Nat.reduceBEq, Bool.not_false, Bool.not_true]
  repeat (refine ⟨by kernel_rfl, ?_⟩)
  refine iloop_rule (ι := Nat) (S := fun i => ⟨[(0, .undef), (5, .ms 3 1 0 ks.length none), (22, .ms 2 1 0 ks.length none), (23, .int .i64 ks.length), (24, .int .i64 i)], accU ks vs (refsU (ks.take i, vs.take i)), [0], none⟩) (m := fun i => ks.length + 1 - i)
    (I := fun i => i ≤ ks.length) ?_ 0 _ (Nat.zero_le _) ?_ ?_ rfl
  · rintro i hi2
    by_cases hi3 : i < ks.length
    · have hi4 : i < vs.length := by omega
      have hv1 : vs[i]? = some vs[i] := List.getElem?_eq_getElem hi4
      have hk1 : ks[i]? = some ks[i] := List.getElem?_eq_getElem hi3
      have hnext := refsU_succ hi3 hi4
      have hal := refsU_le (ks := ks) (vs := vs) (i := i)
      generalize refsU (ks.take i, vs.take i) = acc at hnext hal
      by_cases hpos : vs[i] > 0
      · have hdec : vs[i] > ((0 : Nat) : Int) := hpos
        rw [if_pos hpos] at hnext
        rcases Classical.em (acc = []) with he | hne
        · subst he
          rw [accU_nil]
          simp only [go_sem, T_3, T_4, T_42, T_76, T_239, T_269, T_1, T_3, T_4, T_5, T_9, T_22, T_42, T_51, T_69, T_76, T_77, T_78, T_90, T_91, T_93, T_95, T_96, T_98, T_100, T_121, T_145, T_179, T_184, T_239, cell1, hi3, hi4, hv1, hk1, all_int, hdec, hpos, all184, k184_enc, append_nils (ti := ⟨.struct [(0, 42), (1, 42)], 2, 8, .agg [.int .u32 0, .int .u32 0]⟩) (show 8 ≤ 1000 by decide), wrap_i64s (show i < 1000000000000000000 by omega), List.contains_cons, List.contains_nil, Nat.reduceBEq, Bool.or_false, List.filter, Bool.not_false, Bool.not_true]
          exact ⟨i + 1, by omega, by simp only; omega, by
            show head _ _ _ = some ⟨_, accU ks vs (refsU (ks.take (i + 1), vs.take (i + 1)))⟩
            rw [hnext, List.nil_append, accU_ne (by simp)]
            kernel_rfl, by kernel_rfl, rfl⟩
        · rw [accU_ne hne]
          simp only [go_sem, T_3, T_4, T_42, T_76, T_239, T_269, T_1, T_3, T_4, T_5, T_9, T_22, T_42, T_51, T_69, T_76, T_77, T_78, T_90, T_91, T_93, T_95, T_96, T_98, T_100, T_121, T_145, T_179, T_184, T_239, cell1, hi3, hi4, hv1, hk1, all_int, hdec, hpos, all184, k184_enc, appL_some, show (acc.length + 1) * 8 ≤ 140737488355328 by omega, show acc.length + 1 ≤ 140737488355328 by omega, wrap_i64s (show i < 1000000000000000000 by omega), List.contains_cons, List.contains_nil, Nat.reduceBEq, Bool.or_false, List.filter, Bool.not_false, Bool.not_true]
          exact ⟨i + 1, by omega, by simp only; omega, by
            show head _ _ _ = some ⟨_, accU ks vs (refsU (ks.take (i + 1), vs.take (i + 1)))⟩
            rw [hnext, accU_ne (by simp)]
            simp only [List.map_append, List.map_cons, List.map_nil, List.length_append, List.length_cons, List.length_nil, k184_enc]
            kernel_rfl, by kernel_rfl, rfl⟩
      · have hdec : ¬ vs[i] > ((0 : Nat) : Int) := hpos
        rw [if_neg hpos, List.append_nil] at hnext
        rcases Classical.em (acc = []) with he | hne
        · subst he
          rw [accU_nil]
          simp only [go_sem, T_3, T_4, T_42, T_76, T_239, T_269, T_1, T_3, T_4, T_5, T_9, T_22, T_42, T_51, T_69, T_76, T_77, T_78, T_90, T_91, T_93, T_95, T_96, T_98, T_100, T_121, T_145, T_179, T_184, T_239, cell1, hi3, hi4, hv1, hk1, all_int, hdec, hpos, wrap_i64s (show i < 1000000000000000000 by omega), List.contains_cons, List.contains_nil, Nat.reduceBEq, Bool.or_false, List.filter, Bool.not_false, Bool.not_true]
          exact ⟨i + 1, by omega, by simp only; omega, by
            show head _ _ _ = some ⟨_, accU ks vs (refsU (ks.take (i + 1), vs.take (i + 1)))⟩
            rw [hnext, accU_nil]
            kernel_rfl, by kernel_rfl, rfl⟩
        · rw [accU_ne hne]
          simp only [go_sem, T_3, T_4, T_42, T_76, T_239, T_269, T_1, T_3, T_4, T_5, T_9, T_22, T_42, T_51, T_69, T_76, T_77, T_78, T_90, T_91, T_93, T_95, T_96, T_98, T_100, T_121, T_145, T_179, T_184, T_239, cell1, hi3, hi4, hv1, hk1, all_int, hdec, hpos, wrap_i64s (show i < 1000000000000000000 by omega), List.contains_cons, List.contains_nil, Nat.reduceBEq, Bool.or_false, List.filter, Bool.not_false, Bool.not_true]
          exact ⟨i + 1, by omega, by simp only; omega, by
            show head _ _ _ = some ⟨_, accU ks vs (refsU (ks.take (i + 1), vs.take (i + 1)))⟩
            rw [hnext, accU_ne hne]
            kernel_rfl, by kernel_rfl, rfl⟩
    · obtain rfl : i = ks.length := by omega
      rw [show vs.take ks.length = vs by rw [← g2, List.take_length], List.take_length]
      generalize refsU (ks, vs) = acc
      rcases Classical.em (acc = []) with he | hne
      · subst he
        rw [accU_nil]
        simp only [go_sem, T_3, T_4, T_42, T_76, T_239, T_269, T_1, T_3, T_4, T_5, T_9, T_22, T_42, T_51, T_69, T_76, T_77, T_78, T_90, T_91, T_93, T_95, T_96, T_98, T_100, T_121, T_145, T_179, T_184, T_239, cell1, Nat.lt_irrefl]
        show _ = _
        kernel_rfl
      · rw [accU_ne hne]
        simp only [go_sem, T_3, T_4, T_42, T_76, T_239, T_269, T_1, T_3, T_4, T_5, T_9, T_22, T_42, T_51, T_69, T_76, T_77, T_78, T_90, T_91, T_93, T_95, T_96, T_98, T_100, T_121, T_145, T_179, T_184, T_239, cell1, Nat.lt_irrefl]
        exact finish_ms rfl (by simp)
  · kernel_rfl
  · kernel_rfl
end Go.Proofs.Ytfdemnefkfkghaa.R
