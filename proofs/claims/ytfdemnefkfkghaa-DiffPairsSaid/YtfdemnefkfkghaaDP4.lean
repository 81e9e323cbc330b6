/- Parts of the proof of YtfdemnefkfkghaaRDiffPairsRow, one behind the other: R31x, R31y, R31z, Q31e, R31A, RDiffPairsLaw, RDiffPairsRow. -/
import Derived.Test.YtfdemnefkfkghaaDP0
import Derived.Test.YtfdemnefkfkghaaDP1
import Derived.Test.YtfdemnefkfkghaaDP2
import Derived.Test.YtfdemnefkfkghaaDP3
/- Chapter 31's laws: the document's Pairs, Apply; SameTexts, Great. -/
namespace Go.Proofs.Ytfdemnefkfkghaa.R
open Go Go.Proofs
set_option linter.unusedSimpArgs false
set_option linter.unusedVariables false
set_option maxRecDepth 10000
set_option maxHeartbeats 4000000

theorem addK_le {l : List S145} : ∀ {all : List S145}, (addK l all).length ≤ l.length + all.length := by
  induction l with
  | nil => intro all; simp [addK]
  | cons x r ih =>
    intro all
    have h1 := ih (all := putK' S145.f0 ⟨x.f0, ⟨#[]⟩⟩ all)
    have h2 := putK'_le (p := ⟨x.f0, ⟨#[]⟩⟩) (l := all)
    show (addK r _).length ≤ _
    simp only [List.length_cons]
    omega
theorem keysL_le {a b : List S145} : (keysL a b).length ≤ a.length + b.length := by
  unfold keysL keysP
  rw [List.length_map]
  have h1 := addK_le (l := b) (all := addK a [])
  have h2 := addK_le (l := a) (all := [])
  simp only [List.length_nil] at h2
  omega
theorem filter_take_succ {α β : Type} {f : α → β} {p : β → Bool} {l : List α} {i : Nat} (h : i < l.length) : ((l.take (i + 1)).map f).filter p = ((l.take i).map f).filter p ++ (if p (f l[i]) = true then [f l[i]] else []) := by
  rw [List.take_succ_eq_append_getElem h, List.map_append, List.filter_append]
  simp only [List.map_cons, List.map_nil, List.filter]
  cases p (f l[i]) <;> simp
def refPairs (a b : List S145) : List S151 := ((keysL a b).map (atC a b)).filter difB
theorem lim40_bad (a b : List S145) (ha : a.length < 10000000) (hb : b.length < 10000000) (hr : (riseL a && riseL b) = false) : lim T fns 40 [.fz (a.map k145.enc), .fz (b.map k145.enc)] [] = some (.tup [.fz [], .int .i64 1], []) := by
  refine fn_rule (fn := fn40) rfl rfl (by simp [fn40]) ?_
  unfold fn40
  simp only [Try.f40, Option.getD_some, argEnv, List.map_nil, List.length_nil]
  cases h1 : riseL a with
  | false =>
    simp only [go_sem, T_1, T_3, T_4, T_9, T_50, T_51, T_69, T_145, T_151, call90 a (by omega), h1]
    show _ = _
    kernel_rfl
  | true =>
    have h2 : riseL b = false := by simpa [h1] using hr
    simp only [go_sem, T_1, T_3, T_4, T_9, T_50, T_51, T_69, T_145, T_151, call90 a (by omega), call90 b (by omega), h1, h2]
    show _ = _
    kernel_rfl
theorem call96 (a b : List S145) (ha : a.length < 10000000) (hb : b.length < 10000000) (n : Nat) : callV (LX T fns) n (.clo 96 []) [.fz (a.map k145.enc), .fz (b.map k145.enc)] = .pure (.fz ((keysL a b).map Cd.str.enc), []) := callV_plain (fn := fn96) rfl rfl rfl (lim96 a b ha hb) n
theorem lim40_ok (a b : List S145) (ha : a.length < 10000000) (hb : b.length < 10000000) (h1 : riseL a = true) (h2 : riseL b = true) : lim T fns 40 [.fz (a.map k145.enc), .fz (b.map k145.enc)] [] = some (.tup [.fz ((refPairs a b).map k151.enc), .int .i64 0], []) := by
  refine fn_rule (fn := fn40) rfl rfl (by simp [fn40]) ?_
  unfold fn40
  simp only [Try.f40, Option.getD_some, argEnv, List.map_nil, List.length_nil]
  have hkl := keysL_le (a := a) (b := b)
  simp only [go_sem, T_1, T_3, T_4, T_9, T_50, T_51, T_69, T_145, T_151, call90 a (by omega), call90 b (by omega), h1, h2, call96 a b ha hb]
  unfold refPairs
  generalize keysL a b = ks at hkl
  refine loop_rule (ι := Nat) (S := fun i => ⟨[(0, .fz (a.map k145.enc)), (1, .fz (b.map k145.enc)), (6, .ms 0 5 0 (((ks.take i).map (atC a b)).filter difB).length none), (7, .fz (ks.map Cd.str.enc)), (24, .int .i64 ks.length), (25, .int .i64 i)], [some (.buf 5 ((((ks.take i).map (atC a b)).filter difB).map k151.enc) false true)]⟩) (m := fun i => ks.length + 1 - i)
    (I := fun i => i ≤ ks.length) ?_ 0 _ (Nat.zero_le _) (by kernel_rfl)
  rintro i hi
  by_cases hlt : i < ks.length
  · have hx : ks[i]? = some ks[i] := List.getElem?_eq_getElem hlt
    have hn := filter_take_succ (f := atC a b) (p := difB) hlt
    have hal : (((ks.take i).map (atC a b)).filter difB).length ≤ i := Nat.le_trans (List.length_filter_le _ _) (by simp; omega)
    generalize ((ks.take i).map (atC a b)).filter difB = acc at hn hal
    have hat := fun n => call101 a b ks[i] (by omega) (by omega) n
    generalize atC a b ks[i] = c at hn hat
    have yes : difB c = true → ∃ j, j ≤ ks.length ∧ ks.length + 1 - j < ks.length + 1 - i ∧ (acc ++ [c] = ((ks.take j).map (atC a b)).filter difB) ∧ j = i + 1 := fun hd => ⟨i + 1, by omega, by omega, by rw [hn, if_pos hd], rfl⟩
    have no : difB c = false → ∃ j, j ≤ ks.length ∧ ks.length + 1 - j < ks.length + 1 - i ∧ (acc = ((ks.take j).map (atC a b)).filter difB) ∧ j = i + 1 := fun hd => ⟨i + 1, by omega, by omega, by rw [hn, hd]; simp, rfl⟩
    by_cases h3 : c.f1 = c.f2
    · have h3b : (c.f1 == c.f2) = true := by simpa using h3
      by_cases h4 : c.f3 = c.f4
      · obtain ⟨j, j1, j2, j3, rfl⟩ := no (by simp [difB, h3, h4])
        simp only [go_sem, T_1, T_3, T_4, T_9, T_50, T_51, T_69, T_145, T_151, all_str, hlt, hx, hat, h3b, h4, ba_toList, wrap_i64s (show i < 1000000000000000000 by omega)]
        refine ⟨i + 1, j1, j2, ?_⟩
        simp only [← j3]
        show _ = _
        kernel_rfl
      · obtain ⟨j, j1, j2, j3, rfl⟩ := yes (by simp [difB, h4])
        simp only [go_sem, T_1, T_3, T_4, T_9, T_50, T_51, T_69, T_145, T_151, all_str, hlt, hx, hat, h3b, h4, ba_toList, show (acc.length + 1) * 56 ≤ 140737488355328 by omega, show acc.length + 1 ≤ 140737488355328 by omega, wrap_i64s (show i < 1000000000000000000 by omega)]
        refine ⟨i + 1, j1, j2, ?_⟩
        simp only [← j3, List.map_append, List.map_cons, List.map_nil, List.length_append, List.length_cons, List.length_nil, k151_enc]
        show _ = _
        kernel_rfl
    · have h3b : (c.f1 == c.f2) = false := by simpa using h3
      obtain ⟨j, j1, j2, j3, rfl⟩ := yes (by simp [difB, h3])
      simp only [go_sem, T_1, T_3, T_4, T_9, T_50, T_51, T_69, T_145, T_151, all_str, hlt, hx, hat, h3b, ba_toList, show (acc.length + 1) * 56 ≤ 140737488355328 by omega, show acc.length + 1 ≤ 140737488355328 by omega, wrap_i64s (show i < 1000000000000000000 by omega)]
      refine ⟨i + 1, j1, j2, ?_⟩
      simp only [← j3, List.map_append, List.map_cons, List.map_nil, List.length_append, List.length_cons, List.length_nil, k151_enc]
      show _ = _
      kernel_rfl
  · obtain rfl : i = ks.length := by omega
    rw [List.take_length]
    generalize (ks.map (atC a b)).filter difB = acc
    simp only [go_sem, T_1, T_3, T_4, T_9, T_50, T_51, T_69, T_145, T_151, hlt]
    refine finish_fz ?_
    simp only [frz, frzAll, frzG, frzGAll, ms2, msUp, Rd.run, Heap.at?, List.length_map, Nat.zero_add, Nat.le_refl, and_self, if_true, List.drop_zero, FZ]
    rw [List.take_of_length_le (by simp)]
    show _ = _
    kernel_rfl

/-- The document's changes upon pairs. -/
def refY (a : List S145) : List S151 → List S145 → Option (List S145)
  | [], out => some out
  | c :: r, out => if (lookP c.f0 a).isSome = c.f1 ∧ valP (lookP c.f0 a) = c.f3 then refY a r (if c.f2 = true then putK' S145.f0 ⟨c.f0, c.f4⟩ out else outK S145.f0 c.f0 out) else none
theorem refY_drop {a : List S145} {y : List S151} {j : Nat} (h : j < y.length) {out : List S145} : refY a (y.drop j) out = refY a (y[j] :: y.drop (j + 1)) out := by rw [List.drop_eq_getElem_cons h]
def refYR (o : Option (List S145)) : V := match o with
  | none => .tup [.fz [], .int .i64 3]
  | some m => .tup [.fz (m.map k145.enc), .int .i64 0]
theorem lim45_bad (x : List S145) (y : List S151) (hx : x.length < 1000000000) (hy : y.length < 1000000000) (hb : (riseL x && mayL y) = false) : lim T fns 45 [.fz (x.map k145.enc), .fz (y.map k151.enc)] [] = some (.tup [.fz [], .int .i64 1], []) := by
  refine fn_rule (fn := fn45) rfl rfl (by simp [fn45]) ?_
  unfold fn45
  simp only [Try.f45, Option.getD_some, argEnv, List.map_nil, List.length_nil]
  cases h1 : riseL x with
  | false =>
    simp only [go_sem, T_1, T_3, T_4, T_5, T_9, T_42, T_50, T_51, T_91, T_96, T_121, T_145, T_151, call90 x (by omega), h1]
    show _ = _
    kernel_rfl
  | true =>
    have h2 : mayL y = false := by simpa [h1] using hb
    simp only [go_sem, T_1, T_3, T_4, T_5, T_9, T_42, T_50, T_51, T_91, T_96, T_121, T_145, T_151, call90 x (by omega), call46 y (by omega), h1, h2]
    show _ = _
    kernel_rfl
theorem lim45_ok (x : List S145) (y : List S151) (hx : x.length < 10000000) (hy : y.length < 10000000) (h1 : riseL x = true) (h2 : mayL y = true) : lim T fns 45 [.fz (x.map k145.enc), .fz (y.map k151.enc)] [] = some (refYR (refY x y x), []) := by
  refine fn_rule (fn := fn45) rfl rfl (by simp [fn45]) ?_
  unfold fn45
  simp only [Try.f45, Option.getD_some, argEnv, List.map_nil, List.length_nil]
  have hfz := callFz 109 fn109 (T := T) (fns := fns) rfl rfl 2 rfl
  simp only [go_sem, T_1, T_3, T_4, T_5, T_9, T_42, T_50, T_51, T_91, T_96, T_121, T_145, T_151, call90 x (by omega), call46 y (by omega), h1, h2]
  refine loop_rule (ι := Nat × List S145) (S := fun p => ⟨[(0, .fz (x.map k145.enc)), (1, .fz (y.map k151.enc)), (6, .ms 0 2 0 0 none), (7, .fz (p.2.map k145.enc)), (27, .int .i64 y.length), (28, .int .i64 p.1)], [some (.buf 2 [] false true)]⟩) (m := fun p => y.length + 1 - p.1)
    (I := fun p => p.1 ≤ y.length ∧ p.2.length ≤ x.length + p.1 ∧ risesK (p.2.map S145.f0) = true ∧ refY x (y.drop p.1) p.2 = refY x y x) ?_ (0, x) _ ⟨by simp, by simp, riseL_iff.1 h1, rfl⟩ (by kernel_rfl)
  rintro ⟨i, out⟩ ⟨hi, ho, hr, hg⟩
  simp only at hi ho hr hg
  by_cases hlt : i < y.length
  · have hy1 : y[i]? = some y[i] := List.getElem?_eq_getElem hlt
    rw [refY_drop hlt] at hg
    simp only [refY] at hg
    have hget := fun n => call108 x y[i].f0 (by omega) n
    generalize hp : valP (lookP y[i].f0 x) = p at hget hg
    generalize hq : (lookP y[i].f0 x).isSome = q at hget hg
    have hput := lim109_put out y[i].f0 y[i].f4 (by omega) (riseL_of hr)
    have hdel := lim109_del out y[i].f0 (by omega) (riseL_of hr)
    by_cases h3 : q = y[i].f1
    · have h3b : (q == y[i].f1) = true := by simpa using h3
      by_cases h4 : p = y[i].f3
      · rw [if_pos ⟨h3, h4⟩] at hg
        cases h5 : y[i].f2 with
        | true =>
          rw [if_pos h5] at hg
          simp only [go_sem, T_1, T_3, T_4, T_5, T_9, T_42, T_50, T_51, T_91, T_96, T_121, T_145, T_151, all151, hlt, hy1, hget, k151_enc, h3b, h4, h5, hfz, hput, ba_toList, wrap_i64s (show i < 1000000000000000000 by omega)]
          have := putK'_le (p := ⟨y[i].f0, y[i].f4⟩) (l := out)
          exact ⟨(i + 1, putK' S145.f0 ⟨y[i].f0, y[i].f4⟩ out), ⟨by simp only; omega, by simp only; omega, putK'_rises hr, hg⟩, by simp only; omega, by kernel_rfl⟩
        | false =>
          rw [if_neg (by rw [h5]; simp)] at hg
          simp only [go_sem, T_1, T_3, T_4, T_5, T_9, T_42, T_50, T_51, T_91, T_96, T_121, T_145, T_151, all151, hlt, hy1, hget, k151_enc, h3b, h4, h5, hfz, hdel, ba_toList, wrap_i64s (show i < 1000000000000000000 by omega)]
          have := outK_le (k := y[i].f0) (l := out)
          exact ⟨(i + 1, outK S145.f0 y[i].f0 out), ⟨by simp only; omega, by simp only; omega, outK_rises hr, hg⟩, by simp only; omega, by kernel_rfl⟩
      · rw [if_neg fun h => h4 h.2] at hg
        simp only [go_sem, T_1, T_3, T_4, T_5, T_9, T_42, T_50, T_51, T_91, T_96, T_121, T_145, T_151, all151, hlt, hy1, hget, k151_enc, h3b, h4, ba_toList]
        rw [← hg]
        show _ = _
        kernel_rfl
    · have h3b : (q == y[i].f1) = false := by simpa using h3
      rw [if_neg fun h => h3 h.1] at hg
      simp only [go_sem, T_1, T_3, T_4, T_5, T_9, T_42, T_50, T_51, T_91, T_96, T_121, T_145, T_151, all151, hlt, hy1, hget, k151_enc, h3b, ba_toList]
      rw [← hg]
      show _ = _
      kernel_rfl
  · rw [List.drop_eq_nil_of_le (by omega)] at hg
    simp only [refY] at hg
    simp only [go_sem, T_1, T_3, T_4, T_5, T_9, T_42, T_50, T_51, T_91, T_96, T_121, T_145, T_151, hlt]
    rw [← hg]
    show _ = _
    kernel_rfl
end Go.Proofs.Ytfdemnefkfkghaa.R
/- Chapter 31's laws: the document's Join; the same texts? too great? -/
namespace Go.Proofs.Ytfdemnefkfkghaa.R
open Go Go.Proofs
set_option linter.unusedSimpArgs false
set_option linter.unusedVariables false
set_option maxRecDepth 10000
set_option maxHeartbeats 4000000

theorem lim49 (a b : List ByteArray) (ha : a.length < 1000000000000000000) : lim T fns 49 [.fz (a.map Cd.str.enc), .fz (b.map Cd.str.enc)] [] = some (.bool (decide (a = b)), []) := by
  refine fn_rule (fn := fn49) rfl rfl (by simp [fn49]) ?_
  unfold fn49
  simp only [Try.f49, Option.getD_some, argEnv, List.map_nil, List.length_nil]
  simp only [go_sem, T_3, T_9, T_69]
  split
  · rename_i h0
    have : a ≠ b := by rintro rfl; simp at h0
    simp [this]
  · rename_i h0
    have hlen : a.length = b.length := by simp at h0; omega
    refine loop_rule (ι := Nat) (S := fun i => ⟨[(0, .fz (a.map Cd.str.enc)), (1, .fz (b.map Cd.str.enc)), (12, .int .i64 a.length), (13, .int .i64 i)], []⟩) (m := fun i => a.length + 1 - i)
      (I := fun i => i ≤ a.length ∧ a.take i = b.take i) ?_ 0 _ ⟨by omega, by simp⟩ rfl
    rintro i ⟨hi, hg⟩
    by_cases hlt : i < a.length
    · have hx : a[i]? = some a[i] := List.getElem?_eq_getElem hlt
      have hd : b[i]? = some (b[i]'(by omega)) := List.getElem?_eq_getElem (by omega)
      simp only [go_sem, T_3, T_9, T_69, all_str, hlt, hx, hd, ba_toList, wrap_i64s (show i < 1000000000000000000 by omega)]
      split
      · rename_i he
        have : a ≠ b := by
          rintro rfl
          simp at he
        simp [this]
      · rename_i he
        exact ⟨i + 1, ⟨by omega, take_eq_step hg hlt (by omega) (by simpa using he)⟩, by simp only; omega, rfl⟩
    · have : a = b := take_eq_len hlen hg (by omega)
      simp only [go_sem, T_3, T_9, T_69, hlt]
      simp [this]
theorem call49 (a b : List ByteArray) (ha : a.length < 1000000000000000000) (n : Nat) : callV (LX T fns) n (.clo 49 []) [.fz (a.map Cd.str.enc), .fz (b.map Cd.str.enc)] = .pure (.bool (decide (a = b)), []) := callV_plain (fn := fn49) rfl rfl rfl (lim49 a b ha) n

/-- Both keys' changes, joined; none: they don't fit. -/
def joinK : Option S151 → Option S151 → ByteArray → Option (List S151)
  | some c, some d, k => if c.f2 = d.f1 ∧ c.f4 = d.f3 then some (if difB ⟨k, c.f1, d.f2, c.f3, d.f4⟩ = true then [⟨k, c.f1, d.f2, c.f3, d.f4⟩] else []) else none
  | some c, none, _ => some [c]
  | none, some d, _ => some [d]
  | none, none, _ => some []
def joinRL (x y : List S151) : List ByteArray → List S151 → Option (List S151)
  | [], acc => some acc
  | k :: r, acc => match joinK (lookC k x) (lookC k y) k with
    | some l => joinRL x y r (acc ++ l)
    | none => none
def key145 (c : S151) : S145 := ⟨c.f0, ⟨#[]⟩⟩
def joinKeys (x y : List S151) : List ByteArray := keysL (x.map key145) (y.map key145)
theorem addK_mem {k : ByteArray} : ∀ {l all : List S145}, risesK (all.map S145.f0) = true → ((look S145.f0 k (addK l all)).isSome = true ↔ (look S145.f0 k l).isSome = true ∨ (look S145.f0 k all).isSome = true)
  | [], all, _ => by simp [addK, look]
  | x :: r, all, h => by
    show (look S145.f0 k (addK r (putK' S145.f0 ⟨x.f0, ⟨#[]⟩⟩ all))).isSome = true ↔ _
    rw [addK_mem (putK'_rises h), putK'_look h]
    simp only [look]
    by_cases e : x.f0 = k
    · simp [e]
    · simp [e]
theorem addK_rises : ∀ {l all : List S145}, risesK (all.map S145.f0) = true → risesK ((addK l all).map S145.f0) = true
  | [], all, h => h
  | x :: r, all, h => addK_rises (l := r) (putK'_rises h)
theorem keysP_rises {a b : List S145} : risesK ((keysP a b).map S145.f0) = true := addK_rises (addK_rises rfl)
theorem keysP_mem {a b : List S145} {k : ByteArray} : (lookP k (keysP a b)).isSome = true ↔ (lookP k a).isSome = true ∨ (lookP k b).isSome = true := by
  unfold lookP keysP
  rw [addK_mem (addK_rises rfl), addK_mem rfl]
  simp only [look, Option.isSome_none, Bool.false_eq_true, or_false]
  exact or_comm
theorem keysL_mem {a b : List S145} {k : ByteArray} : k ∈ keysL a b ↔ (lookP k a).isSome = true ∨ (lookP k b).isSome = true := by
  rw [← keysP_mem]
  exact look_isSome.symm
theorem key145_look {k : ByteArray} {l : List S151} : (lookP k (l.map key145)).isSome = (lookC k l).isSome := by
  unfold lookP lookC
  rw [look_map (key := S151.f0) (key' := S145.f0) (f := key145) (fun _ => rfl)]
  cases look S151.f0 k l <;> rfl
theorem joinKeys_mem {x y : List S151} {k : ByteArray} : k ∈ joinKeys x y ↔ (lookC k x).isSome = true ∨ (lookC k y).isSome = true := by
  unfold joinKeys
  rw [keysL_mem, key145_look, key145_look]
def joinRR (o : Option (List S151)) : V := match o with
  | none => .tup [.fz [], .int .i64 3]
  | some m => .tup [.fz (m.map k151.enc), .int .i64 0]
theorem joinRL_drop {x y : List S151} {ks : List ByteArray} {i : Nat} (h : i < ks.length) {acc : List S151} : joinRL x y (ks.drop i) acc = match joinK (lookC ks[i] x) (lookC ks[i] y) ks[i] with
    | some l => joinRL x y (ks.drop (i + 1)) (acc ++ l)
    | none => none := by
  rw [List.drop_eq_getElem_cons h]
  rfl
theorem joinK_le {p q : Option S151} {k : ByteArray} {l : List S151} (h : joinK p q k = some l) : l.length ≤ 1 := by
  unfold joinK at h
  split at h
  · split at h
    · cases h; split <;> simp
    · cases h
  · cases h; simp
  · cases h; simp
  · cases h; simp
theorem lim37_bad (x y : List S151) (hx : x.length < 1000000000) (hy : y.length < 1000000000) (hb : (mayL x && mayL y) = false) : lim T fns 37 [.fz (x.map k151.enc), .fz (y.map k151.enc)] [] = some (.tup [.fz [], .int .i64 1], []) := by
  refine fn_rule (fn := fn37) rfl rfl (by simp [fn37]) ?_
  unfold fn37
  simp only [Try.f37, Option.getD_some, argEnv, List.map_nil, List.length_nil]
  cases h1 : mayL x with
  | false =>
    simp only [go_sem, T_1, T_3, T_4, T_9, T_50, T_51, T_69, T_145, T_151, call46 x (by omega), h1]
    show _ = _
    kernel_rfl
  | true =>
    have h2 : mayL y = false := by simpa [h1] using hb
    simp only [go_sem, T_1, T_3, T_4, T_9, T_50, T_51, T_69, T_145, T_151, call46 x (by omega), call46 y (by omega), h1, h2]
    show _ = _
    kernel_rfl
theorem geN (j : Nat) : ((j : Int) ≥ 0) = True := by simp
theorem geM : ((-1 : Int) ≥ 0) = False := by simp
theorem lim37_ok (x y : List S151) (hx : x.length < 1000000) (hy : y.length < 1000000) (h1 : mayL x = true) (h2 : mayL y = true) : lim T fns 37 [.fz (x.map k151.enc), .fz (y.map k151.enc)] [] = some (joinRR (joinRL x y (joinKeys x y) []), []) := by
  refine fn_rule (fn := fn37) rfl rfl (by simp [fn37]) ?_
  unfold fn37
  simp only [Try.f37, Option.getD_some, argEnv, List.map_nil, List.length_nil]
  have hfz := callFz 96 fn96 (T := T) (fns := fns) rfl rfl 2 rfl
  simp only [go_sem, T_1, T_3, T_4, T_9, T_50, T_51, T_69, T_145, T_151, call46 x (by omega), call46 y (by omega), h1, h2]
  refine loop_rule (ι := Nat) (S := fun i => ⟨[(0, .fz (x.map k151.enc)), (1, .fz (y.map k151.enc)), (6, .ms 0 5 0 0 none), (7, .ms 1 2 0 ((x.map key145).take i).length none), (28, .int .i64 x.length), (29, .int .i64 i)], [some (.buf 5 [] false true), some (.buf 2 (((x.map key145).take i).map k145.enc) false true)]⟩) (m := fun i => x.length + 1 - i)
    (I := fun i => i ≤ x.length) ?_ 0 _ (Nat.zero_le _) (by kernel_rfl)
  rintro i hi
  by_cases hlt : i < x.length
  · have hx1 : x[i]? = some x[i] := List.getElem?_eq_getElem hlt
    have hn : (x.map key145).take (i + 1) = (x.map key145).take i ++ [⟨x[i].f0, ⟨#[]⟩⟩] := by rw [List.take_succ_eq_append_getElem (by simpa using hlt)]; simp [key145]
    have hal : ((x.map key145).take i).length = i := by simp; omega
    generalize (x.map key145).take i = acc at hn hal
    simp only [go_sem, T_1, T_3, T_4, T_9, T_50, T_51, T_69, T_145, T_151, all151, hlt, hx1, k151_enc, show (acc.length + 1) * 32 ≤ 140737488355328 by omega, show acc.length + 1 ≤ 140737488355328 by omega, wrap_i64s (show i < 1000000000000000000 by omega)]
    refine ⟨i + 1, by omega, by simp only; omega, ?_⟩
    simp only [hn]
    simp only [List.map_append, List.map_cons, List.map_nil, List.length_append, List.length_cons, List.length_nil, k145_enc]
    show _ = _
    kernel_rfl
  obtain rfl : i = x.length := by omega
  rw [show (x.map key145).take x.length = x.map key145 from List.take_of_length_le (by simp)]
  simp only [go_sem, T_1, T_3, T_4, T_9, T_50, T_51, T_69, T_145, T_151, hlt]
  clear hlt hi
  have hal0 : (x.map key145).length < 1000000 := by simpa using hx
  refine loop_rule (ι := Nat) (S := fun i => ⟨[(0, .fz (x.map k151.enc)), (1, .fz (y.map k151.enc)), (6, .ms 0 5 0 0 none), (7, .ms 1 2 0 (x.map key145).length none), (9, .ms 2 2 0 ((y.map key145).take i).length none), (44, .int .i64 y.length), (45, .int .i64 i)], [some (.buf 5 [] false true), some (.buf 2 ((x.map key145).map k145.enc) false true), some (.buf 2 (((y.map key145).take i).map k145.enc) false true)]⟩) (m := fun i => y.length + 1 - i)
    (I := fun i => i ≤ y.length) ?_ 0 _ (Nat.zero_le _) (by simp only [List.length_map]; kernel_rfl)
  rintro i hi
  by_cases hlt : i < y.length
  · have hy1 : y[i]? = some y[i] := List.getElem?_eq_getElem hlt
    have hn : (y.map key145).take (i + 1) = (y.map key145).take i ++ [⟨y[i].f0, ⟨#[]⟩⟩] := by rw [List.take_succ_eq_append_getElem (by simpa using hlt)]; simp [key145]
    have hal : ((y.map key145).take i).length = i := by simp; omega
    generalize (y.map key145).take i = acc at hn hal
    simp only [go_sem, T_1, T_3, T_4, T_9, T_50, T_51, T_69, T_145, T_151, all151, hlt, hy1, k151_enc, show (acc.length + 1) * 32 ≤ 140737488355328 by omega, show acc.length + 1 ≤ 140737488355328 by omega, wrap_i64s (show i < 1000000000000000000 by omega)]
    refine ⟨i + 1, by omega, by simp only; omega, ?_⟩
    simp only [hn]
    simp only [List.map_append, List.map_cons, List.map_nil, List.length_append, List.length_cons, List.length_nil, k145_enc]
    show _ = _
    kernel_rfl
  obtain rfl : i = y.length := by omega
  rw [show (y.map key145).take y.length = y.map key145 from List.take_of_length_le (by simp)]
  have hal1 : (y.map key145).length < 1000000 := by simpa using hy
  have hks := lim96 (x.map key145) (y.map key145) (by omega) (by omega)
  have hkl := keysL_le (a := x.map key145) (b := y.map key145)
  have hmem := fun k => joinKeys_mem (x := x) (y := y) (k := k)
  unfold joinKeys at hmem ⊢
  generalize hX : x.map key145 = X at *
  generalize hY : y.map key145 = Y at *
  simp only [go_sem, T_1, T_3, T_4, T_9, T_50, T_51, T_69, T_145, T_151, hlt, hfz, hks]
  generalize keysL X Y = ks at hkl hmem
  refine loop_rule (ι := Nat × List S151) (S := fun p => ⟨[(0, .fz (x.map k151.enc)), (1, .fz (y.map k151.enc)), (6, .ms 0 5 0 p.2.length none), (11, .fz (ks.map Cd.str.enc)), (62, .int .i64 ks.length), (63, .int .i64 p.1)], [some (.buf 5 (p.2.map k151.enc) false true)]⟩) (m := fun p => ks.length + 1 - p.1)
    (I := fun p => p.1 ≤ ks.length ∧ p.2.length ≤ p.1 ∧ joinRL x y (ks.drop p.1) p.2 = joinRL x y ks []) ?_ (0, []) _ ⟨by simp, by simp, rfl⟩ (by kernel_rfl)
  clear hlt hi
  rintro ⟨i, acc⟩ ⟨hi, ha, hg⟩
  simp only at hi ha hg
  by_cases hlt : i < ks.length
  · have hx1 : ks[i]? = some ks[i] := List.getElem?_eq_getElem hlt
    have hm := (hmem ks[i]).1 (List.getElem_mem hlt)
    rw [joinRL_drop hlt] at hg
    have hfx := fun n => call97 x ks[i] (by omega) n
    have hfy := fun n => call97 y ks[i] (by omega) n
    have step : ∀ l, joinK (lookC ks[i] x) (lookC ks[i] y) ks[i] = some l → (i + 1 ≤ ks.length ∧ (acc ++ l).length ≤ i + 1 ∧ joinRL x y (ks.drop (i + 1)) (acc ++ l) = joinRL x y ks []) := fun l hl => by
      have := joinK_le hl
      rw [hl] at hg
      exact ⟨by omega, by rw [List.length_append]; omega, hg⟩
    rcases posC_spec (k := ks[i]) x 0 with ⟨hx2, hx3⟩ | ⟨p, c, hx2, hx3, hx4⟩ <;> rcases posC_spec (k := ks[i]) y 0 with ⟨hy2, hy3⟩ | ⟨q, d, hy2, hy3, hy4⟩
    · simp [hx2, hy2] at hm
    · rw [hx2, hy3] at step
      obtain ⟨s1, s2, s3⟩ := step _ rfl
      rw [hx3] at hfx
      rw [hy4, Nat.zero_add] at hfy
      simp only [go_sem, T_1, T_3, T_4, T_9, T_50, T_51, T_69, T_145, T_151, all_str, all151, hlt, hx1, hfx, hfy, hy2, geM, geN, k151_enc, show (acc.length + 1) * 56 ≤ 140737488355328 by omega, show acc.length + 1 ≤ 140737488355328 by omega, wrap_i64s (show i < 1000000000000000000 by omega)]
      refine ⟨(i + 1, acc ++ [d]), ⟨s1, s2, s3⟩, by simp only; omega, ?_⟩
      simp only [List.map_append, List.map_cons, List.map_nil, List.length_append, List.length_cons, List.length_nil, k151_enc]
      show _ = _
      kernel_rfl
    · rw [hx3, hy2] at step
      obtain ⟨s1, s2, s3⟩ := step _ rfl
      rw [hx4, Nat.zero_add] at hfx
      rw [hy3] at hfy
      simp only [go_sem, T_1, T_3, T_4, T_9, T_50, T_51, T_69, T_145, T_151, all_str, all151, hlt, hx1, hfx, hfy, hx2, geM, geN, k151_enc, show (acc.length + 1) * 56 ≤ 140737488355328 by omega, show acc.length + 1 ≤ 140737488355328 by omega, wrap_i64s (show i < 1000000000000000000 by omega)]
      refine ⟨(i + 1, acc ++ [c]), ⟨s1, s2, s3⟩, by simp only; omega, ?_⟩
      simp only [List.map_append, List.map_cons, List.map_nil, List.length_append, List.length_cons, List.length_nil, k151_enc]
      show _ = _
      kernel_rfl
    · rw [hx3, hy3] at step hg
      rw [hx4, Nat.zero_add] at hfx
      rw [hy4, Nat.zero_add] at hfy
      simp only [joinK] at step hg
      have bad : ¬ (c.f2 = d.f1 ∧ c.f4 = d.f3) → joinRR (joinRL x y ks []) = .tup [.fz [], .int .i64 3] := fun h => by
        rw [if_neg h] at hg
        rw [← hg]
        rfl
      by_cases h3 : c.f2 = d.f1
      · have h3b : (c.f2 == d.f1) = true := by simpa using h3
        by_cases h4 : c.f4 = d.f3
        · rw [if_pos ⟨h3, h4⟩] at step
          by_cases h5 : c.f1 = d.f2
          · have h5b : (c.f1 == d.f2) = true := by simpa using h5
            by_cases h6 : c.f3 = d.f4
            · rw [if_neg (by simp [difB, h5, h6])] at step
              obtain ⟨s1, s2, s3⟩ := step _ rfl
              simp only [go_sem, T_1, T_3, T_4, T_9, T_50, T_51, T_69, T_145, T_151, all_str, all151, hlt, hx1, hfx, hfy, hx2, hy2, geN, k151_enc, h3b, h4, h5b, h6, ba_toList, wrap_i64s (show i < 1000000000000000000 by omega)]
              rw [List.append_nil] at s2 s3
              repeat (refine ⟨by kernel_rfl, ?_⟩)
              exact ⟨(i + 1, acc), ⟨s1, s2, s3⟩, by simp only; omega, by kernel_rfl⟩
            · rw [if_pos (by simp [difB, h6])] at step
              obtain ⟨s1, s2, s3⟩ := step _ rfl
              simp only [go_sem, T_1, T_3, T_4, T_9, T_50, T_51, T_69, T_145, T_151, all_str, all151, hlt, hx1, hfx, hfy, hx2, hy2, geN, k151_enc, h3b, h4, h5b, h6, ba_toList, show (acc.length + 1) * 56 ≤ 140737488355328 by omega, show acc.length + 1 ≤ 140737488355328 by omega, wrap_i64s (show i < 1000000000000000000 by omega)]
              repeat (refine ⟨by kernel_rfl, ?_⟩)
              refine ⟨(i + 1, acc ++ [⟨ks[i], c.f1, d.f2, c.f3, d.f4⟩]), ⟨s1, s2, s3⟩, by simp only; omega, ?_⟩
              simp only [List.map_append, List.map_cons, List.map_nil, List.length_append, List.length_cons, List.length_nil, k151_enc]
              show _ = _
              kernel_rfl
          · have h5b : (c.f1 == d.f2) = false := by simpa using h5
            rw [if_pos (by simp [difB, h5])] at step
            obtain ⟨s1, s2, s3⟩ := step _ rfl
            simp only [go_sem, T_1, T_3, T_4, T_9, T_50, T_51, T_69, T_145, T_151, all_str, all151, hlt, hx1, hfx, hfy, hx2, hy2, geN, k151_enc, h3b, h4, h5b, ba_toList, show (acc.length + 1) * 56 ≤ 140737488355328 by omega, show acc.length + 1 ≤ 140737488355328 by omega, wrap_i64s (show i < 1000000000000000000 by omega)]
            repeat (refine ⟨by kernel_rfl, ?_⟩)
            refine ⟨(i + 1, acc ++ [⟨ks[i], c.f1, d.f2, c.f3, d.f4⟩]), ⟨s1, s2, s3⟩, by simp only; omega, ?_⟩
            simp only [List.map_append, List.map_cons, List.map_nil, List.length_append, List.length_cons, List.length_nil, k151_enc]
            show _ = _
            kernel_rfl
        · simp only [go_sem, T_1, T_3, T_4, T_9, T_50, T_51, T_69, T_145, T_151, all_str, all151, hlt, hx1, hfx, hfy, hx2, hy2, geN, k151_enc, h3b, h4, ba_toList]
          rw [bad fun h => h4 h.2]
          show _ = _
          kernel_rfl
      · have h3b : (c.f2 == d.f1) = false := by simpa using h3
        simp only [go_sem, T_1, T_3, T_4, T_9, T_50, T_51, T_69, T_145, T_151, all_str, all151, hlt, hx1, hfx, hfy, hx2, hy2, geN, k151_enc, h3b, ba_toList]
        rw [bad fun h => h3 h.1]
        show _ = _
        kernel_rfl
  · rw [List.drop_eq_nil_of_le (by omega)] at hg
    simp only [joinRL] at hg
    simp only [go_sem, T_1, T_3, T_4, T_9, T_50, T_51, T_69, T_145, T_151, hlt]
    rw [← hg]
    simp only [joinRR]
    refine finish_fz ?_
    simp only [frz, frzAll, frzG, frzGAll, ms2, msUp, Rd.run, Heap.at?, List.length_map, Nat.zero_add, Nat.le_refl, and_self, if_true, List.drop_zero, FZ]
    rw [List.take_of_length_le (by simp)]
    show _ = _
    kernel_rfl
end Go.Proofs.Ytfdemnefkfkghaa.R
/- Chapter 31's laws: too great? diff.Merge. -/
namespace Go.Proofs.Ytfdemnefkfkghaa.R
open Go Go.Proofs
set_option linter.unusedSimpArgs false
set_option linter.unusedVariables false
set_option maxRecDepth 10000
set_option maxHeartbeats 4000000

def greatPairs (l : List S145) : Bool := decide (60 < l.length) || l.any fun p => decide (100 < p.f0.size) || decide (100 < p.f1.size)

theorem any_drop {α : Type} {f : α → Bool} {l : List α} {i : Nat} (h : i < l.length) : (l.drop i).any f = (f l[i] || (l.drop (i + 1)).any f) := by
  rw [List.drop_eq_getElem_cons h]
  rfl

theorem lim34 (l : List S145) : lim T fns 34 [.fz (l.map k145.enc)] [] = some (.bool (greatPairs l), []) := by
  refine fn_rule (fn := fn34) rfl rfl (by simp [fn34]) ?_
  unfold fn34
  simp only [Try.f34, Option.getD_some, argEnv, List.map_nil, List.length_nil]
  simp only [go_sem, T_3, T_9, T_51, T_145]
  split
  · rename_i h0
    have : 60 < l.length := by omega
    simp [greatPairs, this]
  · rename_i h0
    have h60 : ¬ 60 < l.length := by omega
    refine loop_rule (ι := Nat) (S := fun i => ⟨[(0, .fz (l.map k145.enc)), (8, .int .i64 l.length), (9, .int .i64 i)], []⟩) (m := fun i => l.length + 1 - i)
      (I := fun i => i ≤ l.length ∧ ((l.drop i).any fun p => decide (100 < p.f0.size) || decide (100 < p.f1.size)) = greatPairs l) ?_ 0 _ ⟨by omega, by simp [greatPairs, h60]⟩ rfl
    rintro i ⟨hi, hg⟩
    by_cases hlt : i < l.length
    · have hx : l[i]? = some l[i] := List.getElem?_eq_getElem hlt
      rw [any_drop hlt] at hg
      by_cases h1 : 100 < l[i].f0.size
      · have e1 : decide ((l[i].f0.size : Int) > 100) = true := by simp; omega
        simp only [go_sem, T_3, T_9, T_51, T_145, all145, hlt, hx, k145_enc, e1, wrap_i64s (show i < 1000000000000000000 by omega)]
        simpa [h1] using hg
      · have e1 : decide ((l[i].f0.size : Int) > 100) = false := by simp; omega
        by_cases h2 : 100 < l[i].f1.size
        · have e2 : decide ((l[i].f1.size : Int) > 100) = true := by simp; omega
          simp only [go_sem, T_3, T_9, T_51, T_145, all145, hlt, hx, k145_enc, e1, e2, wrap_i64s (show i < 1000000000000000000 by omega)]
          simpa [h1, h2] using hg
        · have e2 : decide ((l[i].f1.size : Int) > 100) = false := by simp; omega
          simp only [go_sem, T_3, T_9, T_51, T_145, all145, hlt, hx, k145_enc, e1, e2, wrap_i64s (show i < 1000000000000000000 by omega)]
          exact ⟨i + 1, ⟨by omega, by simpa [h1, h2] using hg⟩, by simp only; omega, rfl⟩
    · rw [List.drop_eq_nil_of_le (by omega)] at hg
      simp only [go_sem, T_3, T_9, T_51, T_145, hlt]
      rw [← hg]
      rfl
theorem call34 (l : List S145) (n : Nat) : callV (LX T fns) n (.clo 34 []) [.fz (l.map k145.enc)] = .pure (.bool (greatPairs l), []) := callV_plain (fn := fn34) rfl rfl rfl (lim34 l) n

def greatC (l : List S151) : Bool := decide (60 < l.length) || l.any fun p => decide (100 < p.f0.size) || decide (100 < p.f3.size) || decide (100 < p.f4.size)
theorem lim33 (l : List S151) : lim T fns 33 [.fz (l.map k151.enc)] [] = some (.bool (greatC l), []) := by
  refine fn_rule (fn := fn33) rfl rfl (by simp [fn33]) ?_
  unfold fn33
  simp only [Try.f33, Option.getD_some, argEnv, List.map_nil, List.length_nil]
  simp only [go_sem, T_3, T_4, T_9, T_50, T_151]
  split
  · rename_i h0
    have : 60 < l.length := by omega
    simp [greatC, this]
  · rename_i h0
    have h60 : ¬ 60 < l.length := by omega
    refine loop_rule (ι := Nat) (S := fun i => ⟨[(0, .fz (l.map k151.enc)), (8, .int .i64 l.length), (9, .int .i64 i)], []⟩) (m := fun i => l.length + 1 - i)
      (I := fun i => i ≤ l.length ∧ ((l.drop i).any fun p => decide (100 < p.f0.size) || decide (100 < p.f3.size) || decide (100 < p.f4.size)) = greatC l) ?_ 0 _ ⟨by omega, by simp [greatC, h60]⟩ rfl
    rintro i ⟨hi, hg⟩
    by_cases hlt : i < l.length
    · have hx : l[i]? = some l[i] := List.getElem?_eq_getElem hlt
      rw [any_drop hlt] at hg
      by_cases h1 : 100 < l[i].f0.size
      · have e1 : decide ((l[i].f0.size : Int) > 100) = true := by simp; omega
        simp only [go_sem, T_3, T_4, T_9, T_50, T_151, all151, hlt, hx, k151_enc, e1, wrap_i64s (show i < 1000000000000000000 by omega)]
        simpa [h1] using hg
      · have e1 : decide ((l[i].f0.size : Int) > 100) = false := by simp; omega
        by_cases h2 : 100 < l[i].f3.size
        · have e2 : decide ((l[i].f3.size : Int) > 100) = true := by simp; omega
          simp only [go_sem, T_3, T_4, T_9, T_50, T_151, all151, hlt, hx, k151_enc, e1, e2, wrap_i64s (show i < 1000000000000000000 by omega)]
          simpa [h1, h2] using hg
        · have e2 : decide ((l[i].f3.size : Int) > 100) = false := by simp; omega
          by_cases h3 : 100 < l[i].f4.size
          · have e3 : decide ((l[i].f4.size : Int) > 100) = true := by simp; omega
            simp only [go_sem, T_3, T_4, T_9, T_50, T_151, all151, hlt, hx, k151_enc, e1, e2, e3, wrap_i64s (show i < 1000000000000000000 by omega)]
            simpa [h1, h2, h3] using hg
          · have e3 : decide ((l[i].f4.size : Int) > 100) = false := by simp; omega
            simp only [go_sem, T_3, T_4, T_9, T_50, T_151, all151, hlt, hx, k151_enc, e1, e2, e3, wrap_i64s (show i < 1000000000000000000 by omega)]
            exact ⟨i + 1, ⟨by omega, by simpa [h1, h2, h3] using hg⟩, by simp only; omega, rfl⟩
    · rw [List.drop_eq_nil_of_le (by omega)] at hg
      simp only [go_sem, T_3, T_4, T_9, T_50, T_151, hlt]
      rw [← hg]
      rfl
theorem call33 (l : List S151) (n : Nat) : callV (LX T fns) n (.clo 33 []) [.fz (l.map k151.enc)] = .pure (.bool (greatC l), []) := callV_plain (fn := fn33) rfl rfl rfl (lim33 l) n

theorem upGo_of {α : Type} {ok : α → Bool} {key : α → ByteArray} : ∀ {l : List α} {p : Option ByteArray}, risesK (l.map key) = true → (∀ x ∈ l, ok x = true) → (∀ x ∈ l.head?, ∀ q ∈ p, ltS q (key x) = true) → upGo ok key p l = true
  | [], p, _, _, _ => rfl
  | x :: r, p, h, ho, hp => by
    simp only [upGo, ho x (.head _), Bool.true_and, Bool.and_eq_true]
    refine ⟨?_, upGo_of (rises_tl h) (fun y hy => ho y (.tail _ hy)) fun y hy q hq => ?_⟩
    · cases p with
      | none => rfl
      | some q => exact hp x rfl q rfl
    · simp only [Option.mem_def, Option.some.injEq] at hq
      subst hq
      exact rises_head h y (List.mem_of_mem_head? hy)
theorem upGo_all {α : Type} {ok : α → Bool} {key : α → ByteArray} : ∀ {l : List α} {p : Option ByteArray}, upGo ok key p l = true → ∀ x ∈ l, ok x = true
  | [], _, _, x, hx => by simp at hx
  | y :: r, p, h, x, hx => by
    simp only [upGo, Bool.and_eq_true] at h
    rcases List.mem_cons.1 hx with rfl | hx
    · exact h.1.1
    · exact upGo_all h.2 x hx
theorem mayL_iff {l : List S151} : mayL l = true ↔ risesK (l.map S151.f0) = true ∧ ∀ c ∈ l, mayB c = true := ⟨fun h => ⟨mayL_rises h, upGo_all h⟩, fun h => upGo_of h.1 h.2 (by simp)⟩
theorem mayL_filter {l : List S151} {p : S151 → Bool} (h : mayL l = true) : mayL (l.filter p) = true := by
  rw [mayL_iff] at h ⊢
  exact ⟨rises_filter h.1, fun c hc => h.2 c (List.mem_filter.1 hc).1⟩
theorem pairsL_rises {a b : List S145} (ha : riseL a = true) (hb : riseL b = true) : risesK ((pairsL a b).map S151.f0) = true := rises_filter (both_rises (riseL_iff.1 ha) (riseL_iff.1 hb))
theorem pairsL_may {a b : List S145} (ha : riseL a = true) (hb : riseL b = true) : mayL (pairsL a b) = true := mayL_iff.2 ⟨pairsL_rises ha hb, fun c hc => (List.mem_filter.1 hc).2⟩
theorem both_le : ∀ {n : Nat} {a b : List S145}, (bothL n a b).length ≤ a.length + b.length
  | 0, _, _ => by simp [bothL]
  | n + 1, [], [] => by simp [bothL]
  | n + 1, x :: a, [] => by
    have := both_le (n := n) (a := a) (b := [])
    simp only [bothL, List.length_cons] at this ⊢
    omega
  | n + 1, [], y :: b => by
    have := both_le (n := n) (a := []) (b := b)
    simp only [bothL, List.length_cons] at this ⊢
    omega
  | n + 1, x :: a, y :: b => by
    have h1 := both_le (n := n) (a := x :: a) (b := b)
    have h2 := both_le (n := n) (a := a) (b := b)
    have h3 := both_le (n := n) (a := a) (b := y :: b)
    simp only [List.length_cons] at h1 h2 h3 ⊢
    simp only [bothL]
    split
    · simp only [List.length_cons]; omega
    · split
      · simp only [List.length_cons]; omega
      · simp only [List.length_cons]; omega
theorem pairsL_le {a b : List S145} : (pairsL a b).length ≤ a.length + b.length := Nat.le_trans (List.length_filter_le _ _) both_le

theorem call39_ok (a b : List S145) (ha : a.length < 100000000) (hb : b.length < 100000000) (h1 : riseL a = true) (h2 : riseL b = true) (n : Nat) : callV (LX T fns) n (.clo 39 []) [.fz (a.map k145.enc), .fz (b.map k145.enc)] = .pure (.tup [.fz ((pairsL a b).map k151.enc), .int .i64 0], []) := callV_plain (fn := fn39) rfl rfl rfl (lim39_ok a b ha hb h1 h2) n
def keyC (c : S151) : V × V := (.str c.f0, valC c)
theorem findKeyC {k : ByteArray} : ∀ {l : List S151}, findKey (.str k) (l.map keyC) = some ((lookC k l).map valC)
  | [] => rfl
  | x :: r => by
    simp only [List.map_cons, keyC, findKey, eqCell, lookC, look]
    by_cases h : x.f0 = k
    · subst h
      simp [ba_beq]
    · have e : (k == x.f0) = false := by
        rw [ba_beq]
        simpa using fun e : k = x.f0 => h e.symm
      simp only [e, h, if_false]
      exact findKeyC
theorem setKeyC {k : ByteArray} {v : V} : ∀ {l : List S151}, (∀ x ∈ l, x.f0 ≠ k) → setKey (.str k) v (l.map keyC) = some (l.map keyC ++ [(.str k, v)])
  | [], _ => rfl
  | x :: r, h => by
    have h1 := h x (.head _)
    have e : (k == x.f0) = false := by
      rw [ba_beq]
      simpa using fun h : k = x.f0 => h1 h.symm
    simp only [List.map_cons, keyC, setKey, eqCell, e]
    have := setKeyC (v := v) fun y hy => h y (.tail _ hy)
    rw [this]
    rfl
def onlyL (mine his : List S151) : List S151 := his.filter fun c => (lookC c.f0 mine).isNone
def tornB (mine : List S151) (c : S151) : Bool := match lookC c.f0 mine with
  | some m => !decide (m = c)
  | none => false
def tornL (mine his : List S151) : List ByteArray := (his.filter (tornB mine)).map S151.f0
def mergeR (o : Option (List ByteArray × List ByteArray)) (torn : List ByteArray) : V := match o with
  | none => .tup [.fz [], .fz (torn.map Cd.str.enc), .int .i64 3]
  | some m => .tup [.fz ((zipS m.1 m.2).map k145.enc), .fz (torn.map Cd.str.enc), .int .i64 0]
theorem lim47_ok (a b c : List S145) (ha : a.length < 1000000) (hb : b.length < 1000000) (hc : c.length < 1000000) (h1 : riseL a = true) (h2 : riseL b = true) (h3 : riseL c = true) : lim T fns 47 [.fz (a.map k145.enc), .fz (b.map k145.enc), .fz (c.map k145.enc)] [] =
    some (mergeR (applyY (onlyL (pairsL a b) (pairsL a c)) (b.map S145.f0) (b.map S145.f1)) (tornL (pairsL a b) (pairsL a c)), []) := by
  refine fn_rule (fn := fn47) rfl rfl (by simp [fn47]) ?_
  unfold fn47
  simp only [Try.f47, Option.getD_some, argEnv, List.map_nil, List.length_nil]
  have hfz := callFz 41 fn41 (T := T) (fns := fns) rfl rfl 2 rfl
  have hp1 := fun n => call39_ok a b (by omega) (by omega) h1 h2 n
  have hp2 := fun n => call39_ok a c (by omega) (by omega) h1 h3 n
  have hr1 := pairsL_rises h1 h2
  have hm2 := pairsL_may h1 h3
  have hl1 := pairsL_le (a := a) (b := b)
  have hl2 := pairsL_le (a := a) (b := c)
  generalize pairsL a b = mine at *
  generalize pairsL a c = his at *
  have hk : ∀ s, isKey T 9 (.str s) = true := fun s => rfl
  have hfit : ∀ x : S151, fits ⟨.struct [(0, 9), (1, 4), (2, 4), (3, 9), (4, 9)], 5, 56, .agg [.str ⟨#[]⟩, .bool false, .bool false, .str ⟨#[]⟩, .str ⟨#[]⟩]⟩ (.agg [.str x.f0, .bool x.f1, .bool x.f2, .str x.f3, .str x.f4]) = true := fun x => rfl
  simp only [go_sem, T_1, T_3, T_4, T_9, T_25, T_50, T_51, T_69, T_145, T_151, T_176, hp1, hp2]
  refine loop_rule (ι := Nat) (S := fun i => ⟨[(1, .fz (b.map k145.enc)), (11, .fz (his.map k151.enc)), (12, .map 0), (41, .fz (mine.map k151.enc)), (42, .int .i64 mine.length), (43, .int .i64 i)], [some (.mp ((mine.take i).map keyC) true)]⟩) (m := fun i => mine.length + 1 - i)
    (I := fun i => i ≤ mine.length) ?_ 0 _ (Nat.zero_le _) (by kernel_rfl)
  rintro i hi
  by_cases hlt : i < mine.length
  · have hx : mine[i]? = some mine[i] := List.getElem?_eq_getElem hlt
    have hn : (mine.take (i + 1)).map keyC = (mine.take i).map keyC ++ [(.str mine[i].f0, .agg [.str mine[i].f0, .bool mine[i].f1, .bool mine[i].f2, .str mine[i].f3, .str mine[i].f4])] := by rw [List.take_succ_eq_append_getElem hlt, List.map_append]; rfl
    have hs := fun v => setKeyC (k := mine[i].f0) (v := v) (l := mine.take i) fun x hx e => by
      have h := rises_before hr1 (i := i) (by simpa using hlt) x.f0 (by rw [← List.map_take]; exact List.mem_map_of_mem hx)
      rw [List.getElem_map] at h
      exact ltS_ne h e
    simp only [go_sem, T_1, T_3, T_4, T_9, T_25, T_50, T_51, T_69, T_145, T_151, T_176, all151, hlt, hx, k151_enc, mapUpdateR, hk, hfit, hs, wrap_i64s (show i < 1000000000000000000 by omega)]
    refine ⟨i + 1, by omega, by simp only; omega, ?_⟩
    simp only [hn]
    show _ = _
    kernel_rfl
  obtain rfl : i = mine.length := by omega
  rw [List.take_length]
  simp only [go_sem, T_1, T_3, T_4, T_9, T_25, T_50, T_51, T_69, T_145, T_151, T_176, hlt]
  clear hlt hi
  refine loop_rule (ι := Nat) (S := fun i => ⟨[(1, .fz (b.map k145.enc)), (12, .map 0), (15, .ms 1 5 0 (onlyL mine (his.take i)).length none), (16, .ms 2 1 0 (tornL mine (his.take i)).length none), (52, .fz (his.map k151.enc)), (53, .int .i64 his.length), (54, .int .i64 i)], [some (.mp (mine.map keyC) true), some (.buf 5 ((onlyL mine (his.take i)).map k151.enc) false true), some (.buf 1 ((tornL mine (his.take i)).map Cd.str.enc) false true)]⟩) (m := fun i => his.length + 1 - i)
    (I := fun i => i ≤ his.length) ?_ 0 _ (Nat.zero_le _) (by kernel_rfl)
  rintro i hi
  by_cases hlt : i < his.length
  · have hx : his[i]? = some his[i] := List.getElem?_eq_getElem hlt
    have ho : onlyL mine (his.take (i + 1)) = onlyL mine (his.take i) ++ (if (lookC his[i].f0 mine).isNone = true then [his[i]] else []) := by
      unfold onlyL
      rw [List.take_succ_eq_append_getElem hlt, List.filter_append]
      cases h : (lookC his[i].f0 mine).isNone <;> simp [List.filter, h]
    have ht : tornL mine (his.take (i + 1)) = tornL mine (his.take i) ++ (if tornB mine his[i] = true then [his[i].f0] else []) := by
      unfold tornL
      rw [List.take_succ_eq_append_getElem hlt, List.filter_append, List.map_append]
      cases h : tornB mine his[i] <;> simp [List.filter, h]
    have hol : (onlyL mine (his.take i)).length ≤ i := Nat.le_trans (List.length_filter_le _ _) (by simp; omega)
    have htl : (tornL mine (his.take i)).length ≤ i := by
      unfold tornL
      rw [List.length_map]
      exact Nat.le_trans (List.length_filter_le _ _) (by simp; omega)
    generalize onlyL mine (his.take i) = only at ho hol
    generalize tornL mine (his.take i) = torn at ht htl
    have hfk := findKeyC (k := his[i].f0) (l := mine)
    unfold tornB at ht
    cases hlk : lookC his[i].f0 mine with
    | none =>
      rw [hlk] at hfk ho ht
      simp only [Option.isNone_none, if_true, Bool.false_eq_true, if_false, List.append_nil] at ho ht
      simp only [go_sem, T_1, T_3, T_4, T_9, T_25, T_50, T_51, T_69, T_145, T_151, T_176, all151, hlt, hx, k151_enc, lookupR, hk, hfk, giveR, Option.map_none, Option.isSome_none, show (only.length + 1) * 56 ≤ 140737488355328 by omega, show only.length + 1 ≤ 140737488355328 by omega, wrap_i64s (show i < 1000000000000000000 by omega)]
      refine ⟨i + 1, by omega, by simp only; omega, ?_⟩
      simp only [ho, ht]
      simp only [List.map_append, List.map_cons, List.map_nil, List.length_append, List.length_cons, List.length_nil, k151_enc]
      show _ = _
      kernel_rfl
    | some m =>
      rw [hlk] at hfk ho ht
      simp only [Option.isNone_some, Bool.false_eq_true, if_false, List.append_nil] at ho
      by_cases hmc : m = his[i]
      · have hd : (!decide (m = his[i])) = false := by simp [hmc]
        simp only [hd, Bool.false_eq_true, if_false, List.append_nil] at ht
        have heq : decide (m = his[i]) = true := by simp [hmc]
        simp only [go_sem, T_1, T_3, T_4, T_9, T_25, T_50, T_51, T_69, T_145, T_151, T_176, all151, hlt, hx, k151_enc, lookupR, hk, hfk, giveR, Option.map_some, Option.isSome_some, valC, eq151, heq, wrap_i64s (show i < 1000000000000000000 by omega)]
        refine ⟨i + 1, by omega, by simp only; omega, ?_⟩
        simp only [ho, ht]
        show _ = _
        kernel_rfl
      · have hd : (!decide (m = his[i])) = true := by simp [hmc]
        simp only [hd, if_true] at ht
        have heq : decide (m = his[i]) = false := by simp [hmc]
        simp only [go_sem, T_1, T_3, T_4, T_9, T_25, T_50, T_51, T_69, T_145, T_151, T_176, all151, hlt, hx, k151_enc, lookupR, hk, hfk, giveR, Option.map_some, Option.isSome_some, valC, eq151, heq, show (torn.length + 1) * 16 ≤ 140737488355328 by omega, show torn.length + 1 ≤ 140737488355328 by omega, wrap_i64s (show i < 1000000000000000000 by omega)]
        refine ⟨i + 1, by omega, by simp only; omega, ?_⟩
        simp only [ho, ht]
        simp only [List.map_append, List.map_cons, List.map_nil, List.length_append, List.length_cons, List.length_nil, str_enc]
        show _ = _
        kernel_rfl
  obtain rfl : i = his.length := by omega
  rw [List.take_length]
  have hol : (onlyL mine his).length ≤ his.length := List.length_filter_le _ _
  have hap := lim41_ok b (onlyL mine his) (by omega) (by omega) h2 (mayL_filter hm2)
  generalize onlyL mine his = only at hap hol
  generalize tornL mine his = torn
  generalize applyY only (b.map S145.f0) (b.map S145.f1) = o at hap
  cases o with
  | none =>
    simp only [applyR] at hap
    simp only [go_sem, T_1, T_3, T_4, T_9, T_25, T_50, T_51, T_69, T_145, T_151, T_176, hlt, hfz, hap, mergeR]
    refine finish_fz ?_
    simp only [frz, frzAll, frzG, frzGAll, ms2, msUp, Rd.run, Heap.at?, List.length_map, Nat.zero_add, Nat.le_refl, and_self, if_true, List.drop_zero, FZ]
    rw [List.take_of_length_le (by simp)]
    show _ = _
    kernel_rfl
  | some m =>
    simp only [applyR] at hap
    simp only [go_sem, T_1, T_3, T_4, T_9, T_25, T_50, T_51, T_69, T_145, T_151, T_176, hlt, hfz, hap, mergeR]
    refine finish_fz ?_
    simp only [frz, frzAll, frzG, frzGAll, ms2, msUp, Rd.run, Heap.at?, List.length_map, Nat.zero_add, Nat.le_refl, and_self, if_true, List.drop_zero, FZ]
    rw [List.take_of_length_le (by simp)]
    show _ = _
    kernel_rfl
end Go.Proofs.Ytfdemnefkfkghaa.R
/- Chapter 31's plain law: changes between pairs, and what they do. -/
namespace Go.Proofs.Ytfdemnefkfkghaa.R
open Go
set_option linter.unusedVariables false
set_option linter.unusedSimpArgs false

open Classical in
theorem look_keys {α : Type} {key : α → ByteArray} {f : ByteArray → α} (hf : ∀ k, key (f k) = k) {k : ByteArray} : ∀ {ks : List ByteArray}, look key k (ks.map f) = if k ∈ ks then some (f k) else none
  | [] => by simp [look]
  | x :: r => by
    simp only [List.map_cons, look, hf, List.mem_cons]
    by_cases h : x = k
    · subst h; simp
    · have h2 : ¬ k = x := fun e => h e.symm
      simp only [h, h2, if_false, false_or]
      exact look_keys hf
theorem map_keys {α : Type} {key : α → ByteArray} {f : ByteArray → α} (hf : ∀ k, key (f k) = k) (ks : List ByteArray) : (ks.map f).map key = ks := by
  rw [List.map_map]
  conv => rhs; rw [← List.map_id ks]
  apply List.map_congr_left
  intro k _
  exact hf k
theorem keysL_rises {a b : List S145} : risesK (keysL a b) = true := keysP_rises
open Classical in
theorem chg_at {a b : List S145} {k : ByteArray} : (if k ∈ keysL a b then some (atC a b k) else none) = chg k (lookP k a) (lookP k b) := by
  by_cases h : k ∈ keysL a b
  · rw [if_pos h]
    rw [keysL_mem] at h
    unfold atC
    cases hp : lookP k a <;> cases hq : lookP k b
    · simp [hp, hq] at h
    · simp [chg, valP]
    · simp [chg, valP]
    · simp [chg, valP]
  · rw [if_neg h]
    rw [keysL_mem] at h
    cases hp : lookP k a <;> cases hq : lookP k b
    · rfl
    · simp [hq] at h
    · simp [hp] at h
    · simp [hp] at h
theorem may_dif {k : ByteArray} {p q : Option S145} {c : S151} (h : chg k p q = some c) : mayB c = difB c := by
  cases p <;> cases q <;> simp only [chg] at h
  · cases h
  · cases h; rfl
  · cases h; rfl
  · cases h; rfl
theorem filter_congr' {α : Type} {p q : α → Bool} {o : Option α} (h : ∀ x, o = some x → p x = q x) : o.filter p = o.filter q := by
  cases o with
  | none => rfl
  | some x => simp only [Option.filter, h x rfl]
theorem pairs_look {a b : List S145} (ha : riseL a = true) (hb : riseL b = true) (k : ByteArray) : lookC k (pairsL a b) = (chg k (lookP k a) (lookP k b)).filter mayB := by
  unfold pairsL lookC
  rw [look_filter (both_rises (riseL_iff.1 ha) (riseL_iff.1 hb))]
  congr 1
  exact both_look (Nat.le_refl _) (riseL_iff.1 ha) (riseL_iff.1 hb)
theorem refPairs_look {a b : List S145} (k : ByteArray) : lookC k (refPairs a b) = (chg k (lookP k a) (lookP k b)).filter difB := by
  unfold refPairs lookC
  rw [look_filter (by rw [map_keys (key := S151.f0) (fun _ => rfl)]; exact keysL_rises), look_keys (fun _ => rfl), chg_at]
theorem refPairs_rises {a b : List S145} : risesK ((refPairs a b).map S151.f0) = true := rises_filter (by rw [map_keys (key := S151.f0) (fun _ => rfl)]; exact keysL_rises)
theorem pairs_ref {a b : List S145} (ha : riseL a = true) (hb : riseL b = true) : pairsL a b = refPairs a b := by
  refine look_ext (key := S151.f0) (pairsL_rises ha hb) refPairs_rises fun k => ?_
  rw [show look S151.f0 k (pairsL a b) = lookC k (pairsL a b) from rfl, pairs_look ha hb, show look S151.f0 k (refPairs a b) = lookC k (refPairs a b) from rfl, refPairs_look]
  exact filter_congr' fun c h => may_dif h
theorem turn_look {l : List S151} {k : ByteArray} : lookC k (l.map turnS) = (lookC k l).map turnS := look_map (fun _ => rfl)
theorem turn_rises {l : List S151} (h : risesK (l.map S151.f0) = true) : risesK ((l.map turnS).map S151.f0) = true := by
  rw [List.map_map]
  exact h
theorem turn_may (c : S151) : mayB (turnS c) = mayB c := by
  obtain ⟨k, f1, f2, f3, f4⟩ := c
  simp only [mayB, turnS]
  cases f1 <;> cases f2 <;> first | rfl | simp [eq_comm]
theorem turn_turn (c : S151) : turnS (turnS c) = c := rfl
theorem chg_turn {k : ByteArray} {p q : Option S145} : (chg k p q).map turnS = chg k q p := by
  cases p <;> cases q <;> rfl
theorem pairs_turn {a b : List S145} (ha : riseL a = true) (hb : riseL b = true) : (pairsL a b).map turnS = pairsL b a := by
  refine look_ext (key := S151.f0) (turn_rises (pairsL_rises ha hb)) (pairsL_rises hb ha) fun k => ?_
  rw [show look S151.f0 k ((pairsL a b).map turnS) = lookC k ((pairsL a b).map turnS) from rfl, turn_look, pairs_look ha hb, show look S151.f0 k (pairsL b a) = lookC k (pairsL b a) from rfl, pairs_look hb ha, ← chg_turn (p := lookP k a)]
  cases chg k (lookP k a) (lookP k b) with
  | none => rfl
  | some c =>
    simp only [Option.map_some, Option.filter, turn_may]
    cases mayB c <;> rfl

/-! What changes do. -/
def after (k : ByteArray) (l : List S151) (o : Option ByteArray) : Option ByteArray := match lookC k l with
  | some c => if c.f2 = true then some c.f4 else none
  | none => o
def fitsO (c : S151) (o : Option ByteArray) : Prop := o.isSome = c.f1 ∧ o.getD ⟨#[]⟩ = c.f3
theorem getM_look {k : ByteArray} {ks vs : List ByteArray} (hr : risesK ks = true) (hl : vs.length = ks.length) : getM zS k ks vs = (lookM k ks vs).getD ⟨#[]⟩ := by
  unfold getM
  rw [lookM_get hr hl]
  cases h : hasB k ks with
  | true => rw [if_pos rfl, if_pos rfl]; rfl
  | false => simp [zS]
theorem delM_spec {k j : ByteArray} {ks vs : List ByteArray} (hr : risesK ks = true) (hl : vs.length = ks.length) : risesK (delM k ks ks) = true ∧ (delM k ks vs).length = (delM k ks ks).length ∧ lookM j (delM k ks ks) (delM k ks vs) = if k = j then none else lookM j ks vs := by
  unfold delM
  cases h : hasB k ks with
  | true =>
    simp only [if_true]
    have := hasB_lt h
    exact ⟨del_rises hr h, by rw [delAt_len (by omega), delAt_len this, hl], lookM_del hr hl h⟩
  | false =>
    simp only [Bool.false_eq_true, if_false]
    refine ⟨hr, hl, ?_⟩
    rw [lookM_has hr hl] at h
    split
    · rename_i e
      subst e
      simpa using h
    · rfl
theorem insM_spec {k j v : ByteArray} {ks vs : List ByteArray} (hr : risesK ks = true) (hl : vs.length = ks.length) (hb : lookM k ks vs = none) : risesK (insAt (posB k ks) k ks) = true ∧ (insAt (posB k ks) v vs).length = (insAt (posB k ks) k ks).length ∧ lookM j (insAt (posB k ks) k ks) (insAt (posB k ks) v vs) = if k = j then some v else lookM j ks vs := by
  have h : hasB k ks = false := by rw [lookM_has hr hl, hb]; rfl
  have hp := posB_le k ks
  exact ⟨rises_ins hr h, by rw [insAt_len hp, insAt_len (by omega), hl], lookM_ins hr hl h⟩
theorem applyY_ok : ∀ {l : List S151} {ks vs : List ByteArray}, risesK (l.map S151.f0) = true → risesK ks = true → vs.length = ks.length → (∀ c ∈ l, fitsO c (lookM c.f0 ks vs)) →
    ∃ m, applyY l ks vs = some m ∧ risesK m.1 = true ∧ m.2.length = m.1.length ∧ ∀ k, lookM k m.1 m.2 = after k l (lookM k ks vs)
  | [], ks, vs, _, hr, hl, _ => ⟨(ks, vs), rfl, hr, hl, fun k => rfl⟩
  | c :: r, ks, vs, hc, hr, hl, hf => by
    have h1 := hf c (.head _)
    have hne : ∀ d ∈ r, ¬ c.f0 = d.f0 := fun d hd e => ltS_ne (rises_head hc d hd) e
    simp only [applyY]
    rw [if_pos ⟨by rw [lookM_has hr hl]; exact h1.1, by rw [getM_look hr hl]; exact h1.2⟩]
    have hd := fun j => delM_spec (k := c.f0) (j := j) hr hl
    have aft : ∀ k, after k (c :: r) (lookM k ks vs) = after k r (if c.f0 = k then (if c.f2 = true then some c.f4 else none) else lookM k ks vs) := fun k => by
      unfold after
      simp only [lookC, look]
      by_cases e : c.f0 = k
      · subst e
        have : look S151.f0 c.f0 r = none := look_lt (rises_head hc)
        simp [this]
      · simp [e]
    cases h2 : c.f2 with
    | true =>
      rw [if_pos rfl]
      have hi := fun j => insM_spec (k := c.f0) (j := j) (v := c.f4) (hd c.f0).1 (hd c.f0).2.1 (by rw [(hd c.f0).2.2, if_pos rfl])
      have hlook : ∀ j, lookM j (insAt (posB c.f0 (delM c.f0 ks ks)) c.f0 (delM c.f0 ks ks)) (insAt (posB c.f0 (delM c.f0 ks ks)) c.f4 (delM c.f0 ks vs)) = if c.f0 = j then some c.f4 else lookM j ks vs := fun j => by
        rw [(hi j).2.2, (hd j).2.2]
        split <;> rfl
      obtain ⟨m, m1, m2, m3, m4⟩ := applyY_ok (rises_tl hc) (hi c.f0).1 (hi c.f0).2.1 fun d hdm => by
        rw [hlook, if_neg (hne d hdm)]
        exact hf d (.tail _ hdm)
      refine ⟨m, m1, m2, m3, fun k => ?_⟩
      rw [m4, hlook, aft, h2, if_pos rfl]
    | false =>
      rw [if_neg (by simp)]
      obtain ⟨m, m1, m2, m3, m4⟩ := applyY_ok (rises_tl hc) (hd c.f0).1 (hd c.f0).2.1 fun d hdm => by
        rw [(hd d.f0).2.2, if_neg (hne d hdm)]
        exact hf d (.tail _ hdm)
      refine ⟨m, m1, m2, m3, fun k => ?_⟩
      rw [m4, (hd k).2.2, aft, h2]
      simp
theorem applyY_no : ∀ {l : List S151} {ks vs : List ByteArray}, risesK (l.map S151.f0) = true → risesK ks = true → vs.length = ks.length → ¬ (∀ c ∈ l, fitsO c (lookM c.f0 ks vs)) → applyY l ks vs = none
  | [], ks, vs, _, hr, hl, h => absurd (by simp) h
  | c :: r, ks, vs, hc, hr, hl, hf => by
    have hne : ∀ d ∈ r, ¬ c.f0 = d.f0 := fun d hd e => ltS_ne (rises_head hc d hd) e
    simp only [applyY]
    split
    · rename_i h1
      rw [lookM_has hr hl, getM_look hr hl] at h1
      have hd := fun j => delM_spec (k := c.f0) (j := j) hr hl
      have hf2 : ¬ ∀ d ∈ r, fitsO d (lookM d.f0 ks vs) := fun h => hf fun d hdm => by
        rcases List.mem_cons.1 hdm with rfl | hdm
        · exact h1
        · exact h d hdm
      split
      · have hi := fun j => insM_spec (k := c.f0) (j := j) (v := c.f4) (hd c.f0).1 (hd c.f0).2.1 (by rw [(hd c.f0).2.2, if_pos rfl])
        refine applyY_no (rises_tl hc) (hi c.f0).1 (hi c.f0).2.1 fun h => hf2 fun d hdm => ?_
        have := h d hdm
        rw [(hi d.f0).2.2, if_neg (hne d hdm), (hd d.f0).2.2, if_neg (hne d hdm)] at this
        exact this
      · refine applyY_no (rises_tl hc) (hd c.f0).1 (hd c.f0).2.1 fun h => hf2 fun d hdm => ?_
        have := h d hdm
        rw [(hd d.f0).2.2, if_neg (hne d hdm)] at this
        exact this
    · rfl
theorem zipS_look {k : ByteArray} {ks vs : List ByteArray} (hl : vs.length = ks.length) : lookP k (zipS ks vs) = (lookM k ks vs).map fun v => ⟨k, v⟩ := by
  unfold zipS lookP
  rw [look_map (key := Prod.fst) (key' := S145.f0) (f := mp145) (fun _ => rfl), zip_look hl]
  cases lookM k ks vs <;> rfl
theorem zipS_keys {ks vs : List ByteArray} (hl : vs.length = ks.length) : (zipS ks vs).map S145.f0 = ks := by
  unfold zipS
  rw [List.map_map]
  exact zip_keys hl
theorem lookP_val {k : ByteArray} {l : List S145} : lookP k l = ((lookP k l).map S145.f1).map fun v => ⟨k, v⟩ := by
  cases h : lookP k l with
  | none => rfl
  | some x =>
    have := look_key h
    simp [← this]
theorem zipS_ext {ks vs : List ByteArray} {b : List S145} (hl : vs.length = ks.length) (hr : risesK ks = true) (hb : riseL b = true) (h : ∀ k, lookM k ks vs = (lookP k b).map S145.f1) : zipS ks vs = b := by
  refine look_ext (key := S145.f0) (by rw [zipS_keys hl]; exact hr) (riseL_iff.1 hb) fun k => ?_
  rw [show look S145.f0 k (zipS ks vs) = lookP k (zipS ks vs) from rfl, zipS_look hl, h, ← lookP_val]
theorem pairs_apply {a b : List S145} (ha : riseL a = true) (hb : riseL b = true) : ∃ m, applyY (pairsL a b) (a.map S145.f0) (a.map S145.f1) = some m ∧ zipS m.1 m.2 = b := by
  have hr := pairsL_rises ha hb
  obtain ⟨m, m1, m2, m3, m4⟩ := applyY_ok (l := pairsL a b) (ks := a.map S145.f0) (vs := a.map S145.f1) hr (riseL_iff.1 ha) (by simp) fun c hc => by
    have h1 : lookC c.f0 (pairsL a b) = some c := look_of_mem hr hc
    rw [pairs_look ha hb] at h1
    rw [lookM_map]
    show fitsO c ((lookP c.f0 a).map S145.f1)
    unfold fitsO
    cases hp : lookP c.f0 a <;> cases hq : lookP c.f0 b <;> rw [hp, hq] at h1 <;> simp only [chg, Option.filter] at h1
    · cases h1
    · split at h1
      · have e := Option.some.inj h1
        have e1 := congrArg S151.f1 e
        have e3 := congrArg S151.f3 e
        exact ⟨e1, e3⟩
      · cases h1
    · split at h1
      · have e := Option.some.inj h1
        have e1 := congrArg S151.f1 e
        have e3 := congrArg S151.f3 e
        exact ⟨e1, e3⟩
      · cases h1
    · split at h1
      · have e := Option.some.inj h1
        have e1 := congrArg S151.f1 e
        have e3 := congrArg S151.f3 e
        exact ⟨e1, e3⟩
      · cases h1
  refine ⟨m, m1, zipS_ext m3 m2 hb fun k => ?_⟩
  rw [m4, lookM_map, after, pairs_look ha hb]
  show _ = (lookP k b).map S145.f1
  cases hp : lookP k a with
  | none =>
    cases hq : lookP k b with
    | none =>
      simp only [chg, Option.filter]
      rw [show look S145.f0 k a = none from hp]
    | some y =>
      simp [chg, Option.filter, mayB]
  | some x =>
    cases hq : lookP k b with
    | none => simp [chg, Option.filter, mayB]
    | some y =>
      by_cases e : x.f1 = y.f1
      · simp [chg, Option.filter, mayB, e, show look S145.f0 k a = some x from hp]
      · simp [chg, Option.filter, mayB, e]
end Go.Proofs.Ytfdemnefkfkghaa.R
/- Chapter 31's laws: the document's example; DiffPairs. -/
namespace Go.Proofs.Ytfdemnefkfkghaa.R
open Go Go.Proofs
set_option linter.unusedSimpArgs false
set_option linter.unusedVariables false
set_option maxRecDepth 10000
set_option maxHeartbeats 4000000

theorem lim35 : lim T fns 35 [] [] = some (.bool true, []) := acall_lim (R := 40) (d := 12) (by kernel_rfl)
theorem call35 (n : Nat) : callV (LX T fns) n (.clo 35 []) [] = .pure (.bool true, []) := callV_plain (fn := fn35) rfl rfl rfl lim35 n
theorem call39_bad (a b : List S145) (ha : a.length < 100000000) (hb : b.length < 100000000) (hr : (riseL a && riseL b) = false) (n : Nat) : callV (LX T fns) n (.clo 39 []) [.fz (a.map k145.enc), .fz (b.map k145.enc)] = .pure (.tup [.fz [], .int .i64 1], []) := callV_plain (fn := fn39) rfl rfl rfl (lim39_bad a b ha hb hr) n
theorem call40_bad (a b : List S145) (ha : a.length < 10000000) (hb : b.length < 10000000) (hr : (riseL a && riseL b) = false) (n : Nat) : callV (LX T fns) n (.clo 40 []) [.fz (a.map k145.enc), .fz (b.map k145.enc)] = .pure (.tup [.fz [], .int .i64 1], []) := callV_plain (fn := fn40) rfl rfl rfl (lim40_bad a b ha hb hr) n
theorem call40_ok (a b : List S145) (ha : a.length < 10000000) (hb : b.length < 10000000) (h1 : riseL a = true) (h2 : riseL b = true) (n : Nat) : callV (LX T fns) n (.clo 40 []) [.fz (a.map k145.enc), .fz (b.map k145.enc)] = .pure (.tup [.fz ((refPairs a b).map k151.enc), .int .i64 0], []) := callV_plain (fn := fn40) rfl rfl rfl (lim40_ok a b ha hb h1 h2) n
theorem call42 (l : List S151) (hl : l.length < 1000000000) (n : Nat) : callV (LX T fns) n (.clo 42 []) [.fz (l.map k151.enc)] = .pure (.fz ((l.map turnS).map k151.enc), []) := callV_plain (fn := fn42) rfl rfl rfl (lim42 l hl) n
theorem call41_bad (x : List S145) (y : List S151) (hx : x.length < 1000000000) (hy : y.length < 1000000000) (hb : (riseL x && mayL y) = false) (n : Nat) : callV (LX T fns) n (.clo 41 []) [.fz (x.map k145.enc), .fz (y.map k151.enc)] = .pure (.tup [.fz [], .int .i64 1], []) := callV_plain (fn := fn41) rfl rfl rfl (lim41_bad x y hx hy hb) n
theorem call41_some (x : List S145) (y : List S151) (hx : x.length < 100000000) (hy : y.length < 100000000) (h1 : riseL x = true) (h2 : mayL y = true) {m : List ByteArray × List ByteArray} (hm : applyY y (x.map S145.f0) (x.map S145.f1) = some m) (n : Nat) : callV (LX T fns) n (.clo 41 []) [.fz (x.map k145.enc), .fz (y.map k151.enc)] = .pure (.tup [.fz ((zipS m.1 m.2).map k145.enc), .int .i64 0], []) := by
  have h := lim41_ok x y hx hy h1 h2
  rw [hm] at h
  exact callV_plain (fn := fn41) rfl rfl rfl h n
theorem call41_none (x : List S145) (y : List S151) (hx : x.length < 100000000) (hy : y.length < 100000000) (h1 : riseL x = true) (h2 : mayL y = true) (hm : applyY y (x.map S145.f0) (x.map S145.f1) = none) (n : Nat) : callV (LX T fns) n (.clo 41 []) [.fz (x.map k145.enc), .fz (y.map k151.enc)] = .pure (.tup [.fz [], .int .i64 3], []) := by
  have h := lim41_ok x y hx hy h1 h2
  rw [hm] at h
  exact callV_plain (fn := fn41) rfl rfl rfl h n
theorem few_pairs {l : List S145} (h : greatPairs l = false) : l.length ≤ 60 := by
  unfold greatPairs at h
  simp only [Bool.or_eq_false_iff, decide_eq_false_iff_not] at h
  omega
theorem few_changes {l : List S151} (h : greatC l = false) : l.length ≤ 60 := by
  unfold greatC at h
  simp only [Bool.or_eq_false_iff, decide_eq_false_iff_not] at h
  omega

theorem lim9 (a b : List S145) : lim T fns 9 [.fz (a.map k145.enc), .fz (b.map k145.enc)] [] = some (.bool true, []) := by
  cases hga : greatPairs a with
  | true =>
    refine fn_rule (fn := fn9) rfl rfl (by simp [fn9]) ?_
    unfold fn9
    simp only [Try.f9, Option.getD_some, argEnv, List.map_nil, List.length_nil]
    simp only [go_sem, T_3, T_4, T_9, T_25, T_50, T_51, T_145, T_151, call34, hga, call35]
  | false =>
  cases hgb : greatPairs b with
  | true =>
    refine fn_rule (fn := fn9) rfl rfl (by simp [fn9]) ?_
    unfold fn9
    simp only [Try.f9, Option.getD_some, argEnv, List.map_nil, List.length_nil]
    simp only [go_sem, T_3, T_4, T_9, T_25, T_50, T_51, T_145, T_151, call34, hga, hgb, call35]
  | false =>
  have ha := few_pairs hga
  have hb := few_pairs hgb
  cases hr : (riseL a && riseL b) with
  | false =>
    have h1 := fun n => call39_bad a b (by omega) (by omega) hr n
    have h2 := fun n => call40_bad a b (by omega) (by omega) hr n
    have h3 := fun n => call38 [] [] (by simp) n
    simp only [List.map_nil, decide_true] at h3
    refine fn_rule (fn := fn9) rfl rfl (by simp [fn9]) ?_
    unfold fn9
    simp only [Try.f9, Option.getD_some, argEnv, List.map_nil, List.length_nil]
    simp only [go_sem, T_3, T_4, T_9, T_25, T_50, T_51, T_145, T_151, call34, hga, hgb, call35, h1, h2, h3, show (((1 : Int) == 0) = false) from rfl, show (((1 : Int) == 1) = true) from rfl, show ((1 : Int) != 1) = false from rfl, show ((1 : Int) != 0) = true from rfl]
  | true =>
    simp only [Bool.and_eq_true] at hr
    obtain ⟨ra, rb⟩ := hr
    have hl := pairsL_le (a := a) (b := b)
    have hl2 := pairsL_le (a := b) (b := a)
    have hm := pairsL_may ra rb
    have hm2 := pairsL_may rb ra
    obtain ⟨m, m1, m2⟩ := pairs_apply ra rb
    obtain ⟨q, q1, q2⟩ := pairs_apply rb ra
    have h1 := fun n => call39_ok a b (by omega) (by omega) ra rb n
    have h2 := fun n => call40_ok a b (by omega) (by omega) ra rb n
    rw [← pairs_ref ra rb] at h2
    have h3 := fun n => call38 (pairsL a b) (pairsL a b) (by omega) n
    simp only [decide_true] at h3
    have h4 := fun n => call42 (pairsL a b) (by omega) n
    rw [pairs_turn ra rb] at h4
    have h5 := fun n => call41_some a (pairsL a b) (by omega) (by omega) ra hm m1 n
    have h6 := fun n => call41_some b (pairsL b a) (by omega) (by omega) rb hm2 q1 n
    rw [m2] at h5
    rw [q2] at h6
    have h7 := fun n => call43 (pairsL a b) (by omega) n
    rw [hm] at h7
    have h8 := fun n => call44 b b (by omega) n
    have h9 := fun n => call44 a a (by omega) n
    simp only [decide_true] at h8 h9
    refine fn_rule (fn := fn9) rfl rfl (by simp [fn9]) ?_
    unfold fn9
    simp only [Try.f9, Option.getD_some, argEnv, List.map_nil, List.length_nil]
    simp only [go_sem, T_3, T_4, T_9, T_25, T_50, T_51, T_145, T_151, call34, hga, hgb, call35, h1, h2, h3, h4, h5, h6, h7, h8, h9, show (((0 : Int) == 0) = true) from rfl, show ((0 : Int) != 0) = false from rfl]
end Go.Proofs.Ytfdemnefkfkghaa.R
/- The law DiffPairs, for every argument. -/
namespace Go.Proofs.Ytfdemnefkfkghaa.R
open Go Go.Proofs
set_option linter.unusedVariables false
theorem law9 (x0 : (List S145)) (gx0 : g51 x0) (x1 : (List S145)) (gx1 : g51 x1) : ∃ R d h, acall T fns R d 9 [.fz (x0.map k145.enc), .fz (x1.map k145.enc)] [] = some (.bool true, h) := by
  obtain ⟨R, d, h⟩ := lim_acall (lim9 x0 x1)
  exact ⟨R, d, _, h⟩
end Go.Proofs.Ytfdemnefkfkghaa.R
/- The row of marcot/marcotlaw31.DiffPairs: the given statement, out of the machine's equation. -/
namespace Go.Proofs.Ytfdemnefkfkghaa.R.diffPairsLaw
open Go.ChangeShapes Go.WideShapes Go.ChangeAt Go.RowKit
open Go.ChangeMaps (open_string shut_string)
set_option linter.unusedVariables false
theorem own : ownKnob Try.prog.godebug = none := by kernel_rfl
theorem laidOut : laidOutB Try.prog = true := by kernel_rfl
set_option maxRecDepth 100000 in
theorem contract (H : Type) (enc : TypeId × Value → H) (W : World) (base : Nat) (args : Array Value) (ds gs : List (DataW H)) (before : List MemPlace)
    (hval0 : ∀ (j : Nat) t v, Try.f9.params[j]? = some t → args[j]? = some v → Value.okWide Try.prog W .any base t v)
    (hW : DataW.Whole enc Try.prog Try.f9.params.toList Rows.diffPairsSpec.vars false W args.toList ds gs before)
    (hsz0 : (DataW.weightsEach Try.prog (Try.f9.params.toList ++ Rows.diffPairsSpec.plain.varTypes Try.prog) (ds ++ gs)).all (· ≤ reachBytes) = true) :
    Calls Try.prog 9 args W fun e W' => ∃ v, e = .returned v ∧ Rows.diffPairsSpec.post enc Try.prog Try.f9 false true false false W args v W' := by
  have hsz := hsz0
  have hval : ∀ (j : Nat) t v, Try.f9.params[j]? = some t → args[j]? = some v → Value.okWide Try.prog W .any base t v := hval0
  have hW' := hW
  obtain ⟨p, q, hA0, hV, rfl, hfz, hnd⟩ := hW
  have hA : DataW.TrodAll enc Try.prog W 0 (fun _ => true) true Try.f9.params.toList args.toList ds p := hA0
  rw [Try.params9] at hA hval hsz
  obtain ⟨v0, vs0, d0, ds0, p0, q0, hargs, rfl, rfl, h0, r0⟩ := trodAll_cons hA
  obtain ⟨v1, vs1, d1, ds1, p1, q1, rfl, rfl, rfl, h1, r1⟩ := trodAll_cons r0
  obtain ⟨rfl, rfl, rfl⟩ := trodAll_nil r1
  obtain rfl : args = #[v0, v1] := by cases args; simp_all
  obtain ⟨rfl, rfl⟩ := trodVars_none hV
  have lt0 : ∀ x ∈ p0, x.block < W.heap.size := by obtain ⟨m, hm⟩ := h0; exact DataW.trod_lt m _ _ _ hm
  obtain ⟨x0, hk0, gd0, hm0⟩ := arg_opens o51 h0 hsz (j := 0) rfl rfl
  obtain ⟨a0, len0, cap0, rfl⟩ := okWide_slice Try.underlying51 (hval 0 51 v0 rfl rfl)
  have lt1 : ∀ x ∈ p1, x.block < W.heap.size := by obtain ⟨m, hm⟩ := h1; exact DataW.trod_lt m _ _ _ hm
  obtain ⟨x1, hk1, gd1, hm1⟩ := arg_opens o51 h1 hsz (j := 1) rfl rfl
  obtain ⟨a1, len1, cap1, rfl⟩ := okWide_slice Try.underlying51 (hval 1 51 v1 rfl rfl)
  obtain ⟨R, d, hh, heq⟩ := law9 x0 gd0 x1 gd1
  refine (law_ok (called R d 9) heq (relAll_cons (kv_rel hk0) (relAll_cons (kv_rel hk1) relAll0))).mono fun e W' ⟨he, bel⟩ => ?_
  subst he
  exact ⟨_, rfl, _, _, _, [], _, [], hW', trodAll_mk1 (shut_bool Try.underlying4 _), (trodAll_cons_mk (Below.trod laidOut (by kernel_rfl) (of_decide_eq_true (by kernel_rfl)) h0 bel lt0) (trodAll_cons_mk (Below.trod laidOut (by kernel_rfl) (of_decide_eq_true (by kernel_rfl)) h1 bel lt1) trodAll_mk0)), rfl, bel.frame _, fun h => by cases h⟩
set_option maxRecDepth 100000 in
theorem lifted (os : Os) (started : os.Started) (H : Type) (enc : TypeId × Value → H) :
    ReturnsInHanded {} Try.checked os 9 .any (Rows.diffPairsSpec.pre6 enc Try.prog Try.f9 Rows.diffPairsRow.domain false) (Rows.diffPairsSpec.post enc Try.prog Try.f9 false true false false) := by
  refine returnsInHanded_of_change_sized (C := Try.checked) own started (by kernel_rfl) Try.func9
    (ChangeSpec.witness6 (enc := enc) (C := Try.checked) false ⟨#[], #[.slice none 0 0, .slice none 0 0], []⟩ 8 (by kernel_rfl) (by kernel_rfl) (by kernel_rfl) (by kernel_rfl)) ?_
  intro W base args ds gs before hval hW _ hsz _
  exact contract H enc W base args ds gs before hval hW hsz
theorem over : Rows.diffPairsRow.holds Try.pinned (OpenSpec.ofChange Rows.diffPairsSpec) :=
  OpenClaim.holds_of_wide 9 Try.f9 rfl rfl rfl rfl rfl rfl rfl ⟨rfl, rfl, rfl, rfl, rfl⟩ rfl rfl rfl rfl rfl (by kernel_rfl) Try.func9 (by kernel_rfl)
    (of_decide_eq_true (by kernel_rfl)) (by unfold Func.isWrapper; first | (rw [if_pos (by decide +kernel)]; kernel_rfl) | (rw [if_neg (by decide +kernel)]; exact ⟨rfl, rfl⟩))
    (fun os started H enc _ => lifted os started H enc)
theorem proved : Rows.DiffPairsSaid := over
#print axioms proved
end Go.Proofs.Ytfdemnefkfkghaa.R.diffPairsLaw
namespace Go.Proofs.Ytfdemnefkfkghaa
/-- The row, under a short name, for the claim. -/
theorem diffPairs_holds : Rows.DiffPairsSaid := R.diffPairsLaw.proved
end Go.Proofs.Ytfdemnefkfkghaa
