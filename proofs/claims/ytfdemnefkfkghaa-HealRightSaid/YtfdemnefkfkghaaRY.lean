/- Stepping: lists that grow. -/
import Derived.Test.YtfdemnefkfkghaaRWd
import Derived.Test.YtfdemnefkfkghaaRZ
namespace Go.Proofs.Ytfdemnefkfkghaa.R
set_option linter.unusedVariables false
set_option linter.unusedSimpArgs false
open Go

theorem append_one {ti : TI} {n i st l : Nat} {row : List V} {np : Bool} {h : Heap} {tr : List Nat} {st' : Nat} {rows : List (List V)} {frz pure : Bool} (hat : h.at? i = some (.buf st' rows frz pure))
    (h1 : st = ti.size) (h2 : st' = ti.size) (h3 : l = rows.length) (h4 : (l + 1) * ti.bytes ≤ 140737488355328) (h5 : l + 1 ≤ 140737488355328) :
    (appendR ti n (.ms i st 0 l none) [row] np).run h tr = some ((.ms n st 0 (l + 1) none, [(i, none), (n, some (.buf st (rows ++ [row]) frz (pure && np)))]), i :: tr) := by
  subst h1
  subst h2
  subst h3
  unfold appendR
  simp only [List.length_cons, List.length_nil, Nat.zero_add, Nat.add_one_ne_zero, if_false, if_true, Rd.run, hat]
  rw [if_pos ⟨trivial, Nat.le_refl _, h4, h5⟩]
  unfold appendM
  simp only [List.length_cons, List.length_nil, Nat.zero_add]
  rw [if_neg (by omega), if_pos (by simp)]
  simp [Rd.run]

/-- As simp sees it: the object first, then one element behind it. -/
def appL (ti : TI) (n i st l : Nat) (row : List V) (np : Bool) (h : Heap) (tr : List Nat) (x : Option Ob) : Option ((V × Upd) × List Nat) := match x with
  | some o => (appendR ti n (.ms i st 0 l none) [row] np).run (Heap.put [] i (some o)) tr
  | none => none
theorem append_look {ti : TI} {n i st l : Nat} {row : List V} {np : Bool} {h : Heap} {tr : List Nat} : (appendR ti n (.ms i st 0 l none) [row] np).run h tr = appL ti n i st l row np h tr (h.at? i) := by
  unfold appL
  by_cases hst : st = ti.size
  · cases ho : h.at? i with
    | none =>
      unfold appendR
      simp [hst, Rd.run, ho]
    | some o =>
      have hp : Heap.at? (Heap.put [] i (some o)) i = some o := by rw [at?_put, if_pos rfl]
      unfold appendR
      simp only [List.length_cons, List.length_nil, Nat.zero_add, Nat.add_one_ne_zero, if_false, hst, if_true, Rd.run, ho, hp]
      cases o with
      | mp es p => rfl
      | buf st' rows frz pure =>
        simp only
        split
        · unfold appendM
          simp only
          split
          · split <;> rfl
          · split <;> rfl
        · rfl
  · unfold appendR
    cases h.at? i with
    | none => simp [hst, Rd.run]
    | some o => simp [hst, Rd.run]
theorem appL_some {ti : TI} {n i st l : Nat} {row : List V} {np : Bool} {h : Heap} {tr : List Nat} {st' : Nat} {rows : List (List V)} {frz pure : Bool} 
    (h1 : st = ti.size) (h2 : st' = ti.size) (h3 : l = rows.length) (h4 : (l + 1) * ti.bytes ≤ 140737488355328) (h5 : l + 1 ≤ 140737488355328) :
    appL ti n i st l row np h tr (some (.buf st' rows frz pure)) = some ((.ms n st 0 (l + 1) none, [(i, none), (n, some (.buf st (rows ++ [row]) frz (pure && np)))]), i :: tr) :=
  append_one (by rw [at?_put, if_pos rfl]) h1 h2 h3 h4 h5

/-- The answer is a whole list of an object of the call's own. -/
theorem finish_ms {h : Heap} {i st n : Nat} {c : Option Nat} {rows : List (List V)} {f : Bool} (hat : h.at? i = some (.buf st rows f true)) (hl : n = rows.length) : finish 0 true (.ms i st 0 n c) h = some (.fz rows, []) := by
  refine finish_true (u := [(i, some (.buf st rows true true))]) (l := [i]) ?_ rfl
  simp only [frz, frzAll, frzG, frzGAll, ms2, msUp, Rd.run, hat]
  rw [if_pos ⟨trivial, by omega⟩, hl]
  simp [Rd.run]

/-! Many elements. -/
theorem append_more {ti : TI} {n i st l : Nat} {new : List (List V)} {np : Bool} {h : Heap} {tr : List Nat} {st' : Nat} {rows : List (List V)} {frz pure : Bool} (hat : h.at? i = some (.buf st' rows frz pure)) (h0 : new.length ≠ 0)
    (h1 : st = ti.size) (h2 : st' = ti.size) (h3 : l = rows.length) (h4 : (l + new.length) * ti.bytes ≤ 140737488355328) (h5 : l + new.length ≤ 140737488355328) :
    (appendR ti n (.ms i st 0 l none) new np).run h tr = some ((.ms n st 0 (l + new.length) none, [(i, none), (n, some (.buf st (rows ++ new) frz (pure && np)))]), i :: tr) := by
  subst h1
  subst h2
  subst h3
  unfold appendR
  simp only [h0, if_false, if_true, Rd.run, hat]
  rw [if_pos ⟨trivial, by omega, h4, h5⟩]
  unfold appendM
  simp only
  rw [if_neg (by omega), if_pos (by simp)]
  simp [Rd.run]
def appN (ti : TI) (n i st l : Nat) (new : List (List V)) (np : Bool) (h : Heap) (tr : List Nat) (x : Option Ob) : Option ((V × Upd) × List Nat) := match x with
  | some o => (appendR ti n (.ms i st 0 l none) new np).run (Heap.put [] i (some o)) tr
  | none => none
theorem append_many {ti : TI} {n i st l : Nat} {new : List (List V)} {np : Bool} {h : Heap} {tr : List Nat} (h0 : new.length ≠ 0) : (appendR ti n (.ms i st 0 l none) new np).run h tr = appN ti n i st l new np h tr (h.at? i) := by
  unfold appN
  by_cases hst : st = ti.size
  · cases ho : h.at? i with
    | none =>
      unfold appendR
      simp only [h0, if_false, hst, if_true, Rd.run, ho]
    | some o =>
      have hp : Heap.at? (Heap.put [] i (some o)) i = some o := by rw [at?_put, if_pos rfl]
      unfold appendR
      simp only [h0, if_false, hst, if_true, Rd.run, ho, hp]
      cases o with
      | mp es p => rfl
      | buf st' rows frz pure =>
        simp only
        split
        · unfold appendM
          simp only
          split
          · split <;> rfl
          · split <;> rfl
        · rfl
  · unfold appendR
    simp only [h0, if_false, hst]
    cases h.at? i with
    | none => simp [Rd.run]
    | some o => simp [Rd.run]
theorem appN_some {ti : TI} {n i st l : Nat} {new : List (List V)} {np : Bool} {h : Heap} {tr : List Nat} {st' : Nat} {rows : List (List V)} {frz pure : Bool} (h0 : new.length ≠ 0)
    (h1 : st = ti.size) (h2 : st' = ti.size) (h3 : l = rows.length) (h4 : (l + new.length) * ti.bytes ≤ 140737488355328) (h5 : l + new.length ≤ 140737488355328) :
    appN ti n i st l new np h tr (some (.buf st' rows frz pure)) = some ((.ms n st 0 (l + new.length) none, [(i, none), (n, some (.buf st (rows ++ new) frz (pure && np)))]), i :: tr) :=
  append_more (by rw [at?_put, if_pos rfl]) h0 h1 h2 h3 h4 h5
theorem append_none {ti : TI} {n i st o l : Nat} {c : Option Nat} {np : Bool} : appendR ti n (.ms i st o l c) [] np = .pure (.ms i st o l c, []) := by
  unfold appendR
  simp
end Go.Proofs.Ytfdemnefkfkghaa.R
