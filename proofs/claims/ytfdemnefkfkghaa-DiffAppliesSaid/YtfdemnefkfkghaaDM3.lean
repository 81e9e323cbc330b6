/- Parts of the proof of YtfdemnefkfkghaaRDiffAll, one behind the other: R31e, R31f, R31g, R31h, R31i, R31j, R31k, R31l, R31n, R31o, R31m, R31p, Q31b, Q31c, R31q, R31r, Q31d, R31s, R31t, RFz, R31u, R31v, R31w, R31x. -/
import Derived.Test.YtfdemnefkfkghaaDM0
import Derived.Test.YtfdemnefkfkghaaDM1
import Derived.Test.YtfdemnefkfkghaaDM2
/- Chapter 31's laws: slices.Clone, Clip, Insert as they are called. (printed by mk31.py out of t31e.txt) -/
namespace Go.Proofs.Ytfdemnefkfkghaa.R
open Go Go.Proofs
set_option linter.unusedSimpArgs false
set_option linter.unusedVariables false
set_option maxRecDepth 10000
set_option maxHeartbeats 2000000

/-- A call that is handed no object, and answers with new ones. -/
theorem callV_newf {T : TT} {fns : FuncId → Option AFn} {g : FuncId} {fn : AFn} (hfn : fns g = some fn) {args caps args' : List V} {u us : Upd} {r r' : V} {H : Heap} {h : Heap} {tr tr' : List Nat} {n : Nat} (hz : ∀ K : List V → Upd → Rd (V × Upd), (frzArgs (args ++ caps) fn.pfz K).run h tr = (K args' u).run h tr')
    (ha : V.allPlain args' = true) (hl : lim T fns g args' [] = some (r, H)) (hr : V.re (back [] n H.length) r = some r') (hp : pushObs (back [] n H.length) H 0 = some us) (he : H.isEmpty = false) : (callV (LX T fns) n (.clo g caps) args).run h tr = some ((r', us ++ u), tr') := by
  unfold callV
  simp only [hfn]
  unfold callR
  rw [hz, plainAll_ids _ ha]
  show (withR (lim T fns g) n args' u []).run h tr' = _
  unfold withR
  simp only [List.map_nil, upd1, List.contains_nil, Bool.not_false, List.all_nil, Bool.and_true, plainAll_re _ _ ha, pullObs, hl, List.length_nil, Nat.zero_le, if_true]
  rw [if_pos (by simp)]
  unfold afterR
  simp [hr, hp, he, Rd.run]
/-- A call that is handed one object, which leads to no other one. -/
theorem callV_one {T : TT} {fns : FuncId → Option AFn} {g : FuncId} {fn : AFn} (hfn : fns g = some fn) {args caps args' args2 : List V} {u us : Upd} {r r' : V} {o : Ob} {H : Heap} {h : Heap} {tr tr' : List Nat} {n p : Nat} (hz : ∀ K : List V → Upd → Rd (V × Upd), (frzArgs (args ++ caps) fn.pfz K).run h tr = (K args' u).run h tr')
    (hat : h.at? p = some o) (hid : V.allIds args' = [p]) (ho : o.ids = []) (hu : (u.all fun q => !([p].contains q.1)) = true) (hpn : p < n) (h2 : V.reAll (idx [p]) args' = some args2) (h3 : o.re (idx [p]) = some o) (hl : lim T fns g args2 [o] = some (r, H)) (h1 : 1 ≤ H.length)
    (hr : V.re (back [p] n H.length) r = some r') (hp : pushObs (back [p] n H.length) H 0 = some us) : (callV (LX T fns) n (.clo g caps) args).run h tr = some ((r', us ++ u), p :: tr') := by
  unfold callV
  simp only [hfn]
  unfold callR
  rw [hz, hid]
  simp only [collect, List.map_nil, List.contains_nil, Bool.false_eq_true, if_false, Rd.run, hat, ho, List.nil_append, List.append_nil]
  unfold withR
  simp only [List.map_cons, List.map_nil, upd1, hu, List.all_cons, List.all_nil, hpn, decide_true, Bool.and_self, if_true, h2, pullObs, h3, Option.bind_some, Option.map_some, hl, List.length_cons, List.length_nil, Nat.zero_add, h1]
  unfold afterR
  simp only [hr, hp, List.isEmpty_cons, Bool.false_and, Bool.false_eq_true, if_false, Rd.run]
theorem cloneC_at {n p l : Nat} {c : Option Nat} {rows : List (List V)} {f : Bool} {h : Heap} {tr : List Nat} (hat : h.at? p = some (.buf 5 rows f true)) (hl : l ≤ rows.length) (ha : ((rows.take l).all fun r => r.length == 5) = true) (hb : l < 1000000000000) :
    (callV (LX T fns) n (.clo 107 []) [.ms p 5 0 l c]).run h tr = some ((.ms n 5 0 l none, [(n, some (.buf 5 (rows.take l) false true)), (p, some (.buf 5 rows true true))]), p :: tr) := by
  have hlen : (rows.take l).length = l := by simp; omega
  refine callV_newf (fn := fn107) rfl (args' := [.fz (rows.take l)]) (u := [(p, some (.buf 5 rows true true))]) (us := [(n, some (.buf 5 (rows.take l) false true))]) (r := .ms 0 5 0 l none) (H := [some (.buf 5 (rows.take l) false true)]) (fun K => ?_) rfl ?_ ?_ ?_ rfl
  · simp only [fn107, List.append_nil, frzArgs, frz, frzAll, frzG, frzGAll, ms2, msUp, frzG, frzGAll, ms2, msUp, Rd.run, hat, List.tail]
    rw [if_pos ⟨trivial, by omega⟩]
    simp only [List.drop_zero, List.nil_append, List.append_nil]
  · refine lim_clone T fns (fn := fn107) rfl (st := 5) (bytes := 56) rfl ?_
    simp only [cloneFn]
    rw [if_pos ⟨by decide, ha, by omega⟩, hlen]
  · simp [V.re, back, nth]
  · simp [pushObs, back, nth, Ob.re]
theorem clipC_at {n p l : Nat} {rows : List (List V)} {f : Bool} {h : Heap} {tr : List Nat} (hat : h.at? p = some (.buf 5 rows f true)) (hpn : p < n) (hb : l < 1000000000000) :
    (callV (LX T fns) n (.clo 161 []) [.ms p 5 0 l none]).run h tr = some ((.ms p 5 0 l (some l), [(p, some (.buf 5 rows f true))]), p :: tr) := by
  have := callV_one (T := T) (fns := fns) (g := 161) (fn := fn161) rfl (args := [.ms p 5 0 l none]) (caps := []) (args' := [.ms p 5 0 l none]) (args2 := [.ms 0 5 0 l none]) (u := []) (us := [(p, some (.buf 5 rows f true))]) (r := .ms 0 5 0 l (some l)) (r' := .ms p 5 0 l (some l)) (o := .buf 5 rows f true) (H := [some (.buf 5 rows f true)]) (h := h) (tr := tr) (tr' := tr) (n := n) (p := p)
    (fun K => by simp only [fn161, List.append_nil, frzArgs, List.tail]) hat rfl rfl rfl hpn (by simp [V.reAll, V.re, idx]) rfl (lim161 l rows f hb) (Nat.le_refl _) (by simp [V.re, back, nth]) (by simp [pushObs, back, nth, Ob.re])
  simpa using this
theorem insC_at {n p q l i : Nat} {kr : List V} {rows : List (List V)} {f g : Bool} {h : Heap} {tr : List Nat} (hat : h.at? p = some (.buf 5 rows f true)) (hat2 : h.at? q = some (.buf 5 [kr] g true)) (hpq : q ≠ p) (hpn : p < n) (hk : kr.length = 5) (hl : rows.length = l) (hb : l < 1000000000000) (hi : i ≤ l) :
    (callV (LX T fns) n (.clo 160 []) [.ms p 5 0 l (some l), .int .i64 i, .ms q 5 0 1 none]).run h tr = some ((.ms n 5 0 (l + 1) none, [(p, some (.buf 5 rows f true)), (n, some (.buf 5 (rows.take i ++ [kr] ++ rows.drop i) false true)), (q, some (.buf 5 [kr] true true))]), p :: q :: tr) := by
  have := callV_one (T := T) (fns := fns) (g := 160) (fn := fn160) rfl (args := [.ms p 5 0 l (some l), .int .i64 i, .ms q 5 0 1 none]) (caps := []) (args' := [.ms p 5 0 l (some l), .int .i64 i, .fz [kr]]) (args2 := [.ms 0 5 0 l (some l), .int .i64 i, .fz [kr]]) (u := [(q, some (.buf 5 [kr] true true))]) (us := [(p, some (.buf 5 rows f true)), (n, some (.buf 5 (rows.take i ++ [kr] ++ rows.drop i) false true))])
    (r := .ms 1 5 0 (l + 1) none) (r' := .ms n 5 0 (l + 1) none) (o := .buf 5 rows f true) (H := [some (.buf 5 rows f true), some (.buf 5 (rows.take i ++ [kr] ++ rows.drop i) false true)]) (h := h) (tr := tr) (tr' := q :: tr) (n := n) (p := p)
    (fun K => by
      simp only [fn160, List.append_nil, frzArgs, frz, frzAll, frzG, frzGAll, ms2, msUp, frzG, frzGAll, ms2, msUp, Rd.run, hat2, List.tail]
      rw [if_pos ⟨trivial, by simp⟩]
      simp) hat (by simp [V.allIds, V.ids]) rfl (by simp [hpq]) hpn (by simp [V.reAll, V.re, idx]) rfl (lim160 l i kr rows f hk hl hb hi) (by simp) (by simp [V.re, back, nth]) (by simp [pushObs, back, nth, Ob.re])
  simpa using this
/-! As simp sees them: the objects first. -/
open Classical in
noncomputable def clC (n p l : Nat) (c : Option Nat) (h : Heap) (tr : List Nat) (x : Option Ob) : Option ((V × Upd) × List Nat) := match x with
  | some (.buf st rows _ true) => if st = 5 ∧ l ≤ rows.length ∧ ((rows.take l).all fun r => r.length == 5) = true ∧ l < 1000000000000 then some ((.ms n 5 0 l none, [(n, some (.buf 5 (rows.take l) false true)), (p, some (.buf 5 rows true true))]), p :: tr) else (callV (LX T fns) n (.clo 107 []) [.ms p 5 0 l c]).run h tr
  | _ => (callV (LX T fns) n (.clo 107 []) [.ms p 5 0 l c]).run h tr
theorem cloneC_look {n p l : Nat} {c : Option Nat} {h : Heap} {tr : List Nat} : (callV (LX T fns) n (.clo 107 []) [.ms p 5 0 l c]).run h tr = clC n p l c h tr (h.at? p) := by
  unfold clC
  split
  · rename_i st rows f hx
    split
    · rename_i hc
      obtain ⟨rfl, h1, h2, h3⟩ := hc
      exact cloneC_at hx h1 h2 h3
    · rfl
  · rfl
theorem cloneC_got {n p l : Nat} {c : Option Nat} {h : Heap} {tr : List Nat} {rows ex : List (List V)} {f : Bool} (h1 : rows.length = l) (h2 : (rows.all fun r => r.length == 5) = true) (h3 : l < 1000000000000) :
    clC n p l c h tr (some (.buf 5 (rows ++ ex) f true)) = some ((.ms n 5 0 l none, [(n, some (.buf 5 rows false true)), (p, some (.buf 5 (rows ++ ex) true true))]), p :: tr) := by
  have e : (rows ++ ex).take l = rows := List.take_left' h1
  unfold clC
  simp only
  rw [if_pos ⟨trivial, by simp; omega, by rw [e]; exact h2, h3⟩, e]
open Classical in
noncomputable def cpC (n p l : Nat) (h : Heap) (tr : List Nat) (x : Option Ob) : Option ((V × Upd) × List Nat) := match x with
  | some (.buf st rows f true) => if st = 5 ∧ p < n ∧ l < 1000000000000 then some ((.ms p 5 0 l (some l), [(p, some (.buf 5 rows f true))]), p :: tr) else (callV (LX T fns) n (.clo 161 []) [.ms p 5 0 l none]).run h tr
  | _ => (callV (LX T fns) n (.clo 161 []) [.ms p 5 0 l none]).run h tr
theorem clipC_look {n p l : Nat} {h : Heap} {tr : List Nat} : (callV (LX T fns) n (.clo 161 []) [.ms p 5 0 l none]).run h tr = cpC n p l h tr (h.at? p) := by
  unfold cpC
  split
  · rename_i st rows f hx
    split
    · rename_i hc
      obtain ⟨rfl, h1, h2⟩ := hc
      exact clipC_at hx h1 h2
    · rfl
  · rfl
theorem clipC_got {n p l : Nat} {h : Heap} {tr : List Nat} {rows : List (List V)} {f : Bool} (h1 : p < n) (h3 : l < 1000000000000) :
    cpC n p l h tr (some (.buf 5 rows f true)) = some ((.ms p 5 0 l (some l), [(p, some (.buf 5 rows f true))]), p :: tr) := by
  unfold cpC
  simp only
  rw [if_pos ⟨trivial, h1, h3⟩]
open Classical in
noncomputable def inC (n p q l i : Nat) (h : Heap) (tr : List Nat) (x y : Option Ob) : Option ((V × Upd) × List Nat) := match x, y with
  | some (.buf st rows f true), some (.buf st2 [kr] g true) => if st = 5 ∧ st2 = 5 ∧ q ≠ p ∧ p < n ∧ kr.length = 5 ∧ rows.length = l ∧ l < 1000000000000 ∧ i ≤ l then
      some ((.ms n 5 0 (l + 1) none, [(p, some (.buf 5 rows f true)), (n, some (.buf 5 (rows.take i ++ [kr] ++ rows.drop i) false true)), (q, some (.buf 5 [kr] true true))]), p :: q :: tr) else (callV (LX T fns) n (.clo 160 []) [.ms p 5 0 l (some l), .int .i64 i, .ms q 5 0 1 none]).run h tr
  | _, _ => (callV (LX T fns) n (.clo 160 []) [.ms p 5 0 l (some l), .int .i64 i, .ms q 5 0 1 none]).run h tr
theorem insC_look {n p q l i : Nat} {h : Heap} {tr : List Nat} : (callV (LX T fns) n (.clo 160 []) [.ms p 5 0 l (some l), .int .i64 i, .ms q 5 0 1 none]).run h tr = inC n p q l i h tr (h.at? p) (h.at? q) := by
  unfold inC
  split
  · rename_i st rows f st2 kr g hx hy
    split
    · rename_i hc
      obtain ⟨rfl, rfl, h1, h2, h3, h4, h5, h6⟩ := hc
      exact insC_at hx hy h1 h2 h3 h4 h5 h6
    · rfl
  · rfl
theorem insC_got {n p q l i : Nat} {h : Heap} {tr : List Nat} {rows : List (List V)} {kr : List V} {f g : Bool} (h1 : q ≠ p) (h2 : p < n) (h3 : kr.length = 5) (h4 : rows.length = l) (h5 : l < 1000000000000) (h6 : i ≤ l) :
    inC n p q l i h tr (some (.buf 5 rows f true)) (some (.buf 5 [kr] g true)) = some ((.ms n 5 0 (l + 1) none, [(p, some (.buf 5 rows f true)), (n, some (.buf 5 (insAt i kr rows) false true)), (q, some (.buf 5 [kr] true true))]), p :: q :: tr) := by
  unfold inC
  exact if_pos ⟨rfl, rfl, h1, h2, h3, h4, h5, h6⟩
theorem cloneS_at {n p l : Nat} {c : Option Nat} {rows : List (List V)} {f : Bool} {h : Heap} {tr : List Nat} (hat : h.at? p = some (.buf 1 rows f true)) (hl : l ≤ rows.length) (ha : ((rows.take l).all fun r => r.length == 1) = true) (hb : l < 1000000000000) :
    (callV (LX T fns) n (.clo 159 []) [.ms p 1 0 l c]).run h tr = some ((.ms n 1 0 l none, [(n, some (.buf 1 (rows.take l) false true)), (p, some (.buf 1 rows true true))]), p :: tr) := by
  have hlen : (rows.take l).length = l := by simp; omega
  refine callV_newf (fn := fn159) rfl (args' := [.fz (rows.take l)]) (u := [(p, some (.buf 1 rows true true))]) (us := [(n, some (.buf 1 (rows.take l) false true))]) (r := .ms 0 1 0 l none) (H := [some (.buf 1 (rows.take l) false true)]) (fun K => ?_) rfl ?_ ?_ ?_ rfl
  · simp only [fn159, List.append_nil, frzArgs, frz, frzAll, frzG, frzGAll, ms2, msUp, frzG, frzGAll, ms2, msUp, Rd.run, hat, List.tail]
    rw [if_pos ⟨trivial, by omega⟩]
    simp only [List.drop_zero, List.nil_append, List.append_nil]
  · refine lim_clone T fns (fn := fn159) rfl (st := 1) (bytes := 16) rfl ?_
    simp only [cloneFn]
    rw [if_pos ⟨by decide, ha, by omega⟩, hlen]
  · simp [V.re, back, nth]
  · simp [pushObs, back, nth, Ob.re]
theorem clipS_at {n p l : Nat} {rows : List (List V)} {f : Bool} {h : Heap} {tr : List Nat} (hat : h.at? p = some (.buf 1 rows f true)) (hpn : p < n) (hb : l < 1000000000000) :
    (callV (LX T fns) n (.clo 158 []) [.ms p 1 0 l none]).run h tr = some ((.ms p 1 0 l (some l), [(p, some (.buf 1 rows f true))]), p :: tr) := by
  have := callV_one (T := T) (fns := fns) (g := 158) (fn := fn158) rfl (args := [.ms p 1 0 l none]) (caps := []) (args' := [.ms p 1 0 l none]) (args2 := [.ms 0 1 0 l none]) (u := []) (us := [(p, some (.buf 1 rows f true))]) (r := .ms 0 1 0 l (some l)) (r' := .ms p 1 0 l (some l)) (o := .buf 1 rows f true) (H := [some (.buf 1 rows f true)]) (h := h) (tr := tr) (tr' := tr) (n := n) (p := p)
    (fun K => by simp only [fn158, List.append_nil, frzArgs, List.tail]) hat rfl rfl rfl hpn (by simp [V.reAll, V.re, idx]) rfl (lim158 l rows f hb) (Nat.le_refl _) (by simp [V.re, back, nth]) (by simp [pushObs, back, nth, Ob.re])
  simpa using this
theorem insS_at {n p q l i : Nat} {kr : List V} {rows : List (List V)} {f g : Bool} {h : Heap} {tr : List Nat} (hat : h.at? p = some (.buf 1 rows f true)) (hat2 : h.at? q = some (.buf 1 [kr] g true)) (hpq : q ≠ p) (hpn : p < n) (hk : kr.length = 1) (hl : rows.length = l) (hb : l < 1000000000000) (hi : i ≤ l) :
    (callV (LX T fns) n (.clo 157 []) [.ms p 1 0 l (some l), .int .i64 i, .ms q 1 0 1 none]).run h tr = some ((.ms n 1 0 (l + 1) none, [(p, some (.buf 1 rows f true)), (n, some (.buf 1 (rows.take i ++ [kr] ++ rows.drop i) false true)), (q, some (.buf 1 [kr] true true))]), p :: q :: tr) := by
  have := callV_one (T := T) (fns := fns) (g := 157) (fn := fn157) rfl (args := [.ms p 1 0 l (some l), .int .i64 i, .ms q 1 0 1 none]) (caps := []) (args' := [.ms p 1 0 l (some l), .int .i64 i, .fz [kr]]) (args2 := [.ms 0 1 0 l (some l), .int .i64 i, .fz [kr]]) (u := [(q, some (.buf 1 [kr] true true))]) (us := [(p, some (.buf 1 rows f true)), (n, some (.buf 1 (rows.take i ++ [kr] ++ rows.drop i) false true))])
    (r := .ms 1 1 0 (l + 1) none) (r' := .ms n 1 0 (l + 1) none) (o := .buf 1 rows f true) (H := [some (.buf 1 rows f true), some (.buf 1 (rows.take i ++ [kr] ++ rows.drop i) false true)]) (h := h) (tr := tr) (tr' := q :: tr) (n := n) (p := p)
    (fun K => by
      simp only [fn157, List.append_nil, frzArgs, frz, frzAll, frzG, frzGAll, ms2, msUp, frzG, frzGAll, ms2, msUp, Rd.run, hat2, List.tail]
      rw [if_pos ⟨trivial, by simp⟩]
      simp) hat (by simp [V.allIds, V.ids]) rfl (by simp [hpq]) hpn (by simp [V.reAll, V.re, idx]) rfl (lim157 l i kr rows f hk hl hb hi) (by simp) (by simp [V.re, back, nth]) (by simp [pushObs, back, nth, Ob.re])
  simpa using this
/-! As simp sees them: the objects first. -/
open Classical in
noncomputable def clS (n p l : Nat) (c : Option Nat) (h : Heap) (tr : List Nat) (x : Option Ob) : Option ((V × Upd) × List Nat) := match x with
  | some (.buf st rows _ true) => if st = 1 ∧ l ≤ rows.length ∧ ((rows.take l).all fun r => r.length == 1) = true ∧ l < 1000000000000 then some ((.ms n 1 0 l none, [(n, some (.buf 1 (rows.take l) false true)), (p, some (.buf 1 rows true true))]), p :: tr) else (callV (LX T fns) n (.clo 159 []) [.ms p 1 0 l c]).run h tr
  | _ => (callV (LX T fns) n (.clo 159 []) [.ms p 1 0 l c]).run h tr
theorem cloneS_look {n p l : Nat} {c : Option Nat} {h : Heap} {tr : List Nat} : (callV (LX T fns) n (.clo 159 []) [.ms p 1 0 l c]).run h tr = clS n p l c h tr (h.at? p) := by
  unfold clS
  split
  · rename_i st rows f hx
    split
    · rename_i hc
      obtain ⟨rfl, h1, h2, h3⟩ := hc
      exact cloneS_at hx h1 h2 h3
    · rfl
  · rfl
theorem cloneS_got {n p l : Nat} {c : Option Nat} {h : Heap} {tr : List Nat} {rows ex : List (List V)} {f : Bool} (h1 : rows.length = l) (h2 : (rows.all fun r => r.length == 1) = true) (h3 : l < 1000000000000) :
    clS n p l c h tr (some (.buf 1 (rows ++ ex) f true)) = some ((.ms n 1 0 l none, [(n, some (.buf 1 rows false true)), (p, some (.buf 1 (rows ++ ex) true true))]), p :: tr) := by
  have e : (rows ++ ex).take l = rows := List.take_left' h1
  unfold clS
  simp only
  rw [if_pos ⟨trivial, by simp; omega, by rw [e]; exact h2, h3⟩, e]
open Classical in
noncomputable def cpS (n p l : Nat) (h : Heap) (tr : List Nat) (x : Option Ob) : Option ((V × Upd) × List Nat) := match x with
  | some (.buf st rows f true) => if st = 1 ∧ p < n ∧ l < 1000000000000 then some ((.ms p 1 0 l (some l), [(p, some (.buf 1 rows f true))]), p :: tr) else (callV (LX T fns) n (.clo 158 []) [.ms p 1 0 l none]).run h tr
  | _ => (callV (LX T fns) n (.clo 158 []) [.ms p 1 0 l none]).run h tr
theorem clipS_look {n p l : Nat} {h : Heap} {tr : List Nat} : (callV (LX T fns) n (.clo 158 []) [.ms p 1 0 l none]).run h tr = cpS n p l h tr (h.at? p) := by
  unfold cpS
  split
  · rename_i st rows f hx
    split
    · rename_i hc
      obtain ⟨rfl, h1, h2⟩ := hc
      exact clipS_at hx h1 h2
    · rfl
  · rfl
theorem clipS_got {n p l : Nat} {h : Heap} {tr : List Nat} {rows : List (List V)} {f : Bool} (h1 : p < n) (h3 : l < 1000000000000) :
    cpS n p l h tr (some (.buf 1 rows f true)) = some ((.ms p 1 0 l (some l), [(p, some (.buf 1 rows f true))]), p :: tr) := by
  unfold cpS
  simp only
  rw [if_pos ⟨trivial, h1, h3⟩]
open Classical in
noncomputable def inS (n p q l i : Nat) (h : Heap) (tr : List Nat) (x y : Option Ob) : Option ((V × Upd) × List Nat) := match x, y with
  | some (.buf st rows f true), some (.buf st2 [kr] g true) => if st = 1 ∧ st2 = 1 ∧ q ≠ p ∧ p < n ∧ kr.length = 1 ∧ rows.length = l ∧ l < 1000000000000 ∧ i ≤ l then
      some ((.ms n 1 0 (l + 1) none, [(p, some (.buf 1 rows f true)), (n, some (.buf 1 (rows.take i ++ [kr] ++ rows.drop i) false true)), (q, some (.buf 1 [kr] true true))]), p :: q :: tr) else (callV (LX T fns) n (.clo 157 []) [.ms p 1 0 l (some l), .int .i64 i, .ms q 1 0 1 none]).run h tr
  | _, _ => (callV (LX T fns) n (.clo 157 []) [.ms p 1 0 l (some l), .int .i64 i, .ms q 1 0 1 none]).run h tr
theorem insS_look {n p q l i : Nat} {h : Heap} {tr : List Nat} : (callV (LX T fns) n (.clo 157 []) [.ms p 1 0 l (some l), .int .i64 i, .ms q 1 0 1 none]).run h tr = inS n p q l i h tr (h.at? p) (h.at? q) := by
  unfold inS
  split
  · rename_i st rows f st2 kr g hx hy
    split
    · rename_i hc
      obtain ⟨rfl, rfl, h1, h2, h3, h4, h5, h6⟩ := hc
      exact insS_at hx hy h1 h2 h3 h4 h5 h6
    · rfl
  · rfl
theorem insS_got {n p q l i : Nat} {h : Heap} {tr : List Nat} {rows : List (List V)} {kr : List V} {f g : Bool} (h1 : q ≠ p) (h2 : p < n) (h3 : kr.length = 1) (h4 : rows.length = l) (h5 : l < 1000000000000) (h6 : i ≤ l) :
    inS n p q l i h tr (some (.buf 1 rows f true)) (some (.buf 1 [kr] g true)) = some ((.ms n 1 0 (l + 1) none, [(p, some (.buf 1 rows f true)), (n, some (.buf 1 (insAt i kr rows) false true)), (q, some (.buf 1 [kr] true true))]), p :: q :: tr) := by
  unfold inS
  exact if_pos ⟨rfl, rfl, h1, h2, h3, h4, h5, h6⟩
attribute [go_sem] cloneC_look cloneC_got clipC_look clipC_got insC_look insC_got cloneS_look cloneS_got clipS_look clipS_got insS_look insS_got
end Go.Proofs.Ytfdemnefkfkghaa.R
/- Chapter 31's laws: a key put into a map. (printed by mk31.py out of t31f.txt) -/
namespace Go.Proofs.Ytfdemnefkfkghaa.R
open Go Go.Proofs
set_option linter.unusedSimpArgs false
set_option linter.unusedVariables false
set_option maxRecDepth 10000
set_option maxHeartbeats 4000000

theorem insAt_map {α β : Type} {f : α → β} {i : Nat} {x : α} {l : List α} : insAt i (f x) (l.map f) = (insAt i x l).map f := by
  unfold insAt
  simp only [List.map_append, List.map_cons, List.map_nil, List.map_take, List.map_drop]
theorem insAt_str {i : Nat} {x : ByteArray} {l : List ByteArray} : insAt i [V.str x] (l.map Cd.str.enc) = (insAt i x l).map Cd.str.enc := insAt_map (f := Cd.str.enc)
theorem insAt_151 {i : Nat} {x : S151} {l : List S151} : insAt i [V.str x.f0, .bool x.f1, .bool x.f2, .str x.f3, .str x.f4] (l.map k151.enc) = (insAt i x l).map k151.enc := insAt_map (f := k151.enc)
theorem enc_len_C (x : S151) : ([V.str x.f0, .bool x.f1, .bool x.f2, .str x.f3, .str x.f4] : List V).length = 5 := rfl
theorem lim92_new (k : ByteArray) (c : S151) (ks : List ByteArray) (vs : List S151) (ex ey : List (List V)) (f g : Bool) (hr : risesK ks = true) (hl : ks.length < 1000000000) (hv : vs.length = ks.length) (hb : hasB k ks = false) : lim T fns 92 [.ptr 0 0 0, .str k, valC c] [mobC 1 2 ks.length, kob ks ex f, vobC vs ey g] =
    some (.bool true, [some (mobC 3 4 (ks.length + 1)), some (kob ks ex true), some (vobC vs ey true), some (kob (insAt (posB k ks) k ks) [] false), some (vobC (insAt (posB k ks) c vs) [] false)]) := by
  refine fn_rule (fn := fn92) rfl rfl (by simp [fn92]) ?_
  unfold fn92
  simp only [Try.f92, Option.getD_some, argEnv, List.map_nil, List.length_nil]
  have hc := fun (n : Nat) (hn : 3 ≤ n) (rest : Heap) => call156 k ks vs ex ey f g hr (by omega) n hn rest
  have hp := posB_le k ks
  have hl12 : ks.length < 1000000000000 := by omega
  rw [hb] at hc
  simp only [mobC, kob, vobC, List.append_nil] at hc ⊢
  simp only [go_sem, T_1, T_3, T_4, T_9, T_50, T_69, T_151, T_152, T_217, hc, eqPC, nilCheckR, extractR, hv, hp, hl12, valC, k151_enc, all_str, all151, insAt_str, insAt_151, buildSliceR, fillR, List.replicate, List.set_cons_zero, ne_eq, Nat.reduceEqDiff]
  repeat (refine ⟨by kernel_rfl, ?_⟩)
  show _ = _
  kernel_rfl
theorem lim92_old (k : ByteArray) (c : S151) (ks : List ByteArray) (vs : List S151) (ex ey : List (List V)) (f g : Bool) (hr : risesK ks = true) (hl : ks.length < 1000000000) (hv : vs.length = ks.length) (hb : hasB k ks = true) : lim T fns 92 [.ptr 0 0 0, .str k, valC c] [mobC 1 2 ks.length, kob ks ex f, vobC vs ey g] =
    some (.bool false, [some (mobC 1 3 ks.length), some (kob ks ex f), some (vobC vs ey true), some (vobC (vs.set (posB k ks) c) [] false)]) := by
  refine fn_rule (fn := fn92) rfl rfl (by simp [fn92]) ?_
  unfold fn92
  simp only [Try.f92, Option.getD_some, argEnv, List.map_nil, List.length_nil]
  have hc := fun (n : Nat) (hn : 3 ≤ n) (rest : Heap) => call156 k ks vs ex ey f g hr (by omega) n hn rest
  have hp2 := hasB_lt hb
  have hp : posB k ks < vs.length := by omega
  have hl12 : ks.length < 1000000000000 := by omega
  have hx : vs[posB k ks]? = some vs[posB k ks] := List.getElem?_eq_getElem hp
  rw [hb] at hc
  simp only [mobC, kob, vobC, List.append_nil] at hc ⊢
  simp only [go_sem, T_1, T_3, T_4, T_9, T_50, T_69, T_151, T_152, T_217, hc, eqPC, nilCheckR, extractR, hv, hp, hp2, hl12, hx, valC, k151_enc, all_str, all151, ne_eq, Nat.reduceEqDiff]
  repeat (refine ⟨by kernel_rfl, ?_⟩)
  rw [show [V.str c.f0, .bool c.f1, .bool c.f2, .str c.f3, .str c.f4] = k151.enc c from rfl, ← List.map_set]
  show _ = _
  kernel_rfl
theorem call92_new (k : ByteArray) (c : S151) (ks : List ByteArray) (vs : List S151) (ex ey : List (List V)) (f g : Bool) (hr : risesK ks = true) (hl : ks.length < 1000000000) (hv : vs.length = ks.length) (hb : hasB k ks = false) (n : Nat) (hn : 3 ≤ n) (rest : Heap) :
    (callV (LX T fns) n (.clo 92 []) [.ptr 0 0 0, .str k, valC c]).run (some (mobC 1 2 ks.length) :: some (kob ks ex f) :: some (vobC vs ey g) :: rest) [] =
    some ((.bool true, [(0, some (mobC n (n + 1) (ks.length + 1))), (1, some (kob ks ex true)), (2, some (vobC vs ey true)), (n, some (kob (insAt (posB k ks) k ks) [] false)), (n + 1, some (vobC (insAt (posB k ks) c vs) [] false))]), [2, 1, 0]) := by
  have h := lim92_new k c ks vs ex ey f g hr hl hv hb
  simp only [mobC, kob, vobC, valC, k151_enc, List.append_nil] at h ⊢
  have hf : fns 92 = some fn92 := rfl
  unfold callV
  simp only [hf]
  unfold callR
  simp only [fn92, List.cons_append, List.nil_append, List.append_nil, frzArgs, frz, frzAll, frzG, frzGAll, ms2, msUp, List.tail]
  simp only [V.allIds, V.ids, List.append_nil, List.nil_append, collect, List.map_nil, List.contains_nil, Bool.false_eq_true, if_false, Rd.run, Heap.at?, Ob.ids, rowsIds, List.map_cons, List.cons_append, List.contains_cons, Nat.reduceBEq, Bool.or_self, Bool.or_false, Bool.false_or, Bool.or_true, Bool.true_or, if_true]
  unfold withR
  simp only [List.map_cons, List.map_nil, upd1, List.all_nil, List.all_cons, show 0 < n by omega, show 1 < n by omega, show 2 < n by omega, decide_true, Bool.and_self, if_true, V.reAll, V.re, idx, Nat.beq, cond_true, cond_false, Option.bind_some, Option.map_some, pullObs, Ob.re, reRows, Nat.reduceAdd, h, List.length_cons, List.length_nil, Nat.le_refl]
  unfold afterR
  simp only [V.re, V.reAll, pushObs, back, nth, Ob.re, reRows, Option.bind_some, Option.map_some, List.isEmpty_cons, Bool.false_and, Bool.false_eq_true, if_false, Rd.run, List.append_nil, Nat.reduceAdd]
  simp only [List.length_cons, List.length_nil, Nat.zero_add, Nat.reduceAdd, Nat.reduceLT, Nat.reduceLeDiff, if_true, Option.map_some, Option.bind_some, Nat.reduceSub, Nat.sub_self, Nat.add_zero]
  show _ = _
  kernel_rfl
theorem call92_old (k : ByteArray) (c : S151) (ks : List ByteArray) (vs : List S151) (ex ey : List (List V)) (f g : Bool) (hr : risesK ks = true) (hl : ks.length < 1000000000) (hv : vs.length = ks.length) (hb : hasB k ks = true) (n : Nat) (hn : 3 ≤ n) (rest : Heap) :
    (callV (LX T fns) n (.clo 92 []) [.ptr 0 0 0, .str k, valC c]).run (some (mobC 1 2 ks.length) :: some (kob ks ex f) :: some (vobC vs ey g) :: rest) [] =
    some ((.bool false, [(0, some (mobC 1 n ks.length)), (1, some (kob ks ex f)), (2, some (vobC vs ey true)), (n, some (vobC (vs.set (posB k ks) c) [] false))]), [2, 1, 0]) := by
  have h := lim92_old k c ks vs ex ey f g hr hl hv hb
  simp only [mobC, kob, vobC, valC, k151_enc, List.append_nil] at h ⊢
  have hf : fns 92 = some fn92 := rfl
  unfold callV
  simp only [hf]
  unfold callR
  simp only [fn92, List.cons_append, List.nil_append, List.append_nil, frzArgs, frz, frzAll, frzG, frzGAll, ms2, msUp, List.tail]
  simp only [V.allIds, V.ids, List.append_nil, List.nil_append, collect, List.map_nil, List.contains_nil, Bool.false_eq_true, if_false, Rd.run, Heap.at?, Ob.ids, rowsIds, List.map_cons, List.cons_append, List.contains_cons, Nat.reduceBEq, Bool.or_self, Bool.or_false, Bool.false_or, Bool.or_true, Bool.true_or, if_true]
  unfold withR
  simp only [List.map_cons, List.map_nil, upd1, List.all_nil, List.all_cons, show 0 < n by omega, show 1 < n by omega, show 2 < n by omega, decide_true, Bool.and_self, if_true, V.reAll, V.re, idx, Nat.beq, cond_true, cond_false, Option.bind_some, Option.map_some, pullObs, Ob.re, reRows, Nat.reduceAdd, h, List.length_cons, List.length_nil, Nat.le_refl]
  unfold afterR
  simp only [V.re, V.reAll, pushObs, back, nth, Ob.re, reRows, Option.bind_some, Option.map_some, List.isEmpty_cons, Bool.false_and, Bool.false_eq_true, if_false, Rd.run, List.append_nil, Nat.reduceAdd]
  simp only [List.length_cons, List.length_nil, Nat.zero_add, Nat.reduceAdd, Nat.reduceLT, Nat.reduceLeDiff, if_true, Option.map_some, Option.bind_some, Nat.reduceSub, Nat.sub_self, Nat.add_zero]
  show _ = _
  kernel_rfl
theorem lim103_new (k : ByteArray) (c : ByteArray) (ks : List ByteArray) (vs : List ByteArray) (ex ey : List (List V)) (f g : Bool) (hr : risesK ks = true) (hl : ks.length < 1000000000) (hv : vs.length = ks.length) (hb : hasB k ks = false) : lim T fns 103 [.ptr 0 0 0, .str k, valS c] [mobS 1 2 ks.length, kob ks ex f, vobS vs ey g] =
    some (.bool true, [some (mobS 3 4 (ks.length + 1)), some (kob ks ex true), some (vobS vs ey true), some (kob (insAt (posB k ks) k ks) [] false), some (vobS (insAt (posB k ks) c vs) [] false)]) := by
  refine fn_rule (fn := fn103) rfl rfl (by simp [fn103]) ?_
  unfold fn103
  simp only [Try.f103, Option.getD_some, argEnv, List.map_nil, List.length_nil]
  have hc := fun (n : Nat) (hn : 3 ≤ n) (rest : Heap) => call164 k ks vs ex ey f g hr (by omega) n hn rest
  have hp := posB_le k ks
  have hl12 : ks.length < 1000000000000 := by omega
  rw [hb] at hc
  simp only [mobS, kob, vobS, List.append_nil] at hc ⊢
  simp only [go_sem, T_1, T_3, T_9, T_69, T_166, T_225, hc, eqPS, nilCheckR, extractR, hv, hp, hl12, valS, all_str, insAt_str, buildSliceR, fillR, List.replicate, List.set_cons_zero, ne_eq, Nat.reduceEqDiff]
  repeat (refine ⟨by kernel_rfl, ?_⟩)
  show _ = _
  kernel_rfl
theorem lim103_old (k : ByteArray) (c : ByteArray) (ks : List ByteArray) (vs : List ByteArray) (ex ey : List (List V)) (f g : Bool) (hr : risesK ks = true) (hl : ks.length < 1000000000) (hv : vs.length = ks.length) (hb : hasB k ks = true) : lim T fns 103 [.ptr 0 0 0, .str k, valS c] [mobS 1 2 ks.length, kob ks ex f, vobS vs ey g] =
    some (.bool false, [some (mobS 1 3 ks.length), some (kob ks ex f), some (vobS vs ey true), some (vobS (vs.set (posB k ks) c) [] false)]) := by
  refine fn_rule (fn := fn103) rfl rfl (by simp [fn103]) ?_
  unfold fn103
  simp only [Try.f103, Option.getD_some, argEnv, List.map_nil, List.length_nil]
  have hc := fun (n : Nat) (hn : 3 ≤ n) (rest : Heap) => call164 k ks vs ex ey f g hr (by omega) n hn rest
  have hp2 := hasB_lt hb
  have hp : posB k ks < vs.length := by omega
  have hl12 : ks.length < 1000000000000 := by omega
  have hx : vs[posB k ks]? = some vs[posB k ks] := List.getElem?_eq_getElem hp
  rw [hb] at hc
  simp only [mobS, kob, vobS, List.append_nil] at hc ⊢
  simp only [go_sem, T_1, T_3, T_9, T_69, T_166, T_225, hc, eqPS, nilCheckR, extractR, hv, hp, hp2, hl12, hx, valS, all_str, ne_eq, Nat.reduceEqDiff]
  repeat (refine ⟨by kernel_rfl, ?_⟩)
  rw [show [V.str c] = Cd.str.enc c from rfl, ← List.map_set]
  show _ = _
  kernel_rfl
theorem call103_new (k : ByteArray) (c : ByteArray) (ks : List ByteArray) (vs : List ByteArray) (ex ey : List (List V)) (f g : Bool) (hr : risesK ks = true) (hl : ks.length < 1000000000) (hv : vs.length = ks.length) (hb : hasB k ks = false) (n : Nat) (hn : 3 ≤ n) (rest : Heap) :
    (callV (LX T fns) n (.clo 103 []) [.ptr 0 0 0, .str k, valS c]).run (some (mobS 1 2 ks.length) :: some (kob ks ex f) :: some (vobS vs ey g) :: rest) [] =
    some ((.bool true, [(0, some (mobS n (n + 1) (ks.length + 1))), (1, some (kob ks ex true)), (2, some (vobS vs ey true)), (n, some (kob (insAt (posB k ks) k ks) [] false)), (n + 1, some (vobS (insAt (posB k ks) c vs) [] false))]), [2, 1, 0]) := by
  have h := lim103_new k c ks vs ex ey f g hr hl hv hb
  simp only [mobS, kob, vobS, valS, List.append_nil] at h ⊢
  have hf : fns 103 = some fn103 := rfl
  unfold callV
  simp only [hf]
  unfold callR
  simp only [fn103, List.cons_append, List.nil_append, List.append_nil, frzArgs, frz, frzAll, frzG, frzGAll, ms2, msUp, List.tail]
  simp only [V.allIds, V.ids, List.append_nil, List.nil_append, collect, List.map_nil, List.contains_nil, Bool.false_eq_true, if_false, Rd.run, Heap.at?, Ob.ids, rowsIds, List.map_cons, List.cons_append, List.contains_cons, Nat.reduceBEq, Bool.or_self, Bool.or_false, Bool.false_or, Bool.or_true, Bool.true_or, if_true]
  unfold withR
  simp only [List.map_cons, List.map_nil, upd1, List.all_nil, List.all_cons, show 0 < n by omega, show 1 < n by omega, show 2 < n by omega, decide_true, Bool.and_self, if_true, V.reAll, V.re, idx, Nat.beq, cond_true, cond_false, Option.bind_some, Option.map_some, pullObs, Ob.re, reRows, Nat.reduceAdd, h, List.length_cons, List.length_nil, Nat.le_refl]
  unfold afterR
  simp only [V.re, V.reAll, pushObs, back, nth, Ob.re, reRows, Option.bind_some, Option.map_some, List.isEmpty_cons, Bool.false_and, Bool.false_eq_true, if_false, Rd.run, List.append_nil, Nat.reduceAdd]
  simp only [List.length_cons, List.length_nil, Nat.zero_add, Nat.reduceAdd, Nat.reduceLT, Nat.reduceLeDiff, if_true, Option.map_some, Option.bind_some, Nat.reduceSub, Nat.sub_self, Nat.add_zero]
  show _ = _
  kernel_rfl
theorem call103_old (k : ByteArray) (c : ByteArray) (ks : List ByteArray) (vs : List ByteArray) (ex ey : List (List V)) (f g : Bool) (hr : risesK ks = true) (hl : ks.length < 1000000000) (hv : vs.length = ks.length) (hb : hasB k ks = true) (n : Nat) (hn : 3 ≤ n) (rest : Heap) :
    (callV (LX T fns) n (.clo 103 []) [.ptr 0 0 0, .str k, valS c]).run (some (mobS 1 2 ks.length) :: some (kob ks ex f) :: some (vobS vs ey g) :: rest) [] =
    some ((.bool false, [(0, some (mobS 1 n ks.length)), (1, some (kob ks ex f)), (2, some (vobS vs ey true)), (n, some (vobS (vs.set (posB k ks) c) [] false))]), [2, 1, 0]) := by
  have h := lim103_old k c ks vs ex ey f g hr hl hv hb
  simp only [mobS, kob, vobS, valS, List.append_nil] at h ⊢
  have hf : fns 103 = some fn103 := rfl
  unfold callV
  simp only [hf]
  unfold callR
  simp only [fn103, List.cons_append, List.nil_append, List.append_nil, frzArgs, frz, frzAll, frzG, frzGAll, ms2, msUp, List.tail]
  simp only [V.allIds, V.ids, List.append_nil, List.nil_append, collect, List.map_nil, List.contains_nil, Bool.false_eq_true, if_false, Rd.run, Heap.at?, Ob.ids, rowsIds, List.map_cons, List.cons_append, List.contains_cons, Nat.reduceBEq, Bool.or_self, Bool.or_false, Bool.false_or, Bool.or_true, Bool.true_or, if_true]
  unfold withR
  simp only [List.map_cons, List.map_nil, upd1, List.all_nil, List.all_cons, show 0 < n by omega, show 1 < n by omega, show 2 < n by omega, decide_true, Bool.and_self, if_true, V.reAll, V.re, idx, Nat.beq, cond_true, cond_false, Option.bind_some, Option.map_some, pullObs, Ob.re, reRows, Nat.reduceAdd, h, List.length_cons, List.length_nil, Nat.le_refl]
  unfold afterR
  simp only [V.re, V.reAll, pushObs, back, nth, Ob.re, reRows, Option.bind_some, Option.map_some, List.isEmpty_cons, Bool.false_and, Bool.false_eq_true, if_false, Rd.run, List.append_nil, Nat.reduceAdd]
  simp only [List.length_cons, List.length_nil, Nat.zero_add, Nat.reduceAdd, Nat.reduceLT, Nat.reduceLeDiff, if_true, Option.map_some, Option.bind_some, Nat.reduceSub, Nat.sub_self, Nat.add_zero]
  show _ = _
  kernel_rfl
end Go.Proofs.Ytfdemnefkfkghaa.R
/- Chapter 31's laws: slices.Delete of texts. -/
namespace Go.Proofs.Ytfdemnefkfkghaa.R
open Go Go.Proofs
set_option linter.unusedSimpArgs false
set_option linter.unusedVariables false
set_option maxRecDepth 10000
set_option maxHeartbeats 2000000

def delAt {α : Type} (i : Nat) (l : List α) : List α := l.take i ++ l.drop (i + 1)
theorem delAt_len {α : Type} {i : Nat} {l : List α} (h : i < l.length) : (delAt i l).length = l.length - 1 := by
  unfold delAt
  simp
  omega
theorem delAt_map {α β : Type} {f : α → β} {i : Nat} {l : List α} : delAt i (l.map f) = (delAt i l).map f := by
  unfold delAt
  simp only [List.map_append, List.map_take, List.map_drop]

theorem app_self {ti : TI} {n i m : Nat} {rows : List (List V)} {rest : Heap} {tr : List Nat} (hl : rows.length = n) (hi : i + 1 < n) (hn : n < 1000000000000) (hb : ti.bytes ≤ 100) :
    (appendR ti m (.ms 0 ti.size 0 i none) (List.take (n - (i + 1)) (List.drop (i + 1) rows)) true).run (some (.buf ti.size rows false true) :: rest) tr =
      some ((.ms 0 ti.size 0 (n - 1) none, [(0, some (.buf ti.size (delAt i rows ++ rows.drop (n - 1)) false true))]), 0 :: tr) := by
  have hm : n * ti.bytes ≤ n * 100 := Nat.mul_le_mul_left _ hb
  have e0 : (rows.drop (i + 1)).take (n - (i + 1)) = rows.drop (i + 1) := List.take_of_length_le (by simp; omega)
  rw [e0]
  have hlen : (rows.drop (i + 1)).length = n - (i + 1) := by simp; omega
  have hne : ¬ (rows.drop (i + 1)).length = 0 := by omega
  unfold appendR
  simp only [hne, if_false, if_true, Rd.run, Heap.at?]
  have hbytes : (i + (rows.drop (i + 1)).length) * ti.bytes ≤ 140737488355328 := by
    rw [hlen, show i + (n - (i + 1)) = n - 1 by omega]
    have : (n - 1) * ti.bytes ≤ n * ti.bytes := Nat.mul_le_mul_right _ (by omega)
    omega
  rw [if_pos ⟨trivial, by omega, hbytes, by omega⟩]
  unfold appendM
  simp only
  rw [if_pos (by omega), hlen, show i + (n - (i + 1)) = n - 1 by omega, show 0 + i + (n - (i + 1)) = n - 1 by omega]
  simp [Rd.run, delAt]
theorem far_fact {st a n : Nat} {R : List (List V)} {f p : Bool} {rest : Heap} {tr : List Nat} (hR : R.length = n) (ha : a ≤ n) :
    (farR st (.ms 0 st 0 a none) (some (.int .i64 (a : Int))) (some (.int .i64 (n : Int))) none).run (some (.buf st R f p) :: rest) tr = some ((.ms 0 st a (n - a) none, []), 0 :: tr) := by
  unfold farR
  simp only [natOf_cast, optNat, Rd.run, Heap.at?]
  rw [if_pos ⟨trivial, trivial, by omega, ha⟩]
  simp [Rd.run]
theorem clear_fact {ti : TI} {a n : Nat} {R : List (List V)} {p : Bool} {rest : Heap} {tr : List Nat} (hR : R.length = n) (ha : a ≤ n) :
    (clearR ti (.ms 0 ti.size a (n - a) none)).run (some (.buf ti.size R false p) :: rest) tr = some ((.undef, [(0, some (.buf ti.size (R.take a ++ List.replicate (n - a) ti.zero.cells) false p))]), 0 :: tr) := by
  unfold clearR
  simp only [if_true, Rd.run, Heap.at?]
  rw [if_pos ⟨trivial, by omega⟩, show a + (n - a) = n by omega, List.drop_eq_nil_of_le (by omega), List.append_nil]
  rfl
theorem lim165 (n i : Nat) (rows : List (List V)) (ha : (rows.all fun r => r.length == 1) = true) (hl : rows.length = n) (hn : n < 1000000000000) (hi : i < n) : lim T fns 165 [.ms 0 1 0 n none, .int .i64 i, .int .i64 ((i + 1 : Nat) : Int)] [.buf 1 rows false true] =
    some (.ms 0 1 0 (n - 1) none, [some (.buf 1 (delAt i rows ++ [[.str ⟨#[]⟩]]) false true)]) := by
  refine fn_rule (fn := fn165) rfl rfl (by simp [fn165]) ?_
  unfold fn165
  simp only [Try.f165, Option.getD_some, argEnv, List.map_nil, List.length_nil]
  have hne : ¬ i = i + 1 := by omega
  have hdl : (delAt i rows).length = n - 1 := by rw [delAt_len (by omega), hl]
  by_cases he : i + 1 = n
  · have e1 : rows.take i = delAt i rows := by unfold delAt; rw [List.drop_eq_nil_of_le (by omega), List.append_nil]
    have h2 := fun (rest : Heap) => far_fact (st := 1) (a := i) (n := n) (R := rows) (f := false) (p := true) (rest := rest) (tr := []) hl (by omega)
    have h3 := fun (rest : Heap) => clear_fact (ti := ⟨.str, 1, 16, .str ⟨#[]⟩⟩) (a := i) (n := n) (R := rows) (p := true) (rest := rest) (tr := []) hl (by omega)
    simp only [e1, show n - i = 1 by omega, V.cells, List.replicate] at h2 h3
    simp only [go_sem, T_3, T_9, T_69, Nat.le_refl, Nat.zero_le, hi, Nat.le_of_lt hi, he, show i ≤ n by omega, cast_beq, show ¬ i = n by omega, show ¬ n ≤ i by omega, natOf_lit, hl, h2, h3, show n - i = 1 by omega, show n - 1 = i by omega, List.replicate]
    repeat (refine ⟨by kernel_rfl, ?_⟩)
    show _ = _
    kernel_rfl
  · have hR : (delAt i rows ++ rows.drop (n - 1)).length = n := by simp [hdl]; omega
    have e1 : (delAt i rows ++ rows.drop (n - 1)).take (n - 1) = delAt i rows := List.take_left' hdl
    have h1 := fun (m : Nat) (rest : Heap) => app_self (ti := ⟨.str, 1, 16, .str ⟨#[]⟩⟩) (n := n) (i := i) (m := m) (rows := rows) (rest := rest) (tr := [0]) hl (by omega) hn (by decide)
    have h2 := fun (rest : Heap) => far_fact (st := 1) (a := n - 1) (n := n) (R := delAt i rows ++ rows.drop (n - 1)) (f := false) (p := true) (rest := rest) (tr := []) hR (by omega)
    have h3 := fun (rest : Heap) => clear_fact (ti := ⟨.str, 1, 16, .str ⟨#[]⟩⟩) (a := n - 1) (n := n) (R := delAt i rows ++ rows.drop (n - 1)) (p := true) (rest := rest) (tr := []) hR (by omega)
    simp only [e1, show n - (n - 1) = 1 by omega, V.cells, List.replicate] at h1 h2 h3
    simp only [go_sem, T_3, T_9, T_69, Nat.le_refl, Nat.zero_le, hi, Nat.le_of_lt hi, show i + 1 ≤ n by omega, show i ≤ i + 1 by omega, cast_beq, hne, natOf_lit, hl, h1, h2, h3, show i + 1 + (n - (i + 1)) ≤ n by omega, and_false, show ¬ n ≤ n - 1 by omega, show n - (n - 1) = 1 by omega, List.replicate]
    repeat (refine ⟨by kernel_rfl, ?_⟩)
    show _ = _
    kernel_rfl
end Go.Proofs.Ytfdemnefkfkghaa.R
/- Chapter 31's laws: a key taken away. -/
namespace Go.Proofs.Ytfdemnefkfkghaa.R
open Go Go.Proofs
set_option linter.unusedSimpArgs false
set_option linter.unusedVariables false
set_option maxRecDepth 10000
set_option maxHeartbeats 4000000

theorem del_at {n p l i : Nat} {rows : List (List V)} {h : Heap} {tr : List Nat} (hat : h.at? p = some (.buf 1 rows false true)) (hpn : p < n) (ha : (rows.all fun r => r.length == 1) = true) (hl : rows.length = l) (hb : l < 1000000000000) (hi : i < l) :
    (callV (LX T fns) n (.clo 165 []) [.ms p 1 0 l none, .int .i64 i, .int .i64 ((i + 1 : Nat) : Int)]).run h tr = some ((.ms p 1 0 (l - 1) none, [(p, some (.buf 1 (delAt i rows ++ [[.str ⟨#[]⟩]]) false true))]), p :: tr) := by
  have := callV_one (T := T) (fns := fns) (g := 165) (fn := fn165) rfl (args := [.ms p 1 0 l none, .int .i64 i, .int .i64 ((i + 1 : Nat) : Int)]) (caps := []) (args' := [.ms p 1 0 l none, .int .i64 i, .int .i64 ((i + 1 : Nat) : Int)]) (args2 := [.ms 0 1 0 l none, .int .i64 i, .int .i64 ((i + 1 : Nat) : Int)]) (u := []) (us := [(p, some (.buf 1 (delAt i rows ++ [[.str ⟨#[]⟩]]) false true))])
    (r := .ms 0 1 0 (l - 1) none) (r' := .ms p 1 0 (l - 1) none) (o := .buf 1 rows false true) (H := [some (.buf 1 (delAt i rows ++ [[.str ⟨#[]⟩]]) false true)]) (h := h) (tr := tr) (tr' := tr) (n := n) (p := p)
    (fun K => by simp only [fn165, List.append_nil, frzArgs, frz, frzAll, frzG, frzGAll, ms2, msUp, frzG, List.tail, List.nil_append]) hat (by simp [V.allIds, V.ids]) rfl rfl hpn (by simp [V.reAll, V.re, idx]) rfl (lim165 l i rows ha hl hb hi) (Nat.le_refl _) (by simp [V.re, back, nth]) (by simp [pushObs, back, nth, Ob.re])
  simpa using this
open Classical in
noncomputable def dl (n p l i : Nat) (j : Int) (h : Heap) (tr : List Nat) (x : Option Ob) : Option ((V × Upd) × List Nat) := match x with
  | some (.buf st rows false true) => if st = 1 ∧ p < n ∧ (rows.all fun r => r.length == 1) = true ∧ rows.length = l ∧ l < 1000000000000 ∧ i < l ∧ j = ((i + 1 : Nat) : Int) then some ((.ms p 1 0 (l - 1) none, [(p, some (.buf 1 (delAt i rows ++ [[.str ⟨#[]⟩]]) false true))]), p :: tr) else (callV (LX T fns) n (.clo 165 []) [.ms p 1 0 l none, .int .i64 i, .int .i64 j]).run h tr
  | _ => (callV (LX T fns) n (.clo 165 []) [.ms p 1 0 l none, .int .i64 i, .int .i64 j]).run h tr
theorem del_look {n p l i : Nat} {j : Int} {h : Heap} {tr : List Nat} : (callV (LX T fns) n (.clo 165 []) [.ms p 1 0 l none, .int .i64 i, .int .i64 j]).run h tr = dl n p l i j h tr (h.at? p) := by
  unfold dl
  split
  · rename_i st rows hx
    split
    · rename_i hc
      obtain ⟨rfl, h1, h2, h3, h4, h5, rfl⟩ := hc
      exact del_at hx h1 h2 h3 h4 h5
    · rfl
  · rfl
theorem del_got {n p l i : Nat} {h : Heap} {tr : List Nat} {rows : List (List V)} (h1 : p < n) (h2 : (rows.all fun r => r.length == 1) = true) (h3 : rows.length = l) (h4 : l < 1000000000000) (h5 : i < l) :
    dl n p l i ((i + 1 : Nat) : Int) h tr (some (.buf 1 rows false true)) = some ((.ms p 1 0 (l - 1) none, [(p, some (.buf 1 (delAt i rows ++ [[.str ⟨#[]⟩]]) false true))]), p :: tr) := by
  exact if_pos ⟨rfl, h1, h2, h3, h4, h5, rfl⟩
attribute [go_sem] del_look del_got

theorem lim105_no (k : ByteArray) (ks vs : List ByteArray) (ex ey : List (List V)) (f g : Bool) (hr : risesK ks = true) (hl : ks.length < 1000000000) (hv : vs.length = ks.length) (hb : hasB k ks = false) : lim T fns 105 [.ptr 0 0 0, .str k] [mobS 1 2 ks.length, kob ks ex f, vobS vs ey g] =
    some (.bool false, [some (mobS 1 2 ks.length), some (kob ks ex f), some (vobS vs ey g)]) := by
  refine fn_rule (fn := fn105) rfl rfl (by simp [fn105]) ?_
  unfold fn105
  simp only [Try.f105, Option.getD_some, argEnv, List.map_nil, List.length_nil]
  have hc := fun (n : Nat) (hn : 3 ≤ n) (rest : Heap) => call164 k ks vs ex ey f g hr (by omega) n hn rest
  rw [hb] at hc
  simp only [mobS, kob, vobS, List.append_nil] at hc ⊢
  simp only [go_sem, T_3, T_4, T_9, T_69, T_166, T_225, hc, eqPS, nilCheckR, extractR]
  show _ = _
  kernel_rfl
theorem lim105_yes (k : ByteArray) (ks vs : List ByteArray) (ex ey : List (List V)) (f g : Bool) (hr : risesK ks = true) (hl : ks.length < 1000000000) (hv : vs.length = ks.length) (hb : hasB k ks = true) : lim T fns 105 [.ptr 0 0 0, .str k] [mobS 1 2 ks.length, kob ks ex f, vobS vs ey g] =
    some (.bool true, [some (mobS 3 4 (ks.length - 1)), some (kob ks ex true), some (vobS vs ey true), some (kob (delAt (posB k ks) ks) [[.str ⟨#[]⟩]] false), some (vobS (delAt (posB k ks) vs) [[.str ⟨#[]⟩]] false)]) := by
  refine fn_rule (fn := fn105) rfl rfl (by simp [fn105]) ?_
  unfold fn105
  simp only [Try.f105, Option.getD_some, argEnv, List.map_nil, List.length_nil]
  have hc := fun (n : Nat) (hn : 3 ≤ n) (rest : Heap) => call164 k ks vs ex ey f g hr (by omega) n hn rest
  have hp := hasB_lt hb
  have hl12 : ks.length < 1000000000000 := by omega
  rw [hb] at hc
  simp only [mobS, kob, vobS, List.append_nil] at hc ⊢
  simp only [go_sem, T_3, T_4, T_9, T_69, T_166, T_225, hc, eqPS, nilCheckR, extractR, hv, hp, hl12, all_str, wrap_i64s (show posB k ks < 1000000000000000000 by omega), ne_eq, Nat.reduceEqDiff]
  rw [delAt_map (f := Cd.str.enc) (l := ks), delAt_map (f := Cd.str.enc) (l := vs)]
  show _ = _
  kernel_rfl
theorem call105_no (k : ByteArray) (ks vs : List ByteArray) (ex ey : List (List V)) (f g : Bool) (hr : risesK ks = true) (hl : ks.length < 1000000000) (hv : vs.length = ks.length) (hb : hasB k ks = false) (n : Nat) (hn : 3 ≤ n) (rest : Heap) :
    (callV (LX T fns) n (.clo 105 []) [.ptr 0 0 0, .str k]).run (some (mobS 1 2 ks.length) :: some (kob ks ex f) :: some (vobS vs ey g) :: rest) [] =
    some ((.bool false, [(0, some (mobS 1 2 ks.length)), (1, some (kob ks ex f)), (2, some (vobS vs ey g))]), [2, 1, 0]) := by
  have h := lim105_no k ks vs ex ey f g hr hl hv hb
  simp only [mobS, kob, vobS] at h ⊢
  have hf : fns 105 = some fn105 := rfl
  unfold callV
  simp only [hf]
  unfold callR
  simp only [fn105, List.cons_append, List.nil_append, List.append_nil, frzArgs, frz, frzAll, frzG, frzGAll, ms2, msUp, List.tail]
  simp only [V.allIds, V.ids, List.append_nil, List.nil_append, collect, List.map_nil, List.contains_nil, Bool.false_eq_true, if_false, Rd.run, Heap.at?, Ob.ids, rowsIds, List.map_cons, List.cons_append, List.contains_cons, Nat.reduceBEq, Bool.or_self, Bool.or_false, Bool.false_or, Bool.or_true, Bool.true_or, if_true]
  unfold withR
  simp only [List.map_cons, List.map_nil, upd1, List.all_nil, List.all_cons, show 0 < n by omega, show 1 < n by omega, show 2 < n by omega, decide_true, Bool.and_self, if_true, V.reAll, V.re, idx, Nat.beq, cond_true, cond_false, Option.bind_some, Option.map_some, pullObs, Ob.re, reRows, Nat.reduceAdd, h, List.length_cons, List.length_nil, Nat.le_refl]
  unfold afterR
  simp only [V.re, V.reAll, pushObs, back, nth, Ob.re, reRows, Option.bind_some, Option.map_some, List.isEmpty_cons, Bool.false_and, Bool.false_eq_true, if_false, Rd.run, List.append_nil, Nat.reduceAdd]
theorem call105_yes (k : ByteArray) (ks vs : List ByteArray) (ex ey : List (List V)) (f g : Bool) (hr : risesK ks = true) (hl : ks.length < 1000000000) (hv : vs.length = ks.length) (hb : hasB k ks = true) (n : Nat) (hn : 3 ≤ n) (rest : Heap) :
    (callV (LX T fns) n (.clo 105 []) [.ptr 0 0 0, .str k]).run (some (mobS 1 2 ks.length) :: some (kob ks ex f) :: some (vobS vs ey g) :: rest) [] =
    some ((.bool true, [(0, some (mobS n (n + 1) (ks.length - 1))), (1, some (kob ks ex true)), (2, some (vobS vs ey true)), (n, some (kob (delAt (posB k ks) ks) [[.str ⟨#[]⟩]] false)), (n + 1, some (vobS (delAt (posB k ks) vs) [[.str ⟨#[]⟩]] false))]), [2, 1, 0]) := by
  have h := lim105_yes k ks vs ex ey f g hr hl hv hb
  simp only [mobS, kob, vobS] at h ⊢
  have hf : fns 105 = some fn105 := rfl
  unfold callV
  simp only [hf]
  unfold callR
  simp only [fn105, List.cons_append, List.nil_append, List.append_nil, frzArgs, frz, frzAll, frzG, frzGAll, ms2, msUp, List.tail]
  simp only [V.allIds, V.ids, List.append_nil, List.nil_append, collect, List.map_nil, List.contains_nil, Bool.false_eq_true, if_false, Rd.run, Heap.at?, Ob.ids, rowsIds, List.map_cons, List.cons_append, List.contains_cons, Nat.reduceBEq, Bool.or_self, Bool.or_false, Bool.false_or, Bool.or_true, Bool.true_or, if_true]
  unfold withR
  simp only [List.map_cons, List.map_nil, upd1, List.all_nil, List.all_cons, show 0 < n by omega, show 1 < n by omega, show 2 < n by omega, decide_true, Bool.and_self, if_true, V.reAll, V.re, idx, Nat.beq, cond_true, cond_false, Option.bind_some, Option.map_some, pullObs, Ob.re, reRows, Nat.reduceAdd, h, List.length_cons, List.length_nil, Nat.le_refl]
  unfold afterR
  simp only [V.re, V.reAll, pushObs, back, nth, Ob.re, reRows, Option.bind_some, Option.map_some, List.isEmpty_cons, Bool.false_and, Bool.false_eq_true, if_false, Rd.run, List.append_nil, Nat.reduceAdd]
  simp only [List.length_cons, List.length_nil, Nat.zero_add, Nat.reduceAdd, Nat.reduceLT, Nat.reduceLeDiff, if_true, Option.map_some, Option.bind_some, Nat.reduceSub, Nat.sub_self, Nat.add_zero]
  show _ = _
  kernel_rfl
end Go.Proofs.Ytfdemnefkfkghaa.R
/- Chapter 31's laws: a new map; going through a map. (printed by mk31.py out of t31i.txt) -/
namespace Go.Proofs.Ytfdemnefkfkghaa.R
open Go Go.Proofs
set_option linter.unusedSimpArgs false
set_option linter.unusedVariables false
set_option maxRecDepth 10000
set_option maxHeartbeats 4000000

theorem lim91 : lim T fns 91 [] [] = some (.ptr 0 0 0, [some (.buf 2 [[.nils, .nils]] false true)]) := by
  refine fn_rule (fn := fn91) rfl rfl (by simp [fn91]) ?_
  unfold fn91
  simp only [Try.f91, Option.getD_some, argEnv, List.map_nil, List.length_nil]
  simp only [go_sem, T_4, T_9, T_50, T_69, T_151, T_217]
  show _ = _
  kernel_rfl
theorem call91 {n : Nat} {h : Heap} {tr : List Nat} : (callV (LX T fns) n (.clo 91 []) []).run h tr = some ((.ptr n 0 0, [(n, some (.buf 2 [[.nils, .nils]] false true))]), tr) :=
  callV_newf (fn := fn91) rfl (args' := []) (u := []) (us := [(n, some (.buf 2 [[.nils, .nils]] false true))]) (fun K => by simp only [fn91, List.append_nil, frzArgs]) rfl lim91 (by simp [V.re, back, nth]) (by simp [pushObs, back, nth, Ob.re]) rfl
theorem lim162 (ks : List ByteArray) (vs : List S151) (ex ey : List (List V)) (f g : Bool) : lim T fns 162 [.ptr 0 0 0, .int .i64 0] [mobC 1 2 ks.length, kob ks ex f, vobC vs ey g] =
    some (.clo 201 [.ptr 3 0 0, .ptr 4 0 0], [some (mobC 1 2 ks.length), some (kob ks ex f), some (vobC vs ey g), some (.buf 1 [[.ptr 0 0 0]] false false), some (.buf 1 [[.int .i64 0]] false true)]) := by
  refine fn_rule (fn := fn162) rfl rfl (by simp [fn162]) ?_
  unfold fn162
  simp only [Try.f162, Option.getD_some, argEnv, List.map_nil, List.length_nil]
  simp only [mobC, kob, vobC]
  simp only [go_sem, T_3, T_152]
  show _ = _
  kernel_rfl
theorem call162 (ks : List ByteArray) (vs : List S151) (ex ey : List (List V)) (f g : Bool) (n : Nat) (hn : 3 ≤ n) (rest : Heap) :
    (callV (LX T fns) n (.clo 162 []) [.ptr 0 0 0, .int .i64 0]).run (some (mobC 1 2 ks.length) :: some (kob ks ex f) :: some (vobC vs ey g) :: rest) [] =
    some ((.clo 201 [.ptr n 0 0, .ptr (n + 1) 0 0], [(0, some (mobC 1 2 ks.length)), (1, some (kob ks ex f)), (2, some (vobC vs ey g)), (n, some (.buf 1 [[.ptr 0 0 0]] false false)), (n + 1, some (.buf 1 [[.int .i64 0]] false true))]), [2, 1, 0]) := by
  have h := lim162 ks vs ex ey f g
  simp only [mobC, kob, vobC] at h ⊢
  have hf : fns 162 = some fn162 := rfl
  unfold callV
  simp only [hf]
  unfold callR
  simp only [fn162, List.cons_append, List.nil_append, List.append_nil, frzArgs, frz, frzAll, frzG, frzGAll, ms2, msUp, List.tail]
  simp only [V.allIds, V.ids, List.append_nil, List.nil_append, collect, List.map_nil, List.contains_nil, Bool.false_eq_true, if_false, Rd.run, Heap.at?, Ob.ids, rowsIds, List.map_cons, List.cons_append, List.contains_cons, Nat.reduceBEq, Bool.or_self, Bool.or_false, Bool.false_or, Bool.or_true, Bool.true_or, if_true]
  unfold withR
  simp only [List.map_cons, List.map_nil, upd1, List.all_nil, List.all_cons, show 0 < n by omega, show 1 < n by omega, show 2 < n by omega, decide_true, Bool.and_self, if_true, V.reAll, V.re, idx, Nat.beq, cond_true, cond_false, Option.bind_some, Option.map_some, pullObs, Ob.re, reRows, Nat.reduceAdd, h, List.length_cons, List.length_nil, Nat.le_refl]
  unfold afterR
  simp only [V.re, V.reAll, pushObs, back, nth, Ob.re, reRows, Option.bind_some, Option.map_some, List.isEmpty_cons, Bool.false_and, Bool.false_eq_true, if_false, Rd.run, List.append_nil, Nat.reduceAdd]
  simp only [List.length_cons, List.length_nil, Nat.zero_add, Nat.reduceAdd, Nat.reduceLT, Nat.reduceLeDiff, if_true, Option.map_some, Option.bind_some, Nat.reduceSub, Nat.sub_self, Nat.add_zero]
  show _ = _
  kernel_rfl
theorem lim94 (ks : List ByteArray) (vs : List S151) (ex ey : List (List V)) (f g : Bool) : lim T fns 94 [.ptr 0 0 0] [mobC 1 2 ks.length, kob ks ex f, vobC vs ey g] =
    some (.clo 201 [.ptr 3 0 0, .ptr 4 0 0], [some (mobC 1 2 ks.length), some (kob ks ex f), some (vobC vs ey g), some (.buf 1 [[.ptr 0 0 0]] false false), some (.buf 1 [[.int .i64 0]] false true)]) := by
  refine fn_rule (fn := fn94) rfl rfl (by simp [fn94]) ?_
  unfold fn94
  simp only [Try.f94, Option.getD_some, argEnv, List.map_nil, List.length_nil]
  have hc := fun (n : Nat) (hn : 3 ≤ n) (rest : Heap) => call162 ks vs ex ey f g n hn rest
  simp only [mobC, kob, vobC] at hc ⊢
  simp only [go_sem, T_3, T_152, hc]
  show _ = _
  kernel_rfl
theorem call94 (ks : List ByteArray) (vs : List S151) (ex ey : List (List V)) (f g : Bool) (n : Nat) (hn : 3 ≤ n) (rest : Heap) :
    (callV (LX T fns) n (.clo 94 []) [.ptr 0 0 0]).run (some (mobC 1 2 ks.length) :: some (kob ks ex f) :: some (vobC vs ey g) :: rest) [] =
    some ((.clo 201 [.ptr n 0 0, .ptr (n + 1) 0 0], [(0, some (mobC 1 2 ks.length)), (1, some (kob ks ex f)), (2, some (vobC vs ey g)), (n, some (.buf 1 [[.ptr 0 0 0]] false false)), (n + 1, some (.buf 1 [[.int .i64 0]] false true))]), [2, 1, 0]) := by
  have h := lim94 ks vs ex ey f g
  simp only [mobC, kob, vobC] at h ⊢
  have hf : fns 94 = some fn94 := rfl
  unfold callV
  simp only [hf]
  unfold callR
  simp only [fn94, List.cons_append, List.nil_append, List.append_nil, frzArgs, frz, frzAll, frzG, frzGAll, ms2, msUp, List.tail]
  simp only [V.allIds, V.ids, List.append_nil, List.nil_append, collect, List.map_nil, List.contains_nil, Bool.false_eq_true, if_false, Rd.run, Heap.at?, Ob.ids, rowsIds, List.map_cons, List.cons_append, List.contains_cons, Nat.reduceBEq, Bool.or_self, Bool.or_false, Bool.false_or, Bool.or_true, Bool.true_or, if_true]
  unfold withR
  simp only [List.map_cons, List.map_nil, upd1, List.all_nil, List.all_cons, show 0 < n by omega, show 1 < n by omega, show 2 < n by omega, decide_true, Bool.and_self, if_true, V.reAll, V.re, idx, Nat.beq, cond_true, cond_false, Option.bind_some, Option.map_some, pullObs, Ob.re, reRows, Nat.reduceAdd, h, List.length_cons, List.length_nil, Nat.le_refl]
  unfold afterR
  simp only [V.re, V.reAll, pushObs, back, nth, Ob.re, reRows, Option.bind_some, Option.map_some, List.isEmpty_cons, Bool.false_and, Bool.false_eq_true, if_false, Rd.run, List.append_nil, Nat.reduceAdd]
  simp only [List.length_cons, List.length_nil, Nat.zero_add, Nat.reduceAdd, Nat.reduceLT, Nat.reduceLeDiff, if_true, Option.map_some, Option.bind_some, Nat.reduceSub, Nat.sub_self, Nat.add_zero]
  show _ = _
  kernel_rfl
theorem lim102 : lim T fns 102 [] [] = some (.ptr 0 0 0, [some (.buf 2 [[.nils, .nils]] false true)]) := by
  refine fn_rule (fn := fn102) rfl rfl (by simp [fn102]) ?_
  unfold fn102
  simp only [Try.f102, Option.getD_some, argEnv, List.map_nil, List.length_nil]
  simp only [go_sem, T_9, T_69, T_225]
  show _ = _
  kernel_rfl
theorem call102 {n : Nat} {h : Heap} {tr : List Nat} : (callV (LX T fns) n (.clo 102 []) []).run h tr = some ((.ptr n 0 0, [(n, some (.buf 2 [[.nils, .nils]] false true))]), tr) :=
  callV_newf (fn := fn102) rfl (args' := []) (u := []) (us := [(n, some (.buf 2 [[.nils, .nils]] false true))]) (fun K => by simp only [fn102, List.append_nil, frzArgs]) rfl lim102 (by simp [V.re, back, nth]) (by simp [pushObs, back, nth, Ob.re]) rfl
theorem lim166 (ks : List ByteArray) (vs : List ByteArray) (ex ey : List (List V)) (f g : Bool) : lim T fns 166 [.ptr 0 0 0, .int .i64 0] [mobS 1 2 ks.length, kob ks ex f, vobS vs ey g] =
    some (.clo 202 [.ptr 3 0 0, .ptr 4 0 0], [some (mobS 1 2 ks.length), some (kob ks ex f), some (vobS vs ey g), some (.buf 1 [[.ptr 0 0 0]] false false), some (.buf 1 [[.int .i64 0]] false true)]) := by
  refine fn_rule (fn := fn166) rfl rfl (by simp [fn166]) ?_
  unfold fn166
  simp only [Try.f166, Option.getD_some, argEnv, List.map_nil, List.length_nil]
  simp only [mobS, kob, vobS]
  simp only [go_sem, T_3, T_166]
  show _ = _
  kernel_rfl
theorem call166 (ks : List ByteArray) (vs : List ByteArray) (ex ey : List (List V)) (f g : Bool) (n : Nat) (hn : 3 ≤ n) (rest : Heap) :
    (callV (LX T fns) n (.clo 166 []) [.ptr 0 0 0, .int .i64 0]).run (some (mobS 1 2 ks.length) :: some (kob ks ex f) :: some (vobS vs ey g) :: rest) [] =
    some ((.clo 202 [.ptr n 0 0, .ptr (n + 1) 0 0], [(0, some (mobS 1 2 ks.length)), (1, some (kob ks ex f)), (2, some (vobS vs ey g)), (n, some (.buf 1 [[.ptr 0 0 0]] false false)), (n + 1, some (.buf 1 [[.int .i64 0]] false true))]), [2, 1, 0]) := by
  have h := lim166 ks vs ex ey f g
  simp only [mobS, kob, vobS] at h ⊢
  have hf : fns 166 = some fn166 := rfl
  unfold callV
  simp only [hf]
  unfold callR
  simp only [fn166, List.cons_append, List.nil_append, List.append_nil, frzArgs, frz, frzAll, frzG, frzGAll, ms2, msUp, List.tail]
  simp only [V.allIds, V.ids, List.append_nil, List.nil_append, collect, List.map_nil, List.contains_nil, Bool.false_eq_true, if_false, Rd.run, Heap.at?, Ob.ids, rowsIds, List.map_cons, List.cons_append, List.contains_cons, Nat.reduceBEq, Bool.or_self, Bool.or_false, Bool.false_or, Bool.or_true, Bool.true_or, if_true]
  unfold withR
  simp only [List.map_cons, List.map_nil, upd1, List.all_nil, List.all_cons, show 0 < n by omega, show 1 < n by omega, show 2 < n by omega, decide_true, Bool.and_self, if_true, V.reAll, V.re, idx, Nat.beq, cond_true, cond_false, Option.bind_some, Option.map_some, pullObs, Ob.re, reRows, Nat.reduceAdd, h, List.length_cons, List.length_nil, Nat.le_refl]
  unfold afterR
  simp only [V.re, V.reAll, pushObs, back, nth, Ob.re, reRows, Option.bind_some, Option.map_some, List.isEmpty_cons, Bool.false_and, Bool.false_eq_true, if_false, Rd.run, List.append_nil, Nat.reduceAdd]
  simp only [List.length_cons, List.length_nil, Nat.zero_add, Nat.reduceAdd, Nat.reduceLT, Nat.reduceLeDiff, if_true, Option.map_some, Option.bind_some, Nat.reduceSub, Nat.sub_self, Nat.add_zero]
  show _ = _
  kernel_rfl
theorem lim106 (ks : List ByteArray) (vs : List ByteArray) (ex ey : List (List V)) (f g : Bool) : lim T fns 106 [.ptr 0 0 0] [mobS 1 2 ks.length, kob ks ex f, vobS vs ey g] =
    some (.clo 202 [.ptr 3 0 0, .ptr 4 0 0], [some (mobS 1 2 ks.length), some (kob ks ex f), some (vobS vs ey g), some (.buf 1 [[.ptr 0 0 0]] false false), some (.buf 1 [[.int .i64 0]] false true)]) := by
  refine fn_rule (fn := fn106) rfl rfl (by simp [fn106]) ?_
  unfold fn106
  simp only [Try.f106, Option.getD_some, argEnv, List.map_nil, List.length_nil]
  have hc := fun (n : Nat) (hn : 3 ≤ n) (rest : Heap) => call166 ks vs ex ey f g n hn rest
  simp only [mobS, kob, vobS] at hc ⊢
  simp only [go_sem, T_3, T_166, hc]
  show _ = _
  kernel_rfl
theorem call106 (ks : List ByteArray) (vs : List ByteArray) (ex ey : List (List V)) (f g : Bool) (n : Nat) (hn : 3 ≤ n) (rest : Heap) :
    (callV (LX T fns) n (.clo 106 []) [.ptr 0 0 0]).run (some (mobS 1 2 ks.length) :: some (kob ks ex f) :: some (vobS vs ey g) :: rest) [] =
    some ((.clo 202 [.ptr n 0 0, .ptr (n + 1) 0 0], [(0, some (mobS 1 2 ks.length)), (1, some (kob ks ex f)), (2, some (vobS vs ey g)), (n, some (.buf 1 [[.ptr 0 0 0]] false false)), (n + 1, some (.buf 1 [[.int .i64 0]] false true))]), [2, 1, 0]) := by
  have h := lim106 ks vs ex ey f g
  simp only [mobS, kob, vobS] at h ⊢
  have hf : fns 106 = some fn106 := rfl
  unfold callV
  simp only [hf]
  unfold callR
  simp only [fn106, List.cons_append, List.nil_append, List.append_nil, frzArgs, frz, frzAll, frzG, frzGAll, ms2, msUp, List.tail]
  simp only [V.allIds, V.ids, List.append_nil, List.nil_append, collect, List.map_nil, List.contains_nil, Bool.false_eq_true, if_false, Rd.run, Heap.at?, Ob.ids, rowsIds, List.map_cons, List.cons_append, List.contains_cons, Nat.reduceBEq, Bool.or_self, Bool.or_false, Bool.false_or, Bool.or_true, Bool.true_or, if_true]
  unfold withR
  simp only [List.map_cons, List.map_nil, upd1, List.all_nil, List.all_cons, show 0 < n by omega, show 1 < n by omega, show 2 < n by omega, decide_true, Bool.and_self, if_true, V.reAll, V.re, idx, Nat.beq, cond_true, cond_false, Option.bind_some, Option.map_some, pullObs, Ob.re, reRows, Nat.reduceAdd, h, List.length_cons, List.length_nil, Nat.le_refl]
  unfold afterR
  simp only [V.re, V.reAll, pushObs, back, nth, Ob.re, reRows, Option.bind_some, Option.map_some, List.isEmpty_cons, Bool.false_and, Bool.false_eq_true, if_false, Rd.run, List.append_nil, Nat.reduceAdd]
  simp only [List.length_cons, List.length_nil, Nat.zero_add, Nat.reduceAdd, Nat.reduceLT, Nat.reduceLeDiff, if_true, Option.map_some, Option.bind_some, Nat.reduceSub, Nat.sub_self, Nat.add_zero]
  show _ = _
  kernel_rfl
end Go.Proofs.Ytfdemnefkfkghaa.R
/- Chapter 31's laws: may a change be? -/
namespace Go.Proofs.Ytfdemnefkfkghaa.R
open Go Go.Proofs
set_option linter.unusedSimpArgs false
set_option linter.unusedVariables false
set_option maxRecDepth 10000
set_option maxHeartbeats 4000000

def mayB (c : S151) : Bool := if c.f1 && c.f2 then !decide (c.f3 = c.f4) else if c.f1 then decide (c.f4 = ⟨#[]⟩) else c.f2 && decide (c.f3 = ⟨#[]⟩)
theorem lim110 (c : S151) : lim T fns 110 [.agg (k151.enc c)] [] = some (.bool (mayB c), []) := by
  refine fn_rule (fn := fn110) rfl rfl (by simp [fn110]) ?_
  unfold fn110
  simp only [Try.f110, Option.getD_some, argEnv, List.map_nil, List.length_nil]
  obtain ⟨k, had, has, was, now⟩ := c
  cases had <;> cases has <;> simp only [go_sem, T_4, T_9, T_151, k151_enc, mayB, ba_toList]
theorem lim95 (c : S151) : lim T fns 95 [.agg (k151.enc c)] [] = some (.bool (mayB c), []) := by
  refine fn_rule (fn := fn95) rfl rfl (by simp [fn95]) ?_
  unfold fn95
  simp only [Try.f95, Option.getD_some, argEnv, List.map_nil, List.length_nil]
  obtain ⟨k, had, has, was, now⟩ := c
  by_cases h1 : was = ⟨#[]⟩ <;> by_cases h2 : now = ⟨#[]⟩ <;> by_cases h3 : was = now <;> cases had <;> cases has <;> simp only [go_sem, T_4, T_9, T_151, k151_enc, mayB, ba_toList, h1, h2, h3]
end Go.Proofs.Ytfdemnefkfkghaa.R
/- Chapter 31's laws: keys that rise; may changes be? -/
namespace Go.Proofs.Ytfdemnefkfkghaa.R
open Go Go.Proofs
set_option linter.unusedSimpArgs false
set_option linter.unusedVariables false
set_option maxRecDepth 10000
set_option maxHeartbeats 4000000

/-- Each may be, and its key is behind the one ahead. -/
def upGo {α : Type} (ok : α → Bool) (key : α → ByteArray) : Option ByteArray → List α → Bool
  | _, [] => true
  | p, x :: r => (ok x && (match p with | none => true | some q => ltS q (key x))) && upGo ok key (some (key x)) r
def prevK {α : Type} (key : α → ByteArray) (l : List α) (i : Nat) : Option ByteArray := match i with
  | 0 => none
  | i + 1 => (l[i]?).map key
theorem upGo_drop {α : Type} {ok : α → Bool} {key : α → ByteArray} {l : List α} {i : Nat} (h : i < l.length) {p : Option ByteArray} : upGo ok key p (l.drop i) = ((ok l[i] && (match p with | none => true | some q => ltS q (key l[i]))) && upGo ok key (some (key l[i])) (l.drop (i + 1))) := by
  rw [List.drop_eq_getElem_cons h]
  rfl
theorem prevK_succ {α : Type} {key : α → ByteArray} {l : List α} {i : Nat} (h : i < l.length) : prevK key l (i + 1) = some (key l[i]) := by
  unfold prevK
  simp only
  rw [List.getElem?_eq_getElem h]
  rfl
theorem wrap_pred {j : Nat} (h : j < 1000000000000000000) : IntKind.i64.wrap (((j + 1 : Nat) : Int) - 1) = (j : Int) := by
  rw [wrap_i64 (by omega) (by omega)]
  omega
theorem gt0 {j : Nat} : (((j + 1 : Nat) : Int) > 0) = True := by simp
theorem le_lt (a b : ByteArray) : (Op.bytesLess a.toList b.toList || decide (a = b)) = !(ltS b a) := by
  rw [ltS_not, Bool.not_not]
  rfl
theorem ge_lt (a b : ByteArray) : (!(Op.bytesLess a.toList b.toList)) = !(ltS a b) := rfl
theorem call95 (c : S151) (n : Nat) : callV (LX T fns) n (.clo 95 []) [.agg [.str c.f0, .bool c.f1, .bool c.f2, .str c.f3, .str c.f4]] = .pure (.bool (mayB c), []) := callV_plain (fn := fn95) rfl rfl rfl (lim95 c) n
theorem call110 (c : S151) (n : Nat) : callV (LX T fns) n (.clo 110 []) [.agg [.str c.f0, .bool c.f1, .bool c.f2, .str c.f3, .str c.f4]] = .pure (.bool (mayB c), []) := callV_plain (fn := fn110) rfl rfl rfl (lim110 c) n

def mayL (l : List S151) : Bool := upGo mayB S151.f0 none l
theorem gt00 : (((0 : Nat) : Int) > 0) = False := by simp
theorem gt000 : ((0 : Int) > 0) = False := by simp
theorem lim43 (l : List S151) (hl : l.length < 1000000000000) : lim T fns 43 [.fz (l.map k151.enc)] [] = some (.bool (mayL l), []) := by
  refine fn_rule (fn := fn43) rfl rfl (by simp [fn43]) ?_
  unfold fn43
  simp only [Try.f43, Option.getD_some, argEnv, List.map_nil, List.length_nil]
  simp only [go_sem, T_3, T_4, T_9, T_50, T_151]
  refine loop_rule (ι := Nat) (S := fun i => ⟨[(0, .fz (l.map k151.enc)), (5, .fz (l.map k151.enc)), (6, .int .i64 l.length), (7, .int .i64 i)], []⟩) (m := fun i => l.length + 1 - i)
    (I := fun i => i ≤ l.length ∧ upGo mayB S151.f0 (prevK S151.f0 l i) (l.drop i) = mayL l) ?_ 0 _ ⟨by omega, rfl⟩ (by kernel_rfl)
  rintro i ⟨hi, hg⟩
  by_cases hlt : i < l.length
  · have hx : l[i]? = some l[i] := List.getElem?_eq_getElem hlt
    rw [upGo_drop hlt] at hg
    rcases i with _ | j
    · simp only [prevK, Bool.and_true] at hg
      cases hm : mayB l[0] with
      | true =>
        simp only [go_sem, T_3, T_4, T_9, T_50, T_151, all151, hlt, hx, k151_enc, call95, hm, gt00, gt000, wrap_i64s (show 0 < 1000000000000000000 by omega)]
        exact ⟨1, ⟨by omega, by rw [prevK_succ hlt]; simpa [hm] using hg⟩, by simp only; omega, by kernel_rfl⟩
      | false =>
        simp only [go_sem, T_3, T_4, T_9, T_50, T_151, all151, hlt, hx, k151_enc, call95, hm]
        rw [← hg, hm]
        rfl
    · have hj : j < l.length := by omega
      have hy : l[j]? = some l[j] := List.getElem?_eq_getElem hj
      rw [prevK_succ hj] at hg
      simp only at hg
      cases hm : mayB l[j + 1] with
      | true =>
        cases hq : ltS l[j].f0 l[j + 1].f0 with
        | true =>
          simp only [go_sem, T_3, T_4, T_9, T_50, T_151, all151, hlt, hx, hy, hj, k151_enc, call95, hm, gt0, wrap_pred (show j < 1000000000000000000 by omega), ba_toList, le_lt, ge_lt, hq, wrap_i64s (show j + 1 < 1000000000000000000 by omega)]
          exact ⟨j + 1 + 1, ⟨by omega, by rw [prevK_succ hlt]; simpa [hm, hq] using hg⟩, by simp only; omega, by kernel_rfl⟩
        | false =>
          simp only [go_sem, T_3, T_4, T_9, T_50, T_151, all151, hlt, hx, hy, hj, k151_enc, call95, hm, gt0, wrap_pred (show j < 1000000000000000000 by omega), ba_toList, le_lt, ge_lt, hq]
          rw [← hg, hm, hq]
          rfl
      | false =>
        simp only [go_sem, T_3, T_4, T_9, T_50, T_151, all151, hlt, hx, hy, hj, k151_enc, call95, hm]
        rw [← hg, hm]
        rfl
  · rw [List.drop_eq_nil_of_le (by omega)] at hg
    simp only [go_sem, T_3, T_4, T_9, T_50, T_151, hlt]
    rw [← hg]
    rfl
theorem call43 (l : List S151) (hl : l.length < 1000000000000) (n : Nat) : callV (LX T fns) n (.clo 43 []) [.fz (l.map k151.enc)] = .pure (.bool (mayL l), []) := callV_plain (fn := fn43) rfl rfl rfl (lim43 l hl) n
theorem lim46 (l : List S151) (hl : l.length < 1000000000000) : lim T fns 46 [.fz (l.map k151.enc)] [] = some (.bool (mayL l), []) := by
  refine fn_rule (fn := fn46) rfl rfl (by simp [fn46]) ?_
  unfold fn46
  simp only [Try.f46, Option.getD_some, argEnv, List.map_nil, List.length_nil]
  simp only [go_sem, T_3, T_4, T_9, T_50, T_151]
  refine loop_rule (ι := Nat) (S := fun i => ⟨[(0, .fz (l.map k151.enc)), (5, .int .i64 l.length), (6, .int .i64 i)], []⟩) (m := fun i => l.length + 1 - i)
    (I := fun i => i ≤ l.length ∧ upGo mayB S151.f0 (prevK S151.f0 l i) (l.drop i) = mayL l) ?_ 0 _ ⟨by omega, rfl⟩ (by kernel_rfl)
  rintro i ⟨hi, hg⟩
  by_cases hlt : i < l.length
  · have hx : l[i]? = some l[i] := List.getElem?_eq_getElem hlt
    rw [upGo_drop hlt] at hg
    rcases i with _ | j
    · simp only [prevK, Bool.and_true] at hg
      cases hm : mayB l[0] with
      | true =>
        simp only [go_sem, T_3, T_4, T_9, T_50, T_151, all151, hlt, hx, k151_enc, call110, hm, gt00, gt000, wrap_i64s (show 0 < 1000000000000000000 by omega)]
        exact ⟨1, ⟨by omega, by rw [prevK_succ hlt]; simpa [hm] using hg⟩, by simp only; omega, by kernel_rfl⟩
      | false =>
        simp only [go_sem, T_3, T_4, T_9, T_50, T_151, all151, hlt, hx, k151_enc, call110, hm]
        rw [← hg, hm]
        rfl
    · have hj : j < l.length := by omega
      have hy : l[j]? = some l[j] := List.getElem?_eq_getElem hj
      rw [prevK_succ hj] at hg
      simp only at hg
      cases hm : mayB l[j + 1] with
      | true =>
        cases hq : ltS l[j].f0 l[j + 1].f0 with
        | true =>
          simp only [go_sem, T_3, T_4, T_9, T_50, T_151, all151, hlt, hx, hy, hj, k151_enc, call110, hm, gt0, wrap_pred (show j < 1000000000000000000 by omega), ba_toList, le_lt, ge_lt, hq, wrap_i64s (show j + 1 < 1000000000000000000 by omega)]
          exact ⟨j + 1 + 1, ⟨by omega, by rw [prevK_succ hlt]; simpa [hm, hq] using hg⟩, by simp only; omega, by kernel_rfl⟩
        | false =>
          simp only [go_sem, T_3, T_4, T_9, T_50, T_151, all151, hlt, hx, hy, hj, k151_enc, call110, hm, gt0, wrap_pred (show j < 1000000000000000000 by omega), ba_toList, le_lt, ge_lt, hq]
          rw [← hg, hm, hq]
          rfl
      | false =>
        simp only [go_sem, T_3, T_4, T_9, T_50, T_151, all151, hlt, hx, hy, hj, k151_enc, call110, hm]
        rw [← hg, hm]
        rfl
  · rw [List.drop_eq_nil_of_le (by omega)] at hg
    simp only [go_sem, T_3, T_4, T_9, T_50, T_151, hlt]
    rw [← hg]
    rfl
theorem call46 (l : List S151) (hl : l.length < 1000000000000) (n : Nat) : callV (LX T fns) n (.clo 46 []) [.fz (l.map k151.enc)] = .pure (.bool (mayL l), []) := callV_plain (fn := fn46) rfl rfl rfl (lim46 l hl) n
end Go.Proofs.Ytfdemnefkfkghaa.R
/- Chapter 31's laws: keys of pairs that rise. -/
namespace Go.Proofs.Ytfdemnefkfkghaa.R
open Go Go.Proofs
set_option linter.unusedSimpArgs false
set_option linter.unusedVariables false
set_option maxRecDepth 10000
set_option maxHeartbeats 4000000

def anyB {α : Type} (_ : α) : Bool := true
def riseL (l : List S145) : Bool := upGo anyB S145.f0 none l
theorem lim98 (l : List S145) (hl : l.length < 1000000000000) : lim T fns 98 [.fz (l.map k145.enc)] [] = some (.bool (riseL l), []) := by
  refine fn_rule (fn := fn98) rfl rfl (by simp [fn98]) ?_
  unfold fn98
  simp only [Try.f98, Option.getD_some, argEnv, List.map_nil, List.length_nil]
  simp only [go_sem, T_3, T_9, T_51, T_145]
  refine loop_rule (ι := Nat) (S := fun i => ⟨[(0, .fz (l.map k145.enc)), (5, .fz (l.map k145.enc)), (6, .int .i64 l.length), (7, .int .i64 i)], []⟩) (m := fun i => l.length + 1 - i)
    (I := fun i => i ≤ l.length ∧ upGo anyB S145.f0 (prevK S145.f0 l i) (l.drop i) = riseL l) ?_ 0 _ ⟨by omega, rfl⟩ (by kernel_rfl)
  rintro i ⟨hi, hg⟩
  by_cases hlt : i < l.length
  · have hx : l[i]? = some l[i] := List.getElem?_eq_getElem hlt
    rw [upGo_drop hlt] at hg
    rcases i with _ | j
    · simp only [prevK, Bool.and_true] at hg
      simp only [go_sem, T_3, T_9, T_51, T_145, all145, hlt, hx, k145_enc, gt00, gt000, wrap_i64s (show 0 < 1000000000000000000 by omega)]
      exact ⟨1, ⟨by omega, by rw [prevK_succ hlt]; simpa [anyB] using hg⟩, by simp only; omega, by kernel_rfl⟩
    · have hj : j < l.length := by omega
      have hy : l[j]? = some l[j] := List.getElem?_eq_getElem hj
      rw [prevK_succ hj] at hg
      simp only at hg
      cases hq : ltS l[j].f0 l[j + 1].f0 with
      | true =>
        simp only [go_sem, T_3, T_9, T_51, T_145, all145, hlt, hx, hy, hj, k145_enc, gt0, wrap_pred (show j < 1000000000000000000 by omega), ba_toList, le_lt, ge_lt, hq, wrap_i64s (show j + 1 < 1000000000000000000 by omega)]
        exact ⟨j + 1 + 1, ⟨by omega, by rw [prevK_succ hlt]; simpa [anyB, hq] using hg⟩, by simp only; omega, by kernel_rfl⟩
      | false =>
        simp only [go_sem, T_3, T_9, T_51, T_145, all145, hlt, hx, hy, hj, k145_enc, gt0, wrap_pred (show j < 1000000000000000000 by omega), ba_toList, le_lt, ge_lt, hq]
        rw [← hg, hq]
        rfl
  · rw [List.drop_eq_nil_of_le (by omega)] at hg
    simp only [go_sem, T_3, T_9, T_51, T_145, hlt]
    rw [← hg]
    rfl
theorem call98 (l : List S145) (hl : l.length < 1000000000000) (n : Nat) : callV (LX T fns) n (.clo 98 []) [.fz (l.map k145.enc)] = .pure (.bool (riseL l), []) := callV_plain (fn := fn98) rfl rfl rfl (lim98 l hl) n

theorem lim90 (l : List S145) (hl : l.length < 1000000000000) : lim T fns 90 [.fz (l.map k145.enc)] [] = some (.bool (riseL l), []) := by
  refine fn_rule (fn := fn90) rfl rfl (by simp [fn90]) ?_
  unfold fn90
  simp only [Try.f90, Option.getD_some, argEnv, List.map_nil, List.length_nil]
  simp only [go_sem, T_3, T_9, T_51, T_145]
  refine loop_rule (ι := Nat) (S := fun i => ⟨[(0, .fz (l.map k145.enc)), (3, .int .i64 ((i + 1 : Nat) : Int))], []⟩) (m := fun i => l.length + 1 - i)
    (I := fun i => upGo anyB S145.f0 (prevK S145.f0 l (i + 1)) (l.drop (i + 1)) = riseL l) ?_ 0 _ ?_ (by kernel_rfl)
  · rintro j hg
    by_cases hlt : j + 1 < l.length
    · have hx : l[j + 1]? = some l[j + 1] := List.getElem?_eq_getElem hlt
      rw [upGo_drop hlt] at hg
      have hj : j < l.length := by omega
      have hy : l[j]? = some l[j] := List.getElem?_eq_getElem hj
      rw [prevK_succ hj] at hg
      simp only at hg
      cases hq : ltS l[j].f0 l[j + 1].f0 with
      | true =>
        simp only [go_sem, T_3, T_9, T_51, T_145, all145, hlt, hx, hy, hj, k145_enc, wrap_pred (show j < 1000000000000000000 by omega), ba_toList, le_lt, ge_lt, hq, wrap_i64s (show j + 1 < 1000000000000000000 by omega)]
        exact ⟨j + 1, by show upGo _ _ (prevK _ l (j + 1 + 1)) _ = _; rw [prevK_succ hlt]; simpa [anyB, hq] using hg, by simp only; omega, by kernel_rfl⟩
      | false =>
        simp only [go_sem, T_3, T_9, T_51, T_145, all145, hlt, hx, hy, hj, k145_enc, wrap_pred (show j < 1000000000000000000 by omega), ba_toList, le_lt, ge_lt, hq]
        rw [← hg, hq]
        rfl
    · rw [List.drop_eq_nil_of_le (by omega)] at hg
      simp only [go_sem, T_3, T_9, T_51, T_145, hlt]
      rw [← hg]
      rfl
  · cases l with
    | nil => rfl
    | cons x r => rfl
theorem call90 (l : List S145) (hl : l.length < 1000000000000) (n : Nat) : callV (LX T fns) n (.clo 90 []) [.fz (l.map k145.enc)] = .pure (.bool (riseL l), []) := callV_plain (fn := fn90) rfl rfl rfl (lim90 l hl) n
end Go.Proofs.Ytfdemnefkfkghaa.R
/- Chapter 31's laws: the same? -/
namespace Go.Proofs.Ytfdemnefkfkghaa.R
open Go Go.Proofs
set_option linter.unusedSimpArgs false
set_option linter.unusedVariables false
set_option maxRecDepth 10000
set_option maxHeartbeats 4000000

theorem lim44 (a b : List S145) (ha : a.length < 1000000000000000000) : lim T fns 44 [.fz (a.map k145.enc), .fz (b.map k145.enc)] [] = some (.bool (decide (a = b)), []) := by
  refine fn_rule (fn := fn44) rfl rfl (by simp [fn44]) ?_
  unfold fn44
  simp only [Try.f44, Option.getD_some, argEnv, List.map_nil, List.length_nil]
  simp only [go_sem, T_3, T_9, T_51, T_145]
  split
  · rename_i h0
    have : a ≠ b := by rintro rfl; simp at h0
    simp [this]
  · rename_i h0
    have hlen : a.length = b.length := by simp at h0; omega
    refine loop_rule (ι := Nat) (S := fun i => ⟨[(0, .fz (a.map k145.enc)), (1, .fz (b.map k145.enc)), (12, .int .i64 a.length), (13, .int .i64 i)], []⟩) (m := fun i => a.length + 1 - i)
      (I := fun i => i ≤ a.length ∧ a.take i = b.take i) ?_ 0 _ ⟨by omega, by simp⟩ rfl
    rintro i ⟨hi, hg⟩
    by_cases hlt : i < a.length
    · have hx : a[i]? = some a[i] := List.getElem?_eq_getElem hlt
      have hd : b[i]? = some (b[i]'(by omega)) := List.getElem?_eq_getElem (by omega)
      simp only [go_sem, T_3, T_9, T_51, T_145, all145, hlt, hx, hd, k145_enc, eq145, wrap_i64s (show i < 1000000000000000000 by omega)]
      split
      · rename_i he
        have : a ≠ b := by
          rintro rfl
          simp at he
        simp [this]
      · rename_i he
        exact ⟨i + 1, ⟨by omega, take_eq_step hg hlt (by omega) (by simpa using he)⟩, by simp only; omega, rfl⟩
    · have : a = b := take_eq_len hlen hg (by omega)
      simp only [go_sem, T_3, T_9, T_51, T_145, hlt]
      simp [this]
theorem call44 (a b : List S145) (ha : a.length < 1000000000000000000) (n : Nat) : callV (LX T fns) n (.clo 44 []) [.fz (a.map k145.enc), .fz (b.map k145.enc)] = .pure (.bool (decide (a = b)), []) := callV_plain (fn := fn44) rfl rfl rfl (lim44 a b ha) n
theorem lim38 (a b : List S151) (ha : a.length < 1000000000000000000) : lim T fns 38 [.fz (a.map k151.enc), .fz (b.map k151.enc)] [] = some (.bool (decide (a = b)), []) := by
  refine fn_rule (fn := fn38) rfl rfl (by simp [fn38]) ?_
  unfold fn38
  simp only [Try.f38, Option.getD_some, argEnv, List.map_nil, List.length_nil]
  simp only [go_sem, T_3, T_4, T_9, T_50, T_151]
  split
  · rename_i h0
    have : a ≠ b := by rintro rfl; simp at h0
    simp [this]
  · rename_i h0
    have hlen : a.length = b.length := by simp at h0; omega
    refine loop_rule (ι := Nat) (S := fun i => ⟨[(0, .fz (a.map k151.enc)), (1, .fz (b.map k151.enc)), (12, .int .i64 a.length), (13, .int .i64 i)], []⟩) (m := fun i => a.length + 1 - i)
      (I := fun i => i ≤ a.length ∧ a.take i = b.take i) ?_ 0 _ ⟨by omega, by simp⟩ rfl
    rintro i ⟨hi, hg⟩
    by_cases hlt : i < a.length
    · have hx : a[i]? = some a[i] := List.getElem?_eq_getElem hlt
      have hd : b[i]? = some (b[i]'(by omega)) := List.getElem?_eq_getElem (by omega)
      simp only [go_sem, T_3, T_4, T_9, T_50, T_151, all151, hlt, hx, hd, k151_enc, eq151, wrap_i64s (show i < 1000000000000000000 by omega)]
      split
      · rename_i he
        have : a ≠ b := by
          rintro rfl
          simp at he
        simp [this]
      · rename_i he
        exact ⟨i + 1, ⟨by omega, take_eq_step hg hlt (by omega) (by simpa using he)⟩, by simp only; omega, rfl⟩
    · have : a = b := take_eq_len hlen hg (by omega)
      simp only [go_sem, T_3, T_4, T_9, T_50, T_151, hlt]
      simp [this]
theorem call38 (a b : List S151) (ha : a.length < 1000000000000000000) (n : Nat) : callV (LX T fns) n (.clo 38 []) [.fz (a.map k151.enc), .fz (b.map k151.enc)] = .pure (.bool (decide (a = b)), []) := callV_plain (fn := fn38) rfl rfl rfl (lim38 a b ha) n
end Go.Proofs.Ytfdemnefkfkghaa.R
/- Chapter 31's laws: changes turned. -/
namespace Go.Proofs.Ytfdemnefkfkghaa.R
open Go Go.Proofs
set_option linter.unusedSimpArgs false
set_option linter.unusedVariables false
set_option maxRecDepth 10000
set_option maxHeartbeats 4000000

theorem mix_get {α : Type} (f : α → α) {l : List α} {i : Nat} (h : i < l.length) : ((l.take i).map f ++ l.drop i)[i]? = some l[i] := by
  rw [List.getElem?_append_right (by simp; omega)]
  simp only [List.length_map, List.length_take]
  rw [show i - min i l.length = 0 by omega, List.drop_eq_getElem_cons h]
  rfl
theorem mix_set {α : Type} (f : α → α) {l : List α} {i : Nat} (h : i < l.length) : ((l.take i).map f ++ l.drop i).set i (f l[i]) = (l.take (i + 1)).map f ++ l.drop (i + 1) := by
  rw [List.set_append_right _ _ (by simp; omega)]
  simp only [List.length_map, List.length_take]
  rw [show i - min i l.length = 0 by omega, List.drop_eq_getElem_cons h, List.take_succ_eq_append_getElem h]
  simp only [List.set_cons_zero, List.map_append, List.map_cons, List.map_nil, List.append_assoc, List.singleton_append]
theorem mix_len {α : Type} (f : α → α) {l : List α} {i : Nat} (h : i ≤ l.length) : ((l.take i).map f ++ l.drop i).length = l.length := by
  simp only [List.length_append, List.length_map, List.length_take, List.length_drop]
  omega
theorem mix_same {α : Type} (f : α → α) {l : List α} {i : Nat} (h : i < l.length) (hf : f l[i] = l[i]) : (l.take i).map f ++ l.drop i = (l.take (i + 1)).map f ++ l.drop (i + 1) := by
  rw [List.drop_eq_getElem_cons h, List.take_succ_eq_append_getElem h]
  simp only [hf, List.map_append, List.map_cons, List.map_nil, List.append_assoc, List.singleton_append]
theorem mix_all {α : Type} (f : α → α) {l : List α} {i : Nat} (h : l.length ≤ i) : (l.take i).map f ++ l.drop i = l.map f := by
  rw [List.drop_eq_nil_of_le h, List.take_of_length_le h, List.append_nil]
theorem map_set' {α : Type} {d : Cd α} {l : List α} {i : Nat} {y : α} : (l.map d.enc).set i (d.enc y) = (l.set i y).map d.enc := by rw [List.map_set]

def turnS (c : S151) : S151 := ⟨c.f0, c.f2, c.f1, c.f4, c.f3⟩
theorem lim42 (l : List S151) (hl : l.length < 1000000000) : lim T fns 42 [.fz (l.map k151.enc)] [] = some (.fz ((l.map turnS).map k151.enc), []) := by
  refine fn_rule (fn := fn42) rfl rfl (by simp [fn42]) ?_
  unfold fn42
  simp only [Try.f42, Option.getD_some, argEnv, List.map_nil, List.length_nil]
  have hcl := fun (n : Nat) => callV_clone (T := T) (fns := fns) (g := 107) (fn := fn107) rfl (st := 5) (bytes := 56) rfl (by decide) (rows := l.map k151.enc) (all151 l) (by simp; omega) n
  simp only [List.length_map] at hcl
  simp only [go_sem, T_3, T_4, T_9, T_50, T_151, hcl]
  refine loop_rule (ι := Nat) (S := fun i => ⟨[(3, .ms 0 5 0 l.length none), (8, .ms 0 5 0 l.length none), (9, .int .i64 l.length), (10, .int .i64 i)], [some (.buf 5 (((l.take i).map turnS ++ l.drop i).map k151.enc) false true)]⟩) (m := fun i => l.length + 1 - i)
    (I := fun i => i ≤ l.length) ?_ 0 _ (by omega) (by kernel_rfl)
  rintro i hi
  by_cases hlt : i < l.length
  · have hx := mix_get turnS hlt
    have hs := mix_set turnS hlt
    have hlen := mix_len turnS (Nat.le_of_lt hlt)
    generalize (l.take i).map turnS ++ l.drop i = cur at hx hs hlen
    have hx2 : (cur.map k151.enc)[i]? = some [V.str l[i].f0, .bool l[i].f1, .bool l[i].f2, .str l[i].f3, .str l[i].f4] := by rw [List.getElem?_map, hx]; rfl
    simp only [go_sem, T_3, T_4, T_9, T_50, T_151, hlt, hx, hx2, hlen, k151_enc, wrap_i64s (show i < 1000000000000000000 by omega)]
    rw [show [V.str l[i].f0, .bool l[i].f2, .bool l[i].f1, .str l[i].f4, .str l[i].f3] = k151.enc (turnS l[i]) from rfl, ← List.map_set, hs]
    exact ⟨i + 1, by omega, by simp only; omega, by kernel_rfl⟩
  · rw [mix_all turnS (by omega)]
    simp only [go_sem, T_3, T_4, T_9, T_50, T_151, hlt]
    exact finish_ms rfl (by simp)
end Go.Proofs.Ytfdemnefkfkghaa.R
/- Chapter 31's laws: diff.Join (under way). -/
namespace Go.Proofs.Ytfdemnefkfkghaa.R
open Go Go.Proofs
set_option linter.unusedSimpArgs false
set_option linter.unusedVariables false
set_option maxRecDepth 10000
set_option maxHeartbeats 4000000

/-- A map as two rows: a key put. -/
def putK (k : ByteArray) (ks : List ByteArray) : List ByteArray := if hasB k ks = true then ks else insAt (posB k ks) k ks
def putV {α : Type} (k : ByteArray) (c : α) (ks : List ByteArray) (vs : List α) : List α := if hasB k ks = true then vs.set (posB k ks) c else insAt (posB k ks) c vs

theorem posB_all {k : ByteArray} : ∀ {l : List ByteArray}, (∀ x ∈ l, ltS x k = true) → posB k l = l.length
  | [], _ => rfl
  | x :: r, h => by
    simp only [posB, h x (.head _), if_true, List.length_cons]
    rw [posB_all fun y hy => h y (.tail _ hy)]
theorem hasB_all {k : ByteArray} {l : List ByteArray} (h : ∀ x ∈ l, ltS x k = true) : hasB k l = false := hasB_end (by rw [posB_all h]; exact Nat.le_refl _)
theorem insAt_end {α : Type} {x : α} {l : List α} : insAt l.length x l = l ++ [x] := by simp [insAt]

/-- Keys that rise, so far. -/
theorem upGo_rises {α : Type} {ok : α → Bool} {key : α → ByteArray} : ∀ {l : List α} {p : Option ByteArray}, upGo ok key p l = true → risesK (l.map key) = true ∧ ∀ x ∈ l.head?, ∀ q ∈ p, ltS q (key x) = true
  | [], p, _ => ⟨rfl, by simp⟩
  | x :: r, p, h => by
    simp only [upGo, Bool.and_eq_true] at h
    obtain ⟨⟨h1, h2⟩, h3⟩ := h
    obtain ⟨g1, g2⟩ := upGo_rises h3
    refine ⟨?_, fun y hy q hq => ?_⟩
    · cases r with
      | nil => rfl
      | cons z r =>
        simp only [List.map_cons, risesK, Bool.and_eq_true] at g1 ⊢
        exact ⟨g2 z rfl _ rfl, g1⟩
    · simp only [List.head?_cons, Option.mem_def, Option.some.injEq] at hy hq
      subst hy
      subst hq
      exact h2
theorem mayL_rises {l : List S151} (h : mayL l = true) : risesK (l.map S151.f0) = true := (upGo_rises h).1
theorem rises_take' : ∀ {l : List ByteArray} (i : Nat), risesK l = true → risesK (l.take i) = true
  | [], i, _ => by simp [risesK]
  | x :: r, 0, _ => rfl
  | x :: r, i + 1, h => by
    rw [List.take_succ_cons]
    exact risesK_cons (rises_take' i (risesK_tail h)) fun y hy => risesK_lt h y (List.mem_of_mem_take hy)
theorem rises_before : ∀ {l : List ByteArray}, risesK l = true → ∀ {i : Nat} (h : i < l.length), ∀ y ∈ l.take i, ltS y l[i] = true
  | [], _, i, h => by simp at h
  | x :: r, hr, i, h => by
    cases i with
    | zero => simp
    | succ i =>
      intro y hy
      rw [List.take_succ_cons] at hy
      have hi : i < r.length := by simpa using h
      rcases List.mem_cons.1 hy with rfl | hy
      · exact risesK_lt hr _ (List.getElem_mem hi)
      · exact rises_before (risesK_tail hr) hi y hy

theorem lim36_bad (x y : List S151) (hx : x.length < 1000000000) (hy : y.length < 1000000000) (hb : (mayL x && mayL y) = false) : lim T fns 36 [.fz (x.map k151.enc), .fz (y.map k151.enc)] [] = some (.tup [.fz [], .int .i64 1], []) := by
  refine fn_rule (fn := fn36) rfl rfl (by simp [fn36]) ?_
  unfold fn36
  simp only [Try.f36, Option.getD_some, argEnv, List.map_nil, List.length_nil]
  cases h1 : mayL x with
  | false =>
    simp only [go_sem, T_1, T_3, T_4, T_9, T_50, T_151, T_152, call43 x (by omega), h1]
    show _ = _
    kernel_rfl
  | true =>
    have h2 : mayL y = false := by simpa [h1] using hb
    simp only [go_sem, T_1, T_3, T_4, T_9, T_50, T_151, T_152, call43 x (by omega), call43 y (by omega), h1, h2]
    show _ = _
    kernel_rfl
/-- The second changes, one by one, upon the map; none: one doesn't fit. -/
def joinY : List S151 → List ByteArray → List S151 → Option (List ByteArray × List S151)
  | [], ks, vs => some (ks, vs)
  | c :: r, ks, vs => if hasB c.f0 ks = true then
      (if (getM zC c.f0 ks vs).f2 = c.f1 ∧ (getM zC c.f0 ks vs).f4 = c.f3 then joinY r ks (vs.set (posB c.f0 ks) ⟨c.f0, (getM zC c.f0 ks vs).f1, c.f2, (getM zC c.f0 ks vs).f3, c.f4⟩) else none)
    else joinY r (insAt (posB c.f0 ks) c.f0 ks) (insAt (posB c.f0 ks) c vs)
def joinR (o : Option (List ByteArray × List S151)) : V := match o with
  | none => .tup [.fz [], .int .i64 3]
  | some m => .tup [.fz ((m.2.filter mayB).map k151.enc), .int .i64 0]
theorem joinY_drop {y : List S151} {j : Nat} (h : j < y.length) {ks : List ByteArray} {vs : List S151} : joinY (y.drop j) ks vs = joinY (y[j] :: y.drop (j + 1)) ks vs := by rw [List.drop_eq_getElem_cons h]

theorem posB_cut {k : ByteArray} : ∀ {l : List ByteArray}, (∀ x ∈ l.take (posB k l), ltS x k = true)
  | [] => by simp
  | x :: r => by
    simp only [posB]
    split
    · rename_i e
      intro y hy
      rw [List.take_succ_cons] at hy
      rcases List.mem_cons.1 hy with rfl | hy
      · exact e
      · exact posB_cut y hy
    · simp
theorem insAt_cons {α : Type} {i : Nat} {x y : α} {l : List α} : insAt (i + 1) x (y :: l) = y :: insAt i x l := by
  simp [insAt]
theorem insAt_mem {α : Type} {i : Nat} {x y : α} {l : List α} (h : y ∈ insAt i x l) : y = x ∨ y ∈ l := by
  unfold insAt at h
  simp only [List.mem_append, List.mem_singleton] at h
  rcases h with (h | h) | h
  · exact .inr (List.mem_of_mem_take h)
  · exact .inl h
  · exact .inr (List.mem_of_mem_drop h)
theorem rises_ins {k : ByteArray} : ∀ {l : List ByteArray}, risesK l = true → hasB k l = false → risesK (insAt (posB k l) k l) = true
  | [], _, _ => rfl
  | x :: r, hr, hb => by
    simp only [posB]
    split
    · rename_i e
      rw [insAt_cons]
      have hb' : hasB k r = false := by
        have : hasB k (x :: r) = hasB k r := by
          unfold hasB
          simp only [posB, e, if_true, List.getElem?_cons_succ]
        rw [← this]; exact hb
      refine risesK_cons (rises_ins (risesK_tail hr) hb') fun y hy => ?_
      rcases insAt_mem hy with rfl | hy
      · exact e
      · exact risesK_lt hr y hy
    · rename_i e
      have he : ltS x k = false := by simpa using e
      have hne : ¬ x = k := by
        have : hasB k (x :: r) = decide (x = k) := by
          unfold hasB
          simp only [posB, he, Bool.false_eq_true, if_false, List.getElem?_cons_zero]
        rw [this] at hb
        simpa using hb
      have hkx : ltS k x = true := by
        cases h : ltS k x with
        | true => rfl
        | false => exact absurd (ltS_tri he h) hne
      show risesK (k :: x :: r) = true
      exact risesK_cons hr fun y hy => by
        rcases List.mem_cons.1 hy with rfl | hy
        · exact hkx
        · exact ltS_trans hkx (risesK_lt hr y hy)
theorem insAt_len {α : Type} {i : Nat} {x : α} {l : List α} (h : i ≤ l.length) : (insAt i x l).length = l.length + 1 := by
  unfold insAt
  simp
  omega

/-- The objects while the changes that may be are gathered. -/
def accH (ks : List ByteArray) (vs acc : List S151) : Heap := match acc with
  | [] => [some (.buf 2 [[.ms 1 1 0 ks.length none, .ms 2 5 0 ks.length none]] false false), some (.buf 1 (ks.map Cd.str.enc) false true), some (.buf 5 (vs.map k151.enc) false true), some (.buf 1 [[.nils]] false true), some (.buf 1 [[.ptr 0 0 0]] false false), some (.buf 1 [[.int .i64 0]] false true)]
  | acc => [some (.buf 2 [[.ms 1 1 0 ks.length none, .ms 2 5 0 ks.length none]] false false), some (.buf 1 (ks.map Cd.str.enc) false true), some (.buf 5 (vs.map k151.enc) false true), some (.buf 1 [[.ms 6 5 0 acc.length none]] false false), some (.buf 1 [[.ptr 0 0 0]] false false), some (.buf 1 [[.int .i64 0]] false true), some (.buf 5 (acc.map k151.enc) false true)]
theorem accH_ne {ks : List ByteArray} {vs acc : List S151} (h : acc ≠ []) : accH ks vs acc = [some (.buf 2 [[.ms 1 1 0 ks.length none, .ms 2 5 0 ks.length none]] false false), some (.buf 1 (ks.map Cd.str.enc) false true), some (.buf 5 (vs.map k151.enc) false true), some (.buf 1 [[.ms 6 5 0 acc.length none]] false false), some (.buf 1 [[.ptr 0 0 0]] false false), some (.buf 1 [[.int .i64 0]] false true), some (.buf 5 (acc.map k151.enc) false true)] := by
  cases acc with
  | nil => exact absurd rfl h
  | cons a r => rfl
theorem append_nils {ti : TI} {n : Nat} {kr : List V} {p : Bool} (hb : ti.bytes ≤ 1000) : appendR ti n .nils [kr] p = .pure (.ms n ti.size 0 1 none, [(n, some (.buf ti.size [kr] false p))]) := by
  unfold appendR
  simp only [List.length_cons, List.length_nil, Nat.zero_add, Nat.one_ne_zero, if_false]
  rw [if_pos ⟨by omega, by omega⟩]
theorem lim36_ok (x y : List S151) (hx : x.length < 100000000) (hy : y.length < 100000000) (h1 : mayL x = true) (h2 : mayL y = true) : lim T fns 36 [.fz (x.map k151.enc), .fz (y.map k151.enc)] [] = some (joinR (joinY y (x.map S151.f0) x), []) := by
  refine fn_rule (fn := fn36) rfl rfl (by simp [fn36]) ?_
  unfold fn36
  simp only [Try.f36, Option.getD_some, argEnv, List.map_nil, List.length_nil]
  simp only [go_sem, T_1, T_3, T_4, T_9, T_50, T_151, T_152, call43 x (by omega), call43 y (by omega), h1, h2, call91]
  refine loop_rule (ι := Nat) (S := fun i => ⟨[(1, .fz (y.map k151.enc)), (6, .ptr 0 0 0), (25, .fz (x.map k151.enc)), (26, .int .i64 x.length), (27, .int .i64 i)], [some (mobC 1 2 i), some (kob ((x.take i).map S151.f0) [] false), some (vobC (x.take i) [] false)]⟩) (m := fun i => x.length + 1 - i)
    (I := fun i => i ≤ x.length) ?_ 0 _ (by omega) (by kernel_rfl)
  rintro i hi
  have hrx := mayL_rises h1
  by_cases hlt : i < x.length
  · have hx1 : x[i]? = some x[i] := List.getElem?_eq_getElem hlt
    have hks : ((x.take i).map S151.f0) = (x.map S151.f0).take i := by rw [List.map_take]
    have hall : ∀ k ∈ (x.take i).map S151.f0, ltS k x[i].f0 = true := by
      rw [hks]
      have := rises_before hrx (i := i) (by simpa using hlt)
      simpa using this
    have hlen : ((x.take i).map S151.f0).length = i := by simp; omega
    have hc := fun (n : Nat) (hn : 3 ≤ n) (rest : Heap) => call92_new x[i].f0 x[i] ((x.take i).map S151.f0) (x.take i) [] [] false false (by rw [hks]; exact rises_take' i hrx) (by omega) (by simp) (hasB_all hall) n hn rest
    have e2 : insAt i x[i] (x.take i) = x.take (i + 1) := by
      have : i = (x.take i).length := by simp; omega
      rw [show insAt i x[i] (x.take i) = insAt (x.take i).length x[i] (x.take i) by rw [← this], insAt_end, List.take_succ_eq_append_getElem hlt]
    have e1 : insAt i x[i].f0 ((x.take i).map S151.f0) = (x.take (i + 1)).map S151.f0 := by rw [insAt_map, e2]
    rw [posB_all hall, hlen, e1, e2] at hc
    simp only [mobC, kob, vobC, valC, k151_enc, List.append_nil] at hc ⊢
    simp only [go_sem, T_1, T_3, T_4, T_9, T_50, T_151, T_152, all151, hlt, hx1, hc, k151_enc, wrap_i64s (show i < 1000000000000000000 by omega)]
    exact ⟨i + 1, by omega, by simp only; omega, by kernel_rfl⟩
  · obtain rfl : i = x.length := by omega
    simp only [List.take_length]
    simp only [go_sem, T_1, T_3, T_4, T_9, T_50, T_151, T_152, hlt]
    refine loop_rule (ι := Nat × List ByteArray × List S151) (S := fun p => ⟨[(6, .ptr 0 0 0), (37, .fz (y.map k151.enc)), (38, .int .i64 y.length), (39, .int .i64 p.1)], [some (mobC 1 2 p.2.1.length), some (kob p.2.1 [] false), some (vobC p.2.2 [] false)]⟩) (m := fun p => y.length + 1 - p.1)
      (I := fun p => p.1 ≤ y.length ∧ p.2.2.length = p.2.1.length ∧ p.2.1.length ≤ x.length + p.1 ∧ risesK p.2.1 = true ∧ joinY (y.drop p.1) p.2.1 p.2.2 = joinY y (x.map S151.f0) x) ?_ (0, x.map S151.f0, x) _ ⟨by simp, by simp, by simp, hrx, rfl⟩ ?_
    · rintro ⟨j, ks, vs⟩ ⟨g1, g2, g3, g4, g5⟩
      simp only at g1 g2 g3 g4 g5
      by_cases hj : j < y.length
      · have hy1 : y[j]? = some y[j] := List.getElem?_eq_getElem hj
        have hget := fun (n : Nat) (hn : 3 ≤ n) (rest : Heap) => call93 y[j].f0 ks vs [] [] false false g4 (by omega) g2 n hn rest
        rw [joinY_drop hj] at g5
        simp only [joinY] at g5
        generalize hp : getM zC y[j].f0 ks vs = p at hget g5
        cases hb : hasB y[j].f0 ks with
        | false =>
          have hput := fun (n : Nat) (hn : 3 ≤ n) (rest : Heap) => call92_new y[j].f0 y[j] ks vs [] [] false false g4 (by omega) g2 hb n hn rest
          simp only [hb, Bool.false_eq_true, if_false] at g5 hget
          simp only [mobC, kob, vobC, valC, k151_enc, List.append_nil] at hget hput ⊢
          have hpl := posB_le y[j].f0 ks
          rw [← insAt_len (x := y[j].f0) hpl] at hput
          simp only [go_sem, T_1, T_3, T_4, T_9, T_50, T_151, T_152, all151, hj, hy1, hget, hput, extractR, k151_enc, wrap_i64s (show j < 1000000000000000000 by omega)]
          exact ⟨(j + 1, insAt (posB y[j].f0 ks) y[j].f0 ks, insAt (posB y[j].f0 ks) y[j] vs), ⟨by simp only; omega, by simp only; rw [insAt_len hpl, insAt_len (by omega), g2], by simp only; rw [insAt_len hpl]; omega, rises_ins g4 hb, g5⟩, by simp only; omega, by kernel_rfl⟩
        | true =>
          simp only [hb, if_true] at g5 hget
          by_cases hq : p.f2 = y[j].f1 ∧ p.f4 = y[j].f3
          · rw [if_pos hq] at g5
            have hput := fun (n : Nat) (hn : 3 ≤ n) (rest : Heap) => call92_old y[j].f0 ⟨y[j].f0, p.f1, y[j].f2, p.f3, y[j].f4⟩ ks vs [] [] false false g4 (by omega) g2 hb n hn rest
            have hq3 : (p.f2 == y[j].f1) = true := by simpa using hq.1
            have hq4 := hq.2
            simp only [mobC, kob, vobC, valC, k151_enc, List.append_nil] at hget hput ⊢
            simp only [go_sem, T_1, T_3, T_4, T_9, T_50, T_151, T_152, all151, hj, hy1, hget, hput, extractR, k151_enc, hq3, hq4, ba_toList, Bool.not_true, Bool.not_false, wrap_i64s (show j < 1000000000000000000 by omega)]
            repeat (refine ⟨by kernel_rfl, ?_⟩)
            exact ⟨(j + 1, ks, vs.set (posB y[j].f0 ks) ⟨y[j].f0, p.f1, y[j].f2, p.f3, y[j].f4⟩), ⟨by simp only; omega, by simp only [List.length_set]; exact g2, by simp only; omega, g4, g5⟩, by simp only; omega, by kernel_rfl⟩
          · rw [if_neg hq] at g5
            simp only [mobC, kob, vobC, valC, k151_enc, List.append_nil] at hget ⊢
            by_cases hq1 : p.f2 = y[j].f1
            · have hq2 : ¬ p.f4 = y[j].f3 := fun h => hq ⟨hq1, h⟩
              have hq3 : (p.f2 == y[j].f1) = true := by simpa using hq1
              simp only [go_sem, T_1, T_3, T_4, T_9, T_50, T_151, T_152, all151, hj, hy1, hget, extractR, k151_enc, hq3, hq2, ba_toList, Bool.not_true, Bool.not_false]
              rw [← g5]
              show _ = _
              kernel_rfl
            · have hq3 : (p.f2 == y[j].f1) = false := by simpa using hq1
              simp only [go_sem, T_1, T_3, T_4, T_9, T_50, T_151, T_152, all151, hj, hy1, hget, extractR, k151_enc, hq3, ba_toList, Bool.not_true, Bool.not_false]
              rw [← g5]
              show _ = _
              kernel_rfl
      · obtain rfl : j = y.length := by omega
        rw [List.drop_length] at g5
        simp only [joinY] at g5
        have hall := fun (n : Nat) (hn : 3 ≤ n) (rest : Heap) => call94 ks vs [] [] false false n hn rest
        simp only [mobC, kob, vobC, List.append_nil] at hall ⊢
        have hf201 : fns 201 = some fn201 := rfl
        simp only [go_sem, T_1, T_3, T_4, T_9, T_50, T_151, T_152, hj, hall, hf201]
        refine ⟨⟨rfl, rfl, by simp [fn201]⟩, ?_⟩
        unfold fn201
        simp only [Try.f201, Option.getD_some, argEnv]
        have hz : (0 : Int) = ((0 : Nat) : Int) := rfl
        simp only [go_sem, T_3, T_4, T_9, T_50, T_69, T_151, T_152, T_217, eqPC, nilCheckR, hz, Nat.zero_le, Nat.le_refl, List.filter, Nat.reduceBEq, Bool.not_false, Bool.not_true]
        repeat (refine ⟨by kernel_rfl, ?_⟩)
        have S0 : (0 : Nat) = 0 := rfl
        refine iloop_rule (ι := Nat) (S := fun i => ⟨[(0, .undef), (5, .ms 2 5 0 ks.length none), (22, .ms 1 1 0 ks.length none), (23, .int .i64 ks.length), (24, .int .i64 i)], accH ks vs ((vs.take i).filter mayB), [0], none⟩) (m := fun i => ks.length + 1 - i)
          (I := fun i => i ≤ ks.length) ?_ 0 _ (Nat.zero_le _) ?_ ?_ rfl
        · rintro i hi2
          by_cases hi3 : i < ks.length
          · have hi4 : i < vs.length := by omega
            have hv1 : vs[i]? = some vs[i] := List.getElem?_eq_getElem hi4
            have hk1 : ks[i]? = some ks[i] := List.getElem?_eq_getElem hi3
            have hnext : (vs.take (i + 1)).filter mayB = if mayB vs[i] = true then (vs.take i).filter mayB ++ [vs[i]] else (vs.take i).filter mayB := by
              rw [List.take_succ_eq_append_getElem hi4, List.filter_append]
              cases hm : mayB vs[i] <;> simp [List.filter, hm]
            have hal : ((vs.take i).filter mayB).length ≤ i := Nat.le_trans (List.length_filter_le _ _) (by simp; omega)
            generalize hacc : (vs.take i).filter mayB = acc at hnext hal
            have ha0 : accH ks vs [] = [some (.buf 2 [[.ms 1 1 0 ks.length none, .ms 2 5 0 ks.length none]] false false), some (.buf 1 (ks.map Cd.str.enc) false true), some (.buf 5 (vs.map k151.enc) false true), some (.buf 1 [[.nils]] false true), some (.buf 1 [[.ptr 0 0 0]] false false), some (.buf 1 [[.int .i64 0]] false true)] := rfl
            have ha1 : ∀ a r, accH ks vs (a :: r) = [some (.buf 2 [[.ms 1 1 0 ks.length none, .ms 2 5 0 ks.length none]] false false), some (.buf 1 (ks.map Cd.str.enc) false true), some (.buf 5 (vs.map k151.enc) false true), some (.buf 1 [[.ms 6 5 0 (a :: r).length none]] false false), some (.buf 1 [[.ptr 0 0 0]] false false), some (.buf 1 [[.int .i64 0]] false true), some (.buf 5 ((a :: r).map k151.enc) false true)] := fun _ _ => rfl
            cases hm : mayB vs[i] with
            | false =>
              rw [hm] at hnext
              simp only [Bool.false_eq_true, if_false] at hnext
              rcases acc with _ | ⟨a, r⟩
              · simp only [hacc, ha0]
                simp only [go_sem, T_3, T_4, T_9, T_50, T_69, T_151, T_152, T_217, T_1, T_3, T_4, T_9, T_50, T_151, T_152, hi3, hi4, hv1, hk1, all_str, all151, k151_enc, call95, hm, wrap_i64s (show i < 1000000000000000000 by omega), List.contains_cons, List.contains_nil, Nat.reduceBEq, Bool.or_false, List.filter, Bool.not_false, Bool.not_true]
                exact ⟨i + 1, by omega, by simp only; omega, by
                show head _ _ _ = some ⟨_, accH ks vs ((vs.take (i + 1)).filter mayB)⟩
                rw [hnext]
                kernel_rfl, by kernel_rfl, rfl⟩
              · have hne : a :: r ≠ [] := by simp
                generalize a :: r = acc at *
                simp only [hacc, accH_ne hne]
                simp only [go_sem, T_3, T_4, T_9, T_50, T_69, T_151, T_152, T_217, T_1, T_3, T_4, T_9, T_50, T_151, T_152, hi3, hi4, hv1, hk1, all_str, all151, k151_enc, call95, hm, wrap_i64s (show i < 1000000000000000000 by omega), List.contains_cons, List.contains_nil, Nat.reduceBEq, Bool.or_false, List.filter, Bool.not_false, Bool.not_true]
                exact ⟨i + 1, by omega, by simp only; omega, by
                show head _ _ _ = some ⟨_, accH ks vs ((vs.take (i + 1)).filter mayB)⟩
                rw [hnext, accH_ne hne]
                kernel_rfl, by kernel_rfl, rfl⟩
            | true =>
              rw [hm] at hnext
              simp only [if_true] at hnext
              rcases acc with _ | ⟨a, r⟩
              · simp only [hacc, ha0]
                simp only [go_sem, T_3, T_4, T_9, T_50, T_69, T_151, T_152, T_217, T_1, T_3, T_4, T_9, T_50, T_151, T_152, hi3, hi4, hv1, hk1, all_str, all151, k151_enc, call95, hm, append_nils (ti := ⟨.struct [(0, 9), (1, 4), (2, 4), (3, 9), (4, 9)], 5, 56, .agg [.str ⟨#[]⟩, .bool false, .bool false, .str ⟨#[]⟩, .str ⟨#[]⟩]⟩) (show 56 ≤ 1000 by decide), wrap_i64s (show i < 1000000000000000000 by omega), List.contains_cons, List.contains_nil, Nat.reduceBEq, Bool.or_false, List.filter, Bool.not_false, Bool.not_true]
                exact ⟨i + 1, by omega, by simp only; omega, by
                show head _ _ _ = some ⟨_, accH ks vs ((vs.take (i + 1)).filter mayB)⟩
                rw [hnext, List.nil_append, accH_ne (by simp)]
                kernel_rfl, by kernel_rfl, rfl⟩
              · have hne : a :: r ≠ [] := by simp
                generalize a :: r = acc at *
                simp only [hacc, accH_ne hne]
                simp only [go_sem, T_3, T_4, T_9, T_50, T_69, T_151, T_152, T_217, T_1, T_3, T_4, T_9, T_50, T_151, T_152, hi3, hi4, hv1, hk1, all_str, all151, k151_enc, call95, hm, appL_some, show (acc.length + 1) * 56 ≤ 140737488355328 by omega, show acc.length + 1 ≤ 140737488355328 by omega, wrap_i64s (show i < 1000000000000000000 by omega), List.contains_cons, List.contains_nil, Nat.reduceBEq, Bool.or_false, List.filter, Bool.not_false, Bool.not_true]
                exact ⟨i + 1, by omega, by simp only; omega, by
                show head _ _ _ = some ⟨_, accH ks vs ((vs.take (i + 1)).filter mayB)⟩
                rw [hnext, accH_ne (by simp)]
                simp only [List.map_append, List.map_cons, List.map_nil, List.length_append, List.length_cons, List.length_nil, k151_enc]
                kernel_rfl, by kernel_rfl, rfl⟩
          · obtain rfl : i = ks.length := by omega
            rw [← g2, List.take_length]
            have hal : (vs.filter mayB).length ≤ vs.length := List.length_filter_le _ _
            generalize hacc : vs.filter mayB = acc at hal
            rw [← g5]
            simp only [joinR, hacc]
            rcases acc with _ | ⟨a, r⟩
            · simp only [accH]
              simp only [go_sem, T_3, T_4, T_9, T_50, T_69, T_151, T_152, T_217, T_1, T_3, T_4, T_9, T_50, T_151, T_152, Nat.lt_irrefl]
              show _ = _
              kernel_rfl
            · have hne : a :: r ≠ [] := by simp
              generalize a :: r = acc at *
              simp only [accH_ne hne]
              simp only [go_sem, T_3, T_4, T_9, T_50, T_69, T_151, T_152, T_217, T_1, T_3, T_4, T_9, T_50, T_151, T_152, Nat.lt_irrefl]
              refine finish_fz ?_
              simp only [frz, frzAll, frzG, frzGAll, ms2, msUp, Rd.run, Heap.at?, List.length_map, Nat.zero_add, Nat.le_refl, and_self, if_true, List.drop_zero, FZ]
              rw [List.take_of_length_le (by simp)]
              show _ = _
              kernel_rfl
        · kernel_rfl
        · kernel_rfl
    · simp only [List.length_map]
      show _ = _
      kernel_rfl
end Go.Proofs.Ytfdemnefkfkghaa.R
/- Chapter 31's laws: diff.Pairs' closure. -/
namespace Go.Proofs.Ytfdemnefkfkghaa.R
open Go Go.Proofs
set_option linter.unusedSimpArgs false
set_option linter.unusedVariables false
set_option maxRecDepth 10000
set_option maxHeartbeats 4000000

theorem lim100_no0 (c : S151) (hm : mayB c = false) : lim T fns 100 [.agg (k151.enc c), .ptr 0 0 0] [.buf 1 [[.nils]] false true] = some (.tup [], [some (.buf 1 [[.nils]] false true)]) := by
  refine fn_rule (fn := fn100) rfl rfl (by simp [fn100]) ?_
  unfold fn100
  simp only [Try.f100, Option.getD_some, argEnv, List.map_nil, List.length_nil]
  simp only [go_sem, T_1, T_4, T_9, T_50, T_151, k151_enc, call95, hm]
  show _ = _
  kernel_rfl
theorem lim100_no (c : S151) (acc : List S151) (hm : mayB c = false) : lim T fns 100 [.agg (k151.enc c), .ptr 0 0 0] [.buf 1 [[.ms 1 5 0 acc.length none]] false false, .buf 5 (acc.map k151.enc) false true] = some (.tup [], [some (.buf 1 [[.ms 1 5 0 acc.length none]] false false), some (.buf 5 (acc.map k151.enc) false true)]) := by
  refine fn_rule (fn := fn100) rfl rfl (by simp [fn100]) ?_
  unfold fn100
  simp only [Try.f100, Option.getD_some, argEnv, List.map_nil, List.length_nil]
  simp only [go_sem, T_1, T_4, T_9, T_50, T_151, k151_enc, call95, hm]
  show _ = _
  kernel_rfl
theorem lim100_yes0 (c : S151) (hm : mayB c = true) : lim T fns 100 [.agg (k151.enc c), .ptr 0 0 0] [.buf 1 [[.nils]] false true] = some (.tup [], [some (.buf 1 [[.ms 1 5 0 1 none]] false false), some (.buf 5 ([c].map k151.enc) false true)]) := by
  refine fn_rule (fn := fn100) rfl rfl (by simp [fn100]) ?_
  unfold fn100
  simp only [Try.f100, Option.getD_some, argEnv, List.map_nil, List.length_nil]
  simp only [go_sem, T_1, T_4, T_9, T_50, T_151, k151_enc, call95, hm, append_nils (ti := ⟨.struct [(0, 9), (1, 4), (2, 4), (3, 9), (4, 9)], 5, 56, .agg [.str ⟨#[]⟩, .bool false, .bool false, .str ⟨#[]⟩, .str ⟨#[]⟩]⟩) (show 56 ≤ 1000 by decide)]
  show _ = _
  kernel_rfl
theorem lim100_yes (c : S151) (acc : List S151) (hm : mayB c = true) (ha : acc.length < 1000000000000) : lim T fns 100 [.agg (k151.enc c), .ptr 0 0 0] [.buf 1 [[.ms 1 5 0 acc.length none]] false false, .buf 5 (acc.map k151.enc) false true] = some (.tup [], [some (.buf 1 [[.ms 2 5 0 (acc ++ [c]).length none]] false false), none, some (.buf 5 ((acc ++ [c]).map k151.enc) false true)]) := by
  refine fn_rule (fn := fn100) rfl rfl (by simp [fn100]) ?_
  unfold fn100
  simp only [Try.f100, Option.getD_some, argEnv, List.map_nil, List.length_nil]
  simp only [go_sem, T_1, T_4, T_9, T_50, T_151, k151_enc, call95, hm, appL_some, show (acc.length + 1) * 56 ≤ 140737488355328 by omega, show acc.length + 1 ≤ 140737488355328 by omega]
  simp only [List.map_append, List.map_cons, List.map_nil, List.length_append, List.length_cons, List.length_nil, k151_enc]
  show _ = _
  kernel_rfl
theorem call100_no0 (c : S151) (hm : mayB c = false) (n : Nat) (hn : 1 ≤ n) (rest : Heap) : (callV (LX T fns) n (.clo 100 [.ptr 0 0 0]) [.agg [.str c.f0, .bool c.f1, .bool c.f2, .str c.f3, .str c.f4]]).run (some (.buf 1 [[.nils]] false true) :: rest) [] = some ((.tup [], [(0, some (.buf 1 [[.nils]] false true))]), [0]) := by
  have h := lim100_no0 c hm
  simp only [k151_enc] at h
  have hf : fns 100 = some fn100 := rfl
  unfold callV
  simp only [hf]
  unfold callR
  simp only [fn100, List.cons_append, List.nil_append, List.append_nil, frzArgs, frz, frzAll, frzG, frzGAll, ms2, msUp, List.tail]
  simp only [V.allIds, V.ids, List.append_nil, List.nil_append, collect, List.map_nil, List.contains_nil, Bool.false_eq_true, if_false, Rd.run, Heap.at?, Ob.ids, rowsIds, List.map_cons, List.cons_append, List.contains_cons, Nat.reduceBEq, Bool.or_self, Bool.or_false, Bool.false_or, Bool.or_true, Bool.true_or, if_true]
  unfold withR
  simp only [List.map_cons, List.map_nil, upd1, List.all_nil, List.all_cons, show 0 < n by omega, decide_true, Bool.and_self, if_true, V.reAll, V.re, idx, Nat.beq, cond_true, cond_false, Option.bind_some, Option.map_some, pullObs, Ob.re, reRows, Nat.reduceAdd, h, List.length_cons, List.length_nil, Nat.le_refl]
  unfold afterR
  simp only [V.re, V.reAll, pushObs, back, nth, Ob.re, reRows, Option.bind_some, Option.map_some, List.isEmpty_cons, Bool.false_and, Bool.false_eq_true, if_false, Rd.run, List.append_nil, Nat.reduceAdd]
theorem call100_no (c : S151) (acc : List S151) (hm : mayB c = false) (n : Nat) (hn : 2 ≤ n) (rest : Heap) : (callV (LX T fns) n (.clo 100 [.ptr 0 0 0]) [.agg [.str c.f0, .bool c.f1, .bool c.f2, .str c.f3, .str c.f4]]).run (some (.buf 1 [[.ms 1 5 0 acc.length none]] false false) :: some (.buf 5 (acc.map k151.enc) false true) :: rest) [] = some ((.tup [], [(0, some (.buf 1 [[.ms 1 5 0 acc.length none]] false false)), (1, some (.buf 5 (acc.map k151.enc) false true))]), [1, 0]) := by
  have h := lim100_no c acc hm
  simp only [k151_enc] at h
  have hf : fns 100 = some fn100 := rfl
  unfold callV
  simp only [hf]
  unfold callR
  simp only [fn100, List.cons_append, List.nil_append, List.append_nil, frzArgs, frz, frzAll, frzG, frzGAll, ms2, msUp, List.tail]
  simp only [V.allIds, V.ids, List.append_nil, List.nil_append, collect, List.map_nil, List.contains_nil, Bool.false_eq_true, if_false, Rd.run, Heap.at?, Ob.ids, rowsIds, List.map_cons, List.cons_append, List.contains_cons, Nat.reduceBEq, Bool.or_self, Bool.or_false, Bool.false_or, Bool.or_true, Bool.true_or, if_true]
  unfold withR
  simp only [List.map_cons, List.map_nil, upd1, List.all_nil, List.all_cons, show 0 < n by omega, show 1 < n by omega, decide_true, Bool.and_self, if_true, V.reAll, V.re, idx, Nat.beq, cond_true, cond_false, Option.bind_some, Option.map_some, pullObs, Ob.re, reRows, Nat.reduceAdd, h, List.length_cons, List.length_nil, Nat.le_refl]
  unfold afterR
  simp only [V.re, V.reAll, pushObs, back, nth, Ob.re, reRows, Option.bind_some, Option.map_some, List.isEmpty_cons, Bool.false_and, Bool.false_eq_true, if_false, Rd.run, List.append_nil, Nat.reduceAdd]
theorem call100_yes0 (c : S151) (hm : mayB c = true) (n : Nat) (hn : 1 ≤ n) (rest : Heap) : (callV (LX T fns) n (.clo 100 [.ptr 0 0 0]) [.agg [.str c.f0, .bool c.f1, .bool c.f2, .str c.f3, .str c.f4]]).run (some (.buf 1 [[.nils]] false true) :: rest) [] = some ((.tup [], [(0, some (.buf 1 [[.ms n 5 0 1 none]] false false)), (n, some (.buf 5 ([c].map k151.enc) false true))]), [0]) := by
  have h := lim100_yes0 c hm
  simp only [k151_enc] at h
  have hf : fns 100 = some fn100 := rfl
  unfold callV
  simp only [hf]
  unfold callR
  simp only [fn100, List.cons_append, List.nil_append, List.append_nil, frzArgs, frz, frzAll, frzG, frzGAll, ms2, msUp, List.tail]
  simp only [V.allIds, V.ids, List.append_nil, List.nil_append, collect, List.map_nil, List.contains_nil, Bool.false_eq_true, if_false, Rd.run, Heap.at?, Ob.ids, rowsIds, List.map_cons, List.cons_append, List.contains_cons, Nat.reduceBEq, Bool.or_self, Bool.or_false, Bool.false_or, Bool.or_true, Bool.true_or, if_true]
  unfold withR
  simp only [List.map_cons, List.map_nil, upd1, List.all_nil, List.all_cons, show 0 < n by omega, decide_true, Bool.and_self, if_true, V.reAll, V.re, idx, Nat.beq, cond_true, cond_false, Option.bind_some, Option.map_some, pullObs, Ob.re, reRows, Nat.reduceAdd, h, List.length_cons, List.length_nil, Nat.le_refl]
  unfold afterR
  simp only [V.re, V.reAll, pushObs, back, nth, Ob.re, reRows, Option.bind_some, Option.map_some, List.isEmpty_cons, Bool.false_and, Bool.false_eq_true, if_false, Rd.run, List.append_nil, Nat.reduceAdd]
  simp only [List.length_cons, List.length_nil, Nat.zero_add, Nat.reduceAdd, Nat.reduceLT, Nat.reduceLeDiff, if_true, Option.map_some, Option.bind_some, Nat.reduceSub, Nat.sub_self, Nat.add_zero]
  show _ = _
  kernel_rfl
theorem call100_yes (c : S151) (acc : List S151) (hm : mayB c = true) (ha : acc.length < 1000000000000) (n : Nat) (hn : 2 ≤ n) (rest : Heap) : (callV (LX T fns) n (.clo 100 [.ptr 0 0 0]) [.agg [.str c.f0, .bool c.f1, .bool c.f2, .str c.f3, .str c.f4]]).run (some (.buf 1 [[.ms 1 5 0 acc.length none]] false false) :: some (.buf 5 (acc.map k151.enc) false true) :: rest) [] =
    some ((.tup [], [(0, some (.buf 1 [[.ms n 5 0 (acc ++ [c]).length none]] false false)), (1, none), (n, some (.buf 5 ((acc ++ [c]).map k151.enc) false true))]), [1, 0]) := by
  have h := lim100_yes c acc hm ha
  simp only [k151_enc] at h
  have hf : fns 100 = some fn100 := rfl
  unfold callV
  simp only [hf]
  unfold callR
  simp only [fn100, List.cons_append, List.nil_append, List.append_nil, frzArgs, frz, frzAll, frzG, frzGAll, ms2, msUp, List.tail]
  simp only [V.allIds, V.ids, List.append_nil, List.nil_append, collect, List.map_nil, List.contains_nil, Bool.false_eq_true, if_false, Rd.run, Heap.at?, Ob.ids, rowsIds, List.map_cons, List.cons_append, List.contains_cons, Nat.reduceBEq, Bool.or_self, Bool.or_false, Bool.false_or, Bool.or_true, Bool.true_or, if_true]
  unfold withR
  simp only [List.map_cons, List.map_nil, upd1, List.all_nil, List.all_cons, show 0 < n by omega, show 1 < n by omega, decide_true, Bool.and_self, if_true, V.reAll, V.re, idx, Nat.beq, cond_true, cond_false, Option.bind_some, Option.map_some, pullObs, Ob.re, reRows, Nat.reduceAdd, h, List.length_cons, List.length_nil, Nat.le_refl]
  unfold afterR
  simp only [V.re, V.reAll, pushObs, back, nth, Ob.re, reRows, Option.bind_some, Option.map_some, List.isEmpty_cons, Bool.false_and, Bool.false_eq_true, if_false, Rd.run, List.append_nil, Nat.reduceAdd]
  simp only [List.length_cons, List.length_nil, Nat.zero_add, Nat.reduceAdd, Nat.reduceLT, Nat.reduceLeDiff, if_true, Option.map_some, Option.bind_some, Nat.reduceSub, Nat.sub_self, Nat.add_zero]
  show _ = _
  kernel_rfl
end Go.Proofs.Ytfdemnefkfkghaa.R
/- Rows that rise by their keys, told by what each key has. -/
namespace Go.Proofs.Ytfdemnefkfkghaa.R
open Go
set_option linter.unusedVariables false
set_option linter.unusedSimpArgs false

section
variable {α : Type} {key : α → ByteArray}

def look (key : α → ByteArray) (k : ByteArray) : List α → Option α
  | [] => none
  | x :: r => if key x = k then some x else look key k r

theorem look_key {k : ByteArray} {x : α} : ∀ {l : List α}, look key k l = some x → key x = k
  | [], h => by simp [look] at h
  | y :: r, h => by
    simp only [look] at h
    split at h
    · rename_i e
      cases h
      exact e
    · exact look_key h
theorem look_mem {k : ByteArray} {x : α} : ∀ {l : List α}, look key k l = some x → x ∈ l
  | [], h => by simp [look] at h
  | y :: r, h => by
    simp only [look] at h
    split at h
    · cases h
      exact .head _
    · exact .tail _ (look_mem h)
theorem look_none {k : ByteArray} : ∀ {l : List α}, (∀ x ∈ l, key x ≠ k) → look key k l = none
  | [], _ => rfl
  | x :: r, h => by
    simp only [look]
    rw [if_neg (h x (.head _)), look_none fun y hy => h y (.tail _ hy)]
theorem look_none_iff {k : ByteArray} : ∀ {l : List α}, look key k l = none ↔ ∀ x ∈ l, key x ≠ k
  | [] => by simp [look]
  | x :: r => by
    simp only [look]
    by_cases e : key x = k
    · simp [e]
    · simp [e, look_none_iff (l := r)]
theorem look_lt {k : ByteArray} {l : List α} (h : ∀ x ∈ l, ltS k (key x) = true) : look key k l = none := look_none fun x hx e => ltS_ne (h x hx) e.symm
theorem look_gt {k : ByteArray} {l : List α} (h : ∀ x ∈ l, ltS (key x) k = true) : look key k l = none := look_none fun x hx e => ltS_ne (h x hx) e
theorem look_app {k : ByteArray} : ∀ {l m : List α}, look key k (l ++ m) = (look key k l).or (look key k m)
  | [], m => by simp [look]
  | x :: r, m => by
    simp only [List.cons_append, look]
    split
    · rfl
    · exact look_app
theorem rises_head {x : α} {r : List α} (h : risesK ((x :: r).map key) = true) : ∀ y ∈ r, ltS (key x) (key y) = true := fun y hy => risesK_lt h _ (List.mem_map_of_mem hy)
theorem rises_tl {x : α} {r : List α} (h : risesK ((x :: r).map key) = true) : risesK (r.map key) = true := risesK_tail h
theorem rises_mk {x : α} {r : List α} (h : risesK (r.map key) = true) (k : ∀ y ∈ r, ltS (key x) (key y) = true) : risesK ((x :: r).map key) = true := risesK_cons h fun z hz => by
  obtain ⟨y, hy, rfl⟩ := List.mem_map.1 hz
  exact k y hy
theorem look_of_mem {x : α} : ∀ {l : List α}, risesK (l.map key) = true → x ∈ l → look key (key x) l = some x
  | [], _, h => by simp at h
  | y :: r, hr, h => by
    simp only [look]
    rcases List.mem_cons.1 h with rfl | h
    · rw [if_pos rfl]
    · rw [if_neg (ltS_ne (rises_head hr x h)), look_of_mem (rises_tl hr) h]
theorem look_ext : ∀ {l m : List α}, risesK (l.map key) = true → risesK (m.map key) = true → (∀ k, look key k l = look key k m) → l = m
  | [], [], _, _, _ => rfl
  | [], y :: s, _, _, h => by have := h (key y); simp [look] at this
  | x :: r, [], _, _, h => by have := h (key x); simp [look] at this
  | x :: r, y :: s, hl, hm, h => by
    have hlt := rises_head hl
    have hmt := rises_head hm
    have hxy : key x = key y := by
      cases h1 : ltS (key x) (key y) with
      | true =>
        have e := h (key x)
        rw [look_lt (l := y :: s) fun z hz => by
          rcases List.mem_cons.1 hz with rfl | hz
          · exact h1
          · exact ltS_trans h1 (hmt z hz)] at e
        simp [look] at e
      | false =>
        cases h2 : ltS (key y) (key x) with
        | true =>
          have e := h (key y)
          rw [look_lt (l := x :: r) fun z hz => by
            rcases List.mem_cons.1 hz with rfl | hz
            · exact h2
            · exact ltS_trans h2 (hlt z hz)] at e
          simp [look] at e
        | false => exact ltS_tri h1 h2
    have e := h (key x)
    simp only [look, if_true, hxy] at e
    obtain rfl : x = y := by simpa using e
    rw [look_ext (rises_tl hl) (rises_tl hm) fun k => ?_]
    by_cases hk : key x = k
    · subst hk
      rw [look_lt hlt, look_lt hmt]
    · have e := h k
      simpa only [look, hk, if_false] using e
theorem look_filter {k : ByteArray} {p : α → Bool} : ∀ {l : List α}, risesK (l.map key) = true → look key k (l.filter p) = (look key k l).filter p
  | [], _ => rfl
  | x :: r, h => by
    have ih := look_filter (k := k) (p := p) (rises_tl h)
    rw [List.filter_cons]
    by_cases hk : key x = k
    · subst hk
      have hn : look key (key x) (r.filter p) = none := look_lt fun y hy => rises_head h y (List.mem_filter.1 hy).1
      cases hp : p x with
      | true => simp [look, hp, Option.filter]
      | false => simp [look, hp, hn, Option.filter]
    · cases hp : p x with
      | true => simpa [look, hk] using ih
      | false => simpa [look, hk] using ih
theorem rises_filter {p : α → Bool} : ∀ {l : List α}, risesK (l.map key) = true → risesK ((l.filter p).map key) = true
  | [], _ => rfl
  | x :: r, h => by
    rw [List.filter_cons]
    split
    · exact rises_mk (rises_filter (rises_tl h)) fun y hy => rises_head h y (List.mem_filter.1 hy).1
    · exact rises_filter (rises_tl h)
theorem look_isSome {k : ByteArray} : ∀ {l : List α}, (look key k l).isSome = true ↔ k ∈ l.map key
  | [] => by simp [look]
  | x :: r => by
    simp only [look, List.map_cons, List.mem_cons]
    by_cases hk : key x = k
    · simp [hk]
    · have hk2 : ¬ k = key x := fun e => hk e.symm
      simp only [hk, hk2, if_false, false_or]
      exact look_isSome
theorem look_map {β : Type} {key' : β → ByteArray} {f : α → β} (hf : ∀ x, key' (f x) = key x) {k : ByteArray} : ∀ {l : List α}, look key' k (l.map f) = (look key k l).map f
  | [] => rfl
  | x :: r => by
    simp only [List.map_cons, look, hf]
    split
    · rfl
    · exact look_map hf

/-- With one element, in its place. -/
def insK (key : α → ByteArray) (p : α) : List α → List α
  | [] => [p]
  | x :: r => if ltS (key p) (key x) = true then p :: x :: r else x :: insK key p r
theorem insK_mem {p y : α} : ∀ {l : List α}, y ∈ insK key p l → y = p ∨ y ∈ l
  | [], h => by simpa [insK] using h
  | x :: r, h => by
    simp only [insK] at h
    split at h
    · simpa using h
    · rcases List.mem_cons.1 h with rfl | h
      · exact .inr (.head _)
      · rcases insK_mem h with h | h
        · exact .inl h
        · exact .inr (.tail _ h)
theorem insK_rises {p : α} : ∀ {l : List α}, risesK (l.map key) = true → (∀ x ∈ l, key x ≠ key p) → risesK ((insK key p l).map key) = true
  | [], _, _ => rfl
  | x :: r, h, hn => by
    simp only [insK]
    split
    · rename_i e
      exact rises_mk h fun y hy => by
        rcases List.mem_cons.1 hy with rfl | hy
        · exact e
        · exact ltS_trans e (rises_head h y hy)
    · rename_i e
      have e : ltS (key p) (key x) = false := by simpa using e
      refine rises_mk (insK_rises (rises_tl h) fun y hy => hn y (.tail _ hy)) fun y hy => ?_
      rcases insK_mem hy with rfl | hy
      · cases h2 : ltS (key x) (key y) with
        | true => rfl
        | false => exact absurd (ltS_tri h2 e) (hn x (.head _))
      · exact rises_head h y hy
theorem insK_look {p : α} {k : ByteArray} : ∀ {l : List α}, (∀ x ∈ l, key x ≠ key p) → look key k (insK key p l) = if key p = k then some p else look key k l
  | [], _ => rfl
  | x :: r, hn => by
    simp only [insK]
    split
    · rfl
    · simp only [look]
      rw [insK_look fun y hy => hn y (.tail _ hy)]
      by_cases hx : key x = k
      · have : ¬ key p = k := fun e => hn x (.head _) (by rw [hx, e])
        simp [hx, this]
      · simp [hx]
/-- Without a key. -/
def outK (key : α → ByteArray) (k : ByteArray) (l : List α) : List α := l.filter fun x => !decide (key x = k)
theorem outK_ne {k : ByteArray} {l : List α} : ∀ x ∈ outK key k l, key x ≠ k := fun x hx => by
  have := (List.mem_filter.1 hx).2
  simpa using this
theorem outK_rises {k : ByteArray} {l : List α} (h : risesK (l.map key) = true) : risesK ((outK key k l).map key) = true := rises_filter h
theorem outK_look {k j : ByteArray} {l : List α} (h : risesK (l.map key) = true) : look key j (outK key k l) = if k = j then none else look key j l := by
  unfold outK
  rw [look_filter h]
  cases hl : look key j l with
  | none => simp
  | some x =>
    have := look_key hl
    subst this
    by_cases e : k = key x
    · simp [Option.filter, e]
    · have e2 : ¬ key x = k := fun h => e h.symm
      simp [Option.filter, e, e2]
def putK' (key : α → ByteArray) (p : α) (l : List α) : List α := insK key p (outK key (key p) l)
theorem putK'_rises {p : α} {l : List α} (h : risesK (l.map key) = true) : risesK ((putK' key p l).map key) = true := insK_rises (outK_rises h) outK_ne
theorem putK'_look {p : α} {l : List α} {k : ByteArray} (h : risesK (l.map key) = true) : look key k (putK' key p l) = if key p = k then some p else look key k l := by
  unfold putK'
  rw [insK_look outK_ne, outK_look h]
  split <;> rfl
end
end Go.Proofs.Ytfdemnefkfkghaa.R
/- Chapter 31's plain law: what a key had in some pairs, and has in others. -/
namespace Go.Proofs.Ytfdemnefkfkghaa.R
open Go
set_option linter.unusedVariables false
set_option linter.unusedSimpArgs false

/-- Each key of one of two rows, with what it has in both. -/
def bothL : Nat → List S145 → List S145 → List S151
  | 0, _, _ => []
  | _ + 1, [], [] => []
  | n + 1, x :: a, [] => ⟨x.f0, true, false, x.f1, ⟨#[]⟩⟩ :: bothL n a []
  | n + 1, [], y :: b => ⟨y.f0, false, true, ⟨#[]⟩, y.f1⟩ :: bothL n [] b
  | n + 1, x :: a, y :: b => if ltS y.f0 x.f0 = true then ⟨y.f0, false, true, ⟨#[]⟩, y.f1⟩ :: bothL n (x :: a) b
    else if y.f0 = x.f0 then ⟨x.f0, true, true, x.f1, y.f1⟩ :: bothL n a b
    else ⟨x.f0, true, false, x.f1, ⟨#[]⟩⟩ :: bothL n a (y :: b)

def chg (k : ByteArray) : Option S145 → Option S145 → Option S151
  | none, none => none
  | some x, none => some ⟨k, true, false, x.f1, ⟨#[]⟩⟩
  | none, some y => some ⟨k, false, true, ⟨#[]⟩, y.f1⟩
  | some x, some y => some ⟨k, true, true, x.f1, y.f1⟩

abbrev lookP (k : ByteArray) (l : List S145) : Option S145 := look S145.f0 k l
abbrev lookC (k : ByteArray) (l : List S151) : Option S151 := look S151.f0 k l

theorem both_keys : ∀ {n : Nat} {a b : List S145} {z : S151}, z ∈ bothL n a b → (∃ x ∈ a, x.f0 = z.f0) ∨ ∃ y ∈ b, y.f0 = z.f0
  | 0, _, _, z, h => by simp [bothL] at h
  | n + 1, [], [], z, h => by simp [bothL] at h
  | n + 1, x :: a, [], z, h => by
    simp only [bothL, List.mem_cons] at h
    rcases h with rfl | h
    · exact .inl ⟨x, .head _, rfl⟩
    · rcases both_keys h with ⟨y, hy, e⟩ | ⟨y, hy, e⟩
      · exact .inl ⟨y, .tail _ hy, e⟩
      · simp at hy
  | n + 1, [], y :: b, z, h => by
    simp only [bothL, List.mem_cons] at h
    rcases h with rfl | h
    · exact .inr ⟨y, .head _, rfl⟩
    · rcases both_keys h with ⟨w, hy, e⟩ | ⟨w, hy, e⟩
      · simp at hy
      · exact .inr ⟨w, .tail _ hy, e⟩
  | n + 1, x :: a, y :: b, z, h => by
    simp only [bothL] at h
    split at h
    · rcases List.mem_cons.1 h with rfl | h
      · exact .inr ⟨y, .head _, rfl⟩
      · rcases both_keys h with ⟨w, hy, e⟩ | ⟨w, hy, e⟩
        · exact .inl ⟨w, hy, e⟩
        · exact .inr ⟨w, .tail _ hy, e⟩
    · split at h
      · rcases List.mem_cons.1 h with rfl | h
        · exact .inl ⟨x, .head _, rfl⟩
        · rcases both_keys h with ⟨w, hy, e⟩ | ⟨w, hy, e⟩
          · exact .inl ⟨w, .tail _ hy, e⟩
          · exact .inr ⟨w, .tail _ hy, e⟩
      · rcases List.mem_cons.1 h with rfl | h
        · exact .inl ⟨x, .head _, rfl⟩
        · rcases both_keys h with ⟨w, hy, e⟩ | ⟨w, hy, e⟩
          · exact .inl ⟨w, .tail _ hy, e⟩
          · exact .inr ⟨w, hy, e⟩
theorem both_lt {n : Nat} {a b : List S145} {k : ByteArray} (ha : ∀ x ∈ a, ltS k x.f0 = true) (hb : ∀ y ∈ b, ltS k y.f0 = true) : ∀ z ∈ bothL n a b, ltS k z.f0 = true := fun z hz => by
  rcases both_keys hz with ⟨x, hx, e⟩ | ⟨x, hx, e⟩
  · rw [← e]; exact ha x hx
  · rw [← e]; exact hb x hx
theorem lt_of_nlt {a b : ByteArray} (h : ¬ ltS b a = true) (hn : ¬ b = a) : ltS a b = true := by
  cases h2 : ltS a b with
  | true => rfl
  | false => exact absurd (ltS_tri (by simpa using h) h2) hn
theorem both_rises : ∀ {n : Nat} {a b : List S145}, risesK (a.map S145.f0) = true → risesK (b.map S145.f0) = true → risesK ((bothL n a b).map S151.f0) = true
  | 0, _, _, _, _ => rfl
  | n + 1, [], [], _, _ => rfl
  | n + 1, x :: a, [], ha, hb => by
    simp only [bothL]
    exact rises_mk (key := S151.f0) (both_rises (rises_tl ha) hb) (both_lt (rises_head ha) (by simp))
  | n + 1, [], y :: b, ha, hb => by
    simp only [bothL]
    exact rises_mk (key := S151.f0) (both_rises ha (rises_tl hb)) (both_lt (by simp) (rises_head hb))
  | n + 1, x :: a, y :: b, ha, hb => by
    simp only [bothL]
    split
    · rename_i e
      refine rises_mk (key := S151.f0) (both_rises ha (rises_tl hb)) (both_lt (fun z hz => ?_) (rises_head hb))
      rcases List.mem_cons.1 hz with rfl | hz
      · exact e
      · exact ltS_trans e (rises_head ha z hz)
    · rename_i e
      split
      · rename_i e2
        exact rises_mk (key := S151.f0) (both_rises (rises_tl ha) (rises_tl hb)) (both_lt (rises_head ha) (by rw [← e2]; exact rises_head hb))
      · rename_i e2
        have e3 := lt_of_nlt e e2
        refine rises_mk (key := S151.f0) (both_rises (rises_tl ha) hb) (both_lt (rises_head ha) fun z hz => ?_)
        rcases List.mem_cons.1 hz with rfl | hz
        · exact e3
        · exact ltS_trans e3 (rises_head hb z hz)
theorem both_look {k : ByteArray} : ∀ {n : Nat} {a b : List S145}, a.length + b.length ≤ n → risesK (a.map S145.f0) = true → risesK (b.map S145.f0) = true → lookC k (bothL n a b) = chg k (lookP k a) (lookP k b)
  | 0, a, b, h, _, _ => by
    obtain rfl : a = [] := List.eq_nil_of_length_eq_zero (by omega)
    obtain rfl : b = [] := List.eq_nil_of_length_eq_zero (by simpa using h)
    rfl
  | n + 1, [], [], _, _, _ => rfl
  | n + 1, x :: a, [], h, ha, hb => by
    simp only [bothL, lookC, lookP, look]
    by_cases hk : x.f0 = k
    · simp [hk, chg]
    · rw [if_neg hk, if_neg hk]
      exact both_look (by simp only [List.length_cons] at h ⊢; omega) (rises_tl ha) hb
  | n + 1, [], y :: b, h, ha, hb => by
    simp only [bothL, lookC, lookP, look]
    by_cases hk : y.f0 = k
    · simp [hk, chg]
    · rw [if_neg hk, if_neg hk]
      exact both_look (by simp only [List.length_cons] at h ⊢; omega) ha (rises_tl hb)
  | n + 1, x :: a, y :: b, h, ha, hb => by
    simp only [bothL]
    split
    · rename_i e
      by_cases hk : y.f0 = k
      · subst hk
        have : look S145.f0 y.f0 (x :: a) = none := look_lt fun z hz => by
          rcases List.mem_cons.1 hz with rfl | hz
          · exact e
          · exact ltS_trans e (rises_head ha z hz)
        simp only [lookC, lookP, this]
        simp [look, chg]
      · have ih := both_look (k := k) (n := n) (a := x :: a) (b := b) (by simp only [List.length_cons] at h ⊢; omega) ha (rises_tl hb)
        simp only [lookC, lookP] at ih ⊢
        rw [show look S145.f0 k (y :: b) = look S145.f0 k b by simp [look, hk], ← ih]
        simp [look, hk]
    · rename_i e
      split
      · rename_i e2
        by_cases hk : x.f0 = k
        · have hk2 : y.f0 = k := by rw [e2, hk]
          simp [lookC, lookP, look, hk, hk2, chg]
        · have hk2 : ¬ y.f0 = k := by rw [e2]; exact hk
          have ih := both_look (k := k) (n := n) (a := a) (b := b) (by simp only [List.length_cons] at h ⊢; omega) (rises_tl ha) (rises_tl hb)
          simpa [lookC, lookP, look, hk, hk2] using ih
      · rename_i e2
        have e3 := lt_of_nlt e e2
        by_cases hk : x.f0 = k
        · subst hk
          have : look S145.f0 x.f0 (y :: b) = none := look_lt fun z hz => by
            rcases List.mem_cons.1 hz with rfl | hz
            · exact e3
            · exact ltS_trans e3 (rises_head hb z hz)
          simp only [lookC, lookP, this]
          simp [look, chg]
        · have ih := both_look (k := k) (n := n) (a := a) (b := y :: b) (by simp only [List.length_cons] at h ⊢; omega) (rises_tl ha) hb
          simp only [lookC, lookP] at ih ⊢
          rw [show look S145.f0 k (x :: a) = look S145.f0 k a by simp [look, hk], ← ih]
          simp [look, hk]
theorem both_fuel : ∀ {n m : Nat} {a b : List S145}, a.length + b.length ≤ n → a.length + b.length ≤ m → bothL n a b = bothL m a b
  | 0, m, a, b, h, _ => by
    obtain rfl : a = [] := List.eq_nil_of_length_eq_zero (by omega)
    obtain rfl : b = [] := List.eq_nil_of_length_eq_zero (by simpa using h)
    cases m <;> rfl
  | n + 1, 0, a, b, _, h => by
    obtain rfl : a = [] := List.eq_nil_of_length_eq_zero (by omega)
    obtain rfl : b = [] := List.eq_nil_of_length_eq_zero (by simpa using h)
    rfl
  | n + 1, m + 1, [], [], _, _ => rfl
  | n + 1, m + 1, x :: a, [], h, k => by
    simp only [bothL]
    rw [both_fuel (n := n) (m := m) (by simp only [List.length_cons] at h ⊢; omega) (by simp only [List.length_cons] at k ⊢; omega)]
  | n + 1, m + 1, [], y :: b, h, k => by
    simp only [bothL]
    rw [both_fuel (n := n) (m := m) (by simp only [List.length_cons] at h ⊢; omega) (by simp only [List.length_cons] at k ⊢; omega)]
  | n + 1, m + 1, x :: a, y :: b, h, k => by
    simp only [bothL]
    simp only [List.length_cons] at h k
    rw [both_fuel (n := n) (m := m) (a := x :: a) (b := b) (by simp only [List.length_cons]; omega) (by simp only [List.length_cons]; omega), both_fuel (n := n) (m := m) (a := a) (b := b) (by omega) (by omega),
      both_fuel (n := n) (m := m) (a := a) (b := y :: b) (by simp only [List.length_cons]; omega) (by simp only [List.length_cons]; omega)]
end Go.Proofs.Ytfdemnefkfkghaa.R
/- Chapter 31's laws: two rows of pairs gone through at once. -/
namespace Go.Proofs.Ytfdemnefkfkghaa.R
open Go Go.Proofs
set_option linter.unusedSimpArgs false
set_option linter.unusedVariables false
set_option maxRecDepth 10000
set_option maxHeartbeats 4000000

def gath (acc : List S151) : Heap := match acc with
  | [] => [some (.buf 1 [[.nils]] false true)]
  | acc => [some (.buf 1 [[.ms 1 5 0 acc.length none]] false false), some (.buf 5 (acc.map k151.enc) false true)]
theorem gath_nil : gath [] = [some (.buf 1 [[.nils]] false true)] := rfl
theorem gath_ne {acc : List S151} (h : acc ≠ []) : gath acc = [some (.buf 1 [[.ms 1 5 0 acc.length none]] false false), some (.buf 5 (acc.map k151.enc) false true)] := by
  cases acc with
  | nil => exact absurd rfl h
  | cons a r => rfl
theorem beq0 {j : Nat} : (((j + 1 : Nat) : Int) == 0) = false := by
  rw [Bool.eq_false_iff]
  simp only [ne_eq, beq_iff_eq]
  omega
theorem beq00 : ((((0 : Nat) : Nat) : Int) == 0) = true := rfl
theorem natOf1 (k : IntKind) : natOf (.int k 1) = some 1 := rfl
theorem cutRest {r : List V} {q : List S145} : List.take (q.length + 1 - 1) (List.drop 1 (r :: List.map k145.enc q)) = List.map k145.enc q := List.take_of_length_le (by simp)
theorem cutRest2 {q : List S145} : List.take (q.length + 1 - 1) (List.map k145.enc q) = List.map k145.enc q := List.take_of_length_le (by simp)
theorem leN (n : Nat) : 1 ≤ n + 1 := by omega
theorem natOf0 (k : IntKind) : natOf (.int k 0) = some 0 := rfl
theorem lim99 (a b : List S145) (ha : a.length < 100000000) (hb : b.length < 100000000) : lim T fns 99 [.fz (a.map k145.enc), .fz (b.map k145.enc), .clo 100 [.ptr 0 0 0]] [.buf 1 [[.nils]] false true] = some (.tup [], gath ((bothL (a.length + b.length) a b).filter mayB)) := by
  refine fn_rule (fn := fn99) rfl rfl (by simp [fn99]) ?_
  unfold fn99
  simp only [Try.f99, Option.getD_some, argEnv, List.map_nil, List.length_nil]
  simp only [go_sem, T_3, T_4, T_9, T_51, T_145, T_151]
  refine loop_rule (ι := List S145 × List S145 × List S151) (S := fun p => ⟨[(0, .fz (p.1.map k145.enc)), (1, .fz (p.2.1.map k145.enc)), (2, .clo 100 [.ptr 0 0 0])], gath p.2.2⟩) (m := fun p => p.1.length + p.2.1.length)
    (I := fun p => p.1.length ≤ a.length ∧ p.2.1.length ≤ b.length ∧ p.2.2.length + p.1.length + p.2.1.length ≤ a.length + b.length ∧ p.2.2 ++ (bothL (p.1.length + p.2.1.length) p.1 p.2.1).filter mayB = (bothL (a.length + b.length) a b).filter mayB) ?_ (a, b, []) _ ⟨by simp, by simp, by simp, by simp⟩ (by kernel_rfl)
  rintro ⟨p, q, acc⟩ ⟨h1, h2, h3, h4⟩
  simp only at h1 h2 h3 h4
  rcases p with _ | ⟨x, p⟩ <;> rcases q with _ | ⟨y, q⟩
  · simp only [bothL, List.filter_nil, List.append_nil, List.length_nil] at h4
    rw [← h4]
    simp only [go_sem, T_3, T_4, T_9, T_51, T_145, T_151, gt00, gt000]
    rcases acc with _ | ⟨c, r⟩ <;> kernel_rfl
  · have hs : ([] : List S145).length + (y :: q).length = (([] : List S145).length + q.length) + 1 := rfl
    rw [hs] at h4
    have hbl : bothL (([] : List S145).length + q.length + 1) [] (y :: q) = ⟨y.f0, false, true, ⟨#[]⟩, y.f1⟩ :: bothL (([] : List S145).length + q.length) [] q := rfl
    rw [hbl] at h4
    generalize hc : (⟨y.f0, false, true, ⟨#[]⟩, y.f1⟩ : S151) = c at h4
    have y0 := fun (hm : mayB c = true) (n : Nat) (hn : 1 ≤ n) (rest : Heap) => call100_yes0 c hm n hn rest
    have n0 := fun (hm : mayB c = false) (n : Nat) (hn : 1 ≤ n) (rest : Heap) => call100_no0 c hm n hn rest
    have y1 := fun (hm : mayB c = true) (n : Nat) (hn : 2 ≤ n) (rest : Heap) => call100_yes c acc hm (by omega) n hn rest
    have n1 := fun (hm : mayB c = false) (n : Nat) (hn : 2 ≤ n) (rest : Heap) => call100_no c acc hm n hn rest
    subst hc
    simp only [List.map_cons, List.map_nil] at y0 n0 y1 n1
    rcases Classical.em (acc = []) with he | he
    · subst he
      rw [gath_nil]
      cases hm : mayB ⟨y.f0, false, true, ⟨#[]⟩, y.f1⟩ with
      | true =>
        have hcl := y0 hm
        simp only [go_sem, T_3, T_4, T_9, T_51, T_145, T_151, gt00, gt000, gt0, beq0, beq00, natOf0, natOf1, cutRest, cutRest2, leN, Nat.le_refl, ba_toList, le_lt, all145, k145_enc, hm, List.length_cons, hcl]
        repeat (refine ⟨by kernel_rfl, ?_⟩)
        refine ⟨([], q, ([] : List S151) ++ [⟨y.f0, false, true, ⟨#[]⟩, y.f1⟩]), ⟨?_, ?_, ?_, ?_⟩, ?_, ?_⟩
        · simp only [List.length_cons] at h1 ⊢; omega
        · simp only [List.length_cons] at h2 ⊢; omega
        · simp only [List.length_cons, List.length_append, List.length_nil] at h3 ⊢; omega
        · simpa only [List.filter, hm, List.append_assoc, List.singleton_append, List.nil_append] using h4
        · simp only [List.length_cons, List.length_nil]; omega
        · show head _ _ _ = some ⟨_, gath _⟩
          rw [gath_ne (by simp)]
          simp only [List.length_append, List.length_cons, List.length_nil]
          show _ = _
          kernel_rfl
      | false =>
        have hcl := n0 hm
        simp only [go_sem, T_3, T_4, T_9, T_51, T_145, T_151, gt00, gt000, gt0, beq0, beq00, natOf0, natOf1, cutRest, cutRest2, leN, Nat.le_refl, ba_toList, le_lt, all145, k145_enc, hm, List.length_cons, hcl]
        repeat (refine ⟨by kernel_rfl, ?_⟩)
        refine ⟨([], q, ([] : List S151)), ⟨?_, ?_, ?_, ?_⟩, ?_, ?_⟩
        · simp only [List.length_cons] at h1 ⊢; omega
        · simp only [List.length_cons] at h2 ⊢; omega
        · simp only [List.length_cons, List.length_append, List.length_nil] at h3 ⊢; omega
        · simpa only [List.filter, hm, List.append_assoc, List.singleton_append, List.nil_append] using h4
        · simp only [List.length_cons, List.length_nil]; omega
        · show head _ _ _ = some ⟨_, gath _⟩
          rw [gath_nil]
          show _ = _
          kernel_rfl
    · skip
      rw [gath_ne he]
      cases hm : mayB ⟨y.f0, false, true, ⟨#[]⟩, y.f1⟩ with
      | true =>
        have hcl := y1 hm
        simp only [go_sem, T_3, T_4, T_9, T_51, T_145, T_151, gt00, gt000, gt0, beq0, beq00, natOf0, natOf1, cutRest, cutRest2, leN, Nat.le_refl, ba_toList, le_lt, all145, k145_enc, hm, List.length_cons, hcl]
        repeat (refine ⟨by kernel_rfl, ?_⟩)
        refine ⟨([], q, acc ++ [⟨y.f0, false, true, ⟨#[]⟩, y.f1⟩]), ⟨?_, ?_, ?_, ?_⟩, ?_, ?_⟩
        · simp only [List.length_cons] at h1 ⊢; omega
        · simp only [List.length_cons] at h2 ⊢; omega
        · simp only [List.length_cons, List.length_append, List.length_nil] at h3 ⊢; omega
        · simpa only [List.filter, hm, List.append_assoc, List.singleton_append, List.nil_append] using h4
        · simp only [List.length_cons, List.length_nil]; omega
        · show head _ _ _ = some ⟨_, gath _⟩
          rw [gath_ne (by simp)]
          simp only [List.length_append, List.length_cons, List.length_nil]
          show _ = _
          kernel_rfl
      | false =>
        have hcl := n1 hm
        simp only [go_sem, T_3, T_4, T_9, T_51, T_145, T_151, gt00, gt000, gt0, beq0, beq00, natOf0, natOf1, cutRest, cutRest2, leN, Nat.le_refl, ba_toList, le_lt, all145, k145_enc, hm, List.length_cons, hcl]
        repeat (refine ⟨by kernel_rfl, ?_⟩)
        refine ⟨([], q, acc), ⟨?_, ?_, ?_, ?_⟩, ?_, ?_⟩
        · simp only [List.length_cons] at h1 ⊢; omega
        · simp only [List.length_cons] at h2 ⊢; omega
        · simp only [List.length_cons, List.length_append, List.length_nil] at h3 ⊢; omega
        · simpa only [List.filter, hm, List.append_assoc, List.singleton_append, List.nil_append] using h4
        · simp only [List.length_cons, List.length_nil]; omega
        · show head _ _ _ = some ⟨_, gath _⟩
          rw [gath_ne he]
          show _ = _
          kernel_rfl
  · have hs : (x :: p).length + ([] : List S145).length = (p.length + ([] : List S145).length) + 1 := rfl
    rw [hs] at h4
    have hbl : bothL (p.length + ([] : List S145).length + 1) (x :: p) [] = ⟨x.f0, true, false, x.f1, ⟨#[]⟩⟩ :: bothL (p.length + ([] : List S145).length) p [] := rfl
    rw [hbl] at h4
    generalize hc : (⟨x.f0, true, false, x.f1, ⟨#[]⟩⟩ : S151) = c at h4
    have y0 := fun (hm : mayB c = true) (n : Nat) (hn : 1 ≤ n) (rest : Heap) => call100_yes0 c hm n hn rest
    have n0 := fun (hm : mayB c = false) (n : Nat) (hn : 1 ≤ n) (rest : Heap) => call100_no0 c hm n hn rest
    have y1 := fun (hm : mayB c = true) (n : Nat) (hn : 2 ≤ n) (rest : Heap) => call100_yes c acc hm (by omega) n hn rest
    have n1 := fun (hm : mayB c = false) (n : Nat) (hn : 2 ≤ n) (rest : Heap) => call100_no c acc hm n hn rest
    subst hc
    simp only [List.map_cons, List.map_nil] at y0 n0 y1 n1
    rcases Classical.em (acc = []) with he | he
    · subst he
      rw [gath_nil]
      cases hm : mayB ⟨x.f0, true, false, x.f1, ⟨#[]⟩⟩ with
      | true =>
        have hcl := y0 hm
        simp only [go_sem, T_3, T_4, T_9, T_51, T_145, T_151, gt00, gt000, gt0, beq0, beq00, natOf0, natOf1, cutRest, cutRest2, leN, Nat.le_refl, ba_toList, le_lt, all145, k145_enc, hm, List.length_cons, hcl]
        repeat (refine ⟨by kernel_rfl, ?_⟩)
        refine ⟨(p, [], ([] : List S151) ++ [⟨x.f0, true, false, x.f1, ⟨#[]⟩⟩]), ⟨?_, ?_, ?_, ?_⟩, ?_, ?_⟩
        · simp only [List.length_cons] at h1 ⊢; omega
        · simp only [List.length_cons] at h2 ⊢; omega
        · simp only [List.length_cons, List.length_append, List.length_nil] at h3 ⊢; omega
        · simpa only [List.filter, hm, List.append_assoc, List.singleton_append, List.nil_append] using h4
        · simp only [List.length_cons, List.length_nil]; omega
        · show head _ _ _ = some ⟨_, gath _⟩
          rw [gath_ne (by simp)]
          simp only [List.length_append, List.length_cons, List.length_nil]
          show _ = _
          kernel_rfl
      | false =>
        have hcl := n0 hm
        simp only [go_sem, T_3, T_4, T_9, T_51, T_145, T_151, gt00, gt000, gt0, beq0, beq00, natOf0, natOf1, cutRest, cutRest2, leN, Nat.le_refl, ba_toList, le_lt, all145, k145_enc, hm, List.length_cons, hcl]
        repeat (refine ⟨by kernel_rfl, ?_⟩)
        refine ⟨(p, [], ([] : List S151)), ⟨?_, ?_, ?_, ?_⟩, ?_, ?_⟩
        · simp only [List.length_cons] at h1 ⊢; omega
        · simp only [List.length_cons] at h2 ⊢; omega
        · simp only [List.length_cons, List.length_append, List.length_nil] at h3 ⊢; omega
        · simpa only [List.filter, hm, List.append_assoc, List.singleton_append, List.nil_append] using h4
        · simp only [List.length_cons, List.length_nil]; omega
        · show head _ _ _ = some ⟨_, gath _⟩
          rw [gath_nil]
          show _ = _
          kernel_rfl
    · skip
      rw [gath_ne he]
      cases hm : mayB ⟨x.f0, true, false, x.f1, ⟨#[]⟩⟩ with
      | true =>
        have hcl := y1 hm
        simp only [go_sem, T_3, T_4, T_9, T_51, T_145, T_151, gt00, gt000, gt0, beq0, beq00, natOf0, natOf1, cutRest, cutRest2, leN, Nat.le_refl, ba_toList, le_lt, all145, k145_enc, hm, List.length_cons, hcl]
        repeat (refine ⟨by kernel_rfl, ?_⟩)
        refine ⟨(p, [], acc ++ [⟨x.f0, true, false, x.f1, ⟨#[]⟩⟩]), ⟨?_, ?_, ?_, ?_⟩, ?_, ?_⟩
        · simp only [List.length_cons] at h1 ⊢; omega
        · simp only [List.length_cons] at h2 ⊢; omega
        · simp only [List.length_cons, List.length_append, List.length_nil] at h3 ⊢; omega
        · simpa only [List.filter, hm, List.append_assoc, List.singleton_append, List.nil_append] using h4
        · simp only [List.length_cons, List.length_nil]; omega
        · show head _ _ _ = some ⟨_, gath _⟩
          rw [gath_ne (by simp)]
          simp only [List.length_append, List.length_cons, List.length_nil]
          show _ = _
          kernel_rfl
      | false =>
        have hcl := n1 hm
        simp only [go_sem, T_3, T_4, T_9, T_51, T_145, T_151, gt00, gt000, gt0, beq0, beq00, natOf0, natOf1, cutRest, cutRest2, leN, Nat.le_refl, ba_toList, le_lt, all145, k145_enc, hm, List.length_cons, hcl]
        repeat (refine ⟨by kernel_rfl, ?_⟩)
        refine ⟨(p, [], acc), ⟨?_, ?_, ?_, ?_⟩, ?_, ?_⟩
        · simp only [List.length_cons] at h1 ⊢; omega
        · simp only [List.length_cons] at h2 ⊢; omega
        · simp only [List.length_cons, List.length_append, List.length_nil] at h3 ⊢; omega
        · simpa only [List.filter, hm, List.append_assoc, List.singleton_append, List.nil_append] using h4
        · simp only [List.length_cons, List.length_nil]; omega
        · show head _ _ _ = some ⟨_, gath _⟩
          rw [gath_ne he]
          show _ = _
          kernel_rfl
  · cases h5 : ltS y.f0 x.f0 with
    | true =>
      have hs : (x :: p).length + (y :: q).length = ((x :: p).length + q.length) + 1 := rfl
      have hne : ¬ y.f0 = x.f0 := ltS_ne h5
      have hne2 : ¬ x.f0 = y.f0 := fun e => hne e.symm
      have hlx : Op.bytesLess x.f0.toList y.f0.toList = false := ltS_asymm h5
      rw [hs] at h4
      have hbl : bothL ((x :: p).length + q.length + 1) (x :: p) (y :: q) = ⟨y.f0, false, true, ⟨#[]⟩, y.f1⟩ :: bothL ((x :: p).length + q.length) (x :: p) q := by simp only [bothL, h5, if_true]
      rw [hbl] at h4
      generalize hc : (⟨y.f0, false, true, ⟨#[]⟩, y.f1⟩ : S151) = c at h4
      have y0 := fun (hm : mayB c = true) (n : Nat) (hn : 1 ≤ n) (rest : Heap) => call100_yes0 c hm n hn rest
      have n0 := fun (hm : mayB c = false) (n : Nat) (hn : 1 ≤ n) (rest : Heap) => call100_no0 c hm n hn rest
      have y1 := fun (hm : mayB c = true) (n : Nat) (hn : 2 ≤ n) (rest : Heap) => call100_yes c acc hm (by omega) n hn rest
      have n1 := fun (hm : mayB c = false) (n : Nat) (hn : 2 ≤ n) (rest : Heap) => call100_no c acc hm n hn rest
      subst hc
      simp only [List.map_cons, List.map_nil] at y0 n0 y1 n1
      rcases Classical.em (acc = []) with he | he
      · subst he
        rw [gath_nil]
        cases hm : mayB ⟨y.f0, false, true, ⟨#[]⟩, y.f1⟩ with
        | true =>
          have hcl := y0 hm
          simp only [go_sem, T_3, T_4, T_9, T_51, T_145, T_151, gt00, gt000, gt0, beq0, beq00, natOf0, natOf1, cutRest, cutRest2, leN, Nat.le_refl, ba_toList, le_lt, all145, k145_enc, hm, h5, hne, hne2, hlx, Bool.not_true, hcl]
          repeat (refine ⟨by kernel_rfl, ?_⟩)
          refine ⟨(x :: p, q, ([] : List S151) ++ [⟨y.f0, false, true, ⟨#[]⟩, y.f1⟩]), ⟨?_, ?_, ?_, ?_⟩, ?_, ?_⟩
          · simp only [List.length_cons] at h1 ⊢; omega
          · simp only [List.length_cons] at h2 ⊢; omega
          · simp only [List.length_cons, List.length_append, List.length_nil] at h3 ⊢; omega
          · simpa only [List.filter, hm, List.append_assoc, List.singleton_append, List.nil_append] using h4
          · simp only [List.length_cons, List.length_nil]; omega
          · show head _ _ _ = some ⟨_, gath _⟩
            rw [gath_ne (by simp)]
            simp only [List.length_append, List.length_cons, List.length_nil]
            show _ = _
            kernel_rfl
        | false =>
          have hcl := n0 hm
          simp only [go_sem, T_3, T_4, T_9, T_51, T_145, T_151, gt00, gt000, gt0, beq0, beq00, natOf0, natOf1, cutRest, cutRest2, leN, Nat.le_refl, ba_toList, le_lt, all145, k145_enc, hm, h5, hne, hne2, hlx, Bool.not_true, hcl]
          repeat (refine ⟨by kernel_rfl, ?_⟩)
          refine ⟨(x :: p, q, ([] : List S151)), ⟨?_, ?_, ?_, ?_⟩, ?_, ?_⟩
          · simp only [List.length_cons] at h1 ⊢; omega
          · simp only [List.length_cons] at h2 ⊢; omega
          · simp only [List.length_cons, List.length_append, List.length_nil] at h3 ⊢; omega
          · simpa only [List.filter, hm, List.append_assoc, List.singleton_append, List.nil_append] using h4
          · simp only [List.length_cons, List.length_nil]; omega
          · show head _ _ _ = some ⟨_, gath _⟩
            rw [gath_nil]
            show _ = _
            kernel_rfl
      · skip
        rw [gath_ne he]
        cases hm : mayB ⟨y.f0, false, true, ⟨#[]⟩, y.f1⟩ with
        | true =>
          have hcl := y1 hm
          simp only [go_sem, T_3, T_4, T_9, T_51, T_145, T_151, gt00, gt000, gt0, beq0, beq00, natOf0, natOf1, cutRest, cutRest2, leN, Nat.le_refl, ba_toList, le_lt, all145, k145_enc, hm, h5, hne, hne2, hlx, Bool.not_true, hcl]
          repeat (refine ⟨by kernel_rfl, ?_⟩)
          refine ⟨(x :: p, q, acc ++ [⟨y.f0, false, true, ⟨#[]⟩, y.f1⟩]), ⟨?_, ?_, ?_, ?_⟩, ?_, ?_⟩
          · simp only [List.length_cons] at h1 ⊢; omega
          · simp only [List.length_cons] at h2 ⊢; omega
          · simp only [List.length_cons, List.length_append, List.length_nil] at h3 ⊢; omega
          · simpa only [List.filter, hm, List.append_assoc, List.singleton_append, List.nil_append] using h4
          · simp only [List.length_cons, List.length_nil]; omega
          · show head _ _ _ = some ⟨_, gath _⟩
            rw [gath_ne (by simp)]
            simp only [List.length_append, List.length_cons, List.length_nil]
            show _ = _
            kernel_rfl
        | false =>
          have hcl := n1 hm
          simp only [go_sem, T_3, T_4, T_9, T_51, T_145, T_151, gt00, gt000, gt0, beq0, beq00, natOf0, natOf1, cutRest, cutRest2, leN, Nat.le_refl, ba_toList, le_lt, all145, k145_enc, hm, h5, hne, hne2, hlx, Bool.not_true, hcl]
          repeat (refine ⟨by kernel_rfl, ?_⟩)
          refine ⟨(x :: p, q, acc), ⟨?_, ?_, ?_, ?_⟩, ?_, ?_⟩
          · simp only [List.length_cons] at h1 ⊢; omega
          · simp only [List.length_cons] at h2 ⊢; omega
          · simp only [List.length_cons, List.length_append, List.length_nil] at h3 ⊢; omega
          · simpa only [List.filter, hm, List.append_assoc, List.singleton_append, List.nil_append] using h4
          · simp only [List.length_cons, List.length_nil]; omega
          · show head _ _ _ = some ⟨_, gath _⟩
            rw [gath_ne he]
            show _ = _
            kernel_rfl
    | false =>
      by_cases h6 : y.f0 = x.f0
      · have hs : (x :: p).length + (y :: q).length = (p.length + q.length + 1) + 1 := by simp only [List.length_cons]; omega
        rw [hs] at h4
        have hbl : bothL (p.length + q.length + 1 + 1) (x :: p) (y :: q) = ⟨x.f0, true, true, x.f1, y.f1⟩ :: bothL (p.length + q.length) p q := by
          rw [both_fuel (n := p.length + q.length) (m := p.length + q.length + 1) (Nat.le_refl _) (by omega)]
          simp only [bothL, h6, ltS_irrefl, Bool.false_eq_true, if_false, if_true]
        rw [hbl] at h4
        generalize hc : (⟨x.f0, true, true, x.f1, y.f1⟩ : S151) = c at h4
        have y0 := fun (hm : mayB c = true) (n : Nat) (hn : 1 ≤ n) (rest : Heap) => call100_yes0 c hm n hn rest
        have n0 := fun (hm : mayB c = false) (n : Nat) (hn : 1 ≤ n) (rest : Heap) => call100_no0 c hm n hn rest
        have y1 := fun (hm : mayB c = true) (n : Nat) (hn : 2 ≤ n) (rest : Heap) => call100_yes c acc hm (by omega) n hn rest
        have n1 := fun (hm : mayB c = false) (n : Nat) (hn : 2 ≤ n) (rest : Heap) => call100_no c acc hm n hn rest
        subst hc
        simp only [List.map_cons, List.map_nil] at y0 n0 y1 n1
        rcases Classical.em (acc = []) with he | he
        · subst he
          rw [gath_nil]
          cases hm : mayB ⟨x.f0, true, true, x.f1, y.f1⟩ with
          | true =>
            have hcl := y0 hm
            simp only [go_sem, T_3, T_4, T_9, T_51, T_145, T_151, gt00, gt000, gt0, beq0, beq00, natOf0, natOf1, cutRest, cutRest2, leN, Nat.le_refl, ba_toList, le_lt, all145, k145_enc, hm, h6, Bool.not_false, ltS_irrefl, hcl]
            repeat (refine ⟨by kernel_rfl, ?_⟩)
            refine ⟨(p, q, ([] : List S151) ++ [⟨x.f0, true, true, x.f1, y.f1⟩]), ⟨?_, ?_, ?_, ?_⟩, ?_, ?_⟩
            · simp only [List.length_cons] at h1 ⊢; omega
            · simp only [List.length_cons] at h2 ⊢; omega
            · simp only [List.length_cons, List.length_append, List.length_nil] at h3 ⊢; omega
            · simpa only [List.filter, hm, List.append_assoc, List.singleton_append, List.nil_append] using h4
            · simp only [List.length_cons, List.length_nil]; omega
            · show head _ _ _ = some ⟨_, gath _⟩
              rw [gath_ne (by simp)]
              simp only [List.length_append, List.length_cons, List.length_nil]
              show _ = _
              kernel_rfl
          | false =>
            have hcl := n0 hm
            simp only [go_sem, T_3, T_4, T_9, T_51, T_145, T_151, gt00, gt000, gt0, beq0, beq00, natOf0, natOf1, cutRest, cutRest2, leN, Nat.le_refl, ba_toList, le_lt, all145, k145_enc, hm, h6, Bool.not_false, ltS_irrefl, hcl]
            repeat (refine ⟨by kernel_rfl, ?_⟩)
            refine ⟨(p, q, ([] : List S151)), ⟨?_, ?_, ?_, ?_⟩, ?_, ?_⟩
            · simp only [List.length_cons] at h1 ⊢; omega
            · simp only [List.length_cons] at h2 ⊢; omega
            · simp only [List.length_cons, List.length_append, List.length_nil] at h3 ⊢; omega
            · simpa only [List.filter, hm, List.append_assoc, List.singleton_append, List.nil_append] using h4
            · simp only [List.length_cons, List.length_nil]; omega
            · show head _ _ _ = some ⟨_, gath _⟩
              rw [gath_nil]
              show _ = _
              kernel_rfl
        · skip
          rw [gath_ne he]
          cases hm : mayB ⟨x.f0, true, true, x.f1, y.f1⟩ with
          | true =>
            have hcl := y1 hm
            simp only [go_sem, T_3, T_4, T_9, T_51, T_145, T_151, gt00, gt000, gt0, beq0, beq00, natOf0, natOf1, cutRest, cutRest2, leN, Nat.le_refl, ba_toList, le_lt, all145, k145_enc, hm, h6, Bool.not_false, ltS_irrefl, hcl]
            repeat (refine ⟨by kernel_rfl, ?_⟩)
            refine ⟨(p, q, acc ++ [⟨x.f0, true, true, x.f1, y.f1⟩]), ⟨?_, ?_, ?_, ?_⟩, ?_, ?_⟩
            · simp only [List.length_cons] at h1 ⊢; omega
            · simp only [List.length_cons] at h2 ⊢; omega
            · simp only [List.length_cons, List.length_append, List.length_nil] at h3 ⊢; omega
            · simpa only [List.filter, hm, List.append_assoc, List.singleton_append, List.nil_append] using h4
            · simp only [List.length_cons, List.length_nil]; omega
            · show head _ _ _ = some ⟨_, gath _⟩
              rw [gath_ne (by simp)]
              simp only [List.length_append, List.length_cons, List.length_nil]
              show _ = _
              kernel_rfl
          | false =>
            have hcl := n1 hm
            simp only [go_sem, T_3, T_4, T_9, T_51, T_145, T_151, gt00, gt000, gt0, beq0, beq00, natOf0, natOf1, cutRest, cutRest2, leN, Nat.le_refl, ba_toList, le_lt, all145, k145_enc, hm, h6, Bool.not_false, ltS_irrefl, hcl]
            repeat (refine ⟨by kernel_rfl, ?_⟩)
            refine ⟨(p, q, acc), ⟨?_, ?_, ?_, ?_⟩, ?_, ?_⟩
            · simp only [List.length_cons] at h1 ⊢; omega
            · simp only [List.length_cons] at h2 ⊢; omega
            · simp only [List.length_cons, List.length_append, List.length_nil] at h3 ⊢; omega
            · simpa only [List.filter, hm, List.append_assoc, List.singleton_append, List.nil_append] using h4
            · simp only [List.length_cons, List.length_nil]; omega
            · show head _ _ _ = some ⟨_, gath _⟩
              rw [gath_ne he]
              show _ = _
              kernel_rfl
      · have hs : (x :: p).length + (y :: q).length = (p.length + (y :: q).length) + 1 := by simp only [List.length_cons]; omega
        have h7 : ¬ x.f0 = y.f0 := fun e => h6 e.symm
        have hlx : Op.bytesLess x.f0.toList y.f0.toList = true := lt_of_nlt (by rw [h5]; simp) h6
        rw [hs] at h4
        have hbl : bothL (p.length + (y :: q).length + 1) (x :: p) (y :: q) = ⟨x.f0, true, false, x.f1, ⟨#[]⟩⟩ :: bothL (p.length + (y :: q).length) p (y :: q) := by simp only [bothL, h5, h6, Bool.false_eq_true, if_false]
        rw [hbl] at h4
        generalize hc : (⟨x.f0, true, false, x.f1, ⟨#[]⟩⟩ : S151) = c at h4
        have y0 := fun (hm : mayB c = true) (n : Nat) (hn : 1 ≤ n) (rest : Heap) => call100_yes0 c hm n hn rest
        have n0 := fun (hm : mayB c = false) (n : Nat) (hn : 1 ≤ n) (rest : Heap) => call100_no0 c hm n hn rest
        have y1 := fun (hm : mayB c = true) (n : Nat) (hn : 2 ≤ n) (rest : Heap) => call100_yes c acc hm (by omega) n hn rest
        have n1 := fun (hm : mayB c = false) (n : Nat) (hn : 2 ≤ n) (rest : Heap) => call100_no c acc hm n hn rest
        subst hc
        simp only [List.map_cons, List.map_nil] at y0 n0 y1 n1
        rcases Classical.em (acc = []) with he | he
        · subst he
          rw [gath_nil]
          cases hm : mayB ⟨x.f0, true, false, x.f1, ⟨#[]⟩⟩ with
          | true =>
            have hcl := y0 hm
            simp only [go_sem, T_3, T_4, T_9, T_51, T_145, T_151, gt00, gt000, gt0, beq0, beq00, natOf0, natOf1, cutRest, cutRest2, leN, Nat.le_refl, ba_toList, le_lt, all145, k145_enc, hm, h5, h6, h7, hlx, Bool.not_false, hcl]
            repeat (refine ⟨by kernel_rfl, ?_⟩)
            refine ⟨(p, y :: q, ([] : List S151) ++ [⟨x.f0, true, false, x.f1, ⟨#[]⟩⟩]), ⟨?_, ?_, ?_, ?_⟩, ?_, ?_⟩
            · simp only [List.length_cons] at h1 ⊢; omega
            · simp only [List.length_cons] at h2 ⊢; omega
            · simp only [List.length_cons, List.length_append, List.length_nil] at h3 ⊢; omega
            · simpa only [List.filter, hm, List.append_assoc, List.singleton_append, List.nil_append] using h4
            · simp only [List.length_cons, List.length_nil]; omega
            · show head _ _ _ = some ⟨_, gath _⟩
              rw [gath_ne (by simp)]
              simp only [List.length_append, List.length_cons, List.length_nil]
              show _ = _
              kernel_rfl
          | false =>
            have hcl := n0 hm
            simp only [go_sem, T_3, T_4, T_9, T_51, T_145, T_151, gt00, gt000, gt0, beq0, beq00, natOf0, natOf1, cutRest, cutRest2, leN, Nat.le_refl, ba_toList, le_lt, all145, k145_enc, hm, h5, h6, h7, hlx, Bool.not_false, hcl]
            repeat (refine ⟨by kernel_rfl, ?_⟩)
            refine ⟨(p, y :: q, ([] : List S151)), ⟨?_, ?_, ?_, ?_⟩, ?_, ?_⟩
            · simp only [List.length_cons] at h1 ⊢; omega
            · simp only [List.length_cons] at h2 ⊢; omega
            · simp only [List.length_cons, List.length_append, List.length_nil] at h3 ⊢; omega
            · simpa only [List.filter, hm, List.append_assoc, List.singleton_append, List.nil_append] using h4
            · simp only [List.length_cons, List.length_nil]; omega
            · show head _ _ _ = some ⟨_, gath _⟩
              rw [gath_nil]
              show _ = _
              kernel_rfl
        · skip
          rw [gath_ne he]
          cases hm : mayB ⟨x.f0, true, false, x.f1, ⟨#[]⟩⟩ with
          | true =>
            have hcl := y1 hm
            simp only [go_sem, T_3, T_4, T_9, T_51, T_145, T_151, gt00, gt000, gt0, beq0, beq00, natOf0, natOf1, cutRest, cutRest2, leN, Nat.le_refl, ba_toList, le_lt, all145, k145_enc, hm, h5, h6, h7, hlx, Bool.not_false, hcl]
            repeat (refine ⟨by kernel_rfl, ?_⟩)
            refine ⟨(p, y :: q, acc ++ [⟨x.f0, true, false, x.f1, ⟨#[]⟩⟩]), ⟨?_, ?_, ?_, ?_⟩, ?_, ?_⟩
            · simp only [List.length_cons] at h1 ⊢; omega
            · simp only [List.length_cons] at h2 ⊢; omega
            · simp only [List.length_cons, List.length_append, List.length_nil] at h3 ⊢; omega
            · simpa only [List.filter, hm, List.append_assoc, List.singleton_append, List.nil_append] using h4
            · simp only [List.length_cons, List.length_nil]; omega
            · show head _ _ _ = some ⟨_, gath _⟩
              rw [gath_ne (by simp)]
              simp only [List.length_append, List.length_cons, List.length_nil]
              show _ = _
              kernel_rfl
          | false =>
            have hcl := n1 hm
            simp only [go_sem, T_3, T_4, T_9, T_51, T_145, T_151, gt00, gt000, gt0, beq0, beq00, natOf0, natOf1, cutRest, cutRest2, leN, Nat.le_refl, ba_toList, le_lt, all145, k145_enc, hm, h5, h6, h7, hlx, Bool.not_false, hcl]
            repeat (refine ⟨by kernel_rfl, ?_⟩)
            refine ⟨(p, y :: q, acc), ⟨?_, ?_, ?_, ?_⟩, ?_, ?_⟩
            · simp only [List.length_cons] at h1 ⊢; omega
            · simp only [List.length_cons] at h2 ⊢; omega
            · simp only [List.length_cons, List.length_append, List.length_nil] at h3 ⊢; omega
            · simpa only [List.filter, hm, List.append_assoc, List.singleton_append, List.nil_append] using h4
            · simp only [List.length_cons, List.length_nil]; omega
            · show head _ _ _ = some ⟨_, gath _⟩
              rw [gath_ne he]
              show _ = _
              kernel_rfl
end Go.Proofs.Ytfdemnefkfkghaa.R
/- Chapter 31's laws: diff.Pairs. -/
namespace Go.Proofs.Ytfdemnefkfkghaa.R
open Go Go.Proofs
set_option linter.unusedSimpArgs false
set_option linter.unusedVariables false
set_option maxRecDepth 10000
set_option maxHeartbeats 4000000

def pairsL (a b : List S145) : List S151 := (bothL (a.length + b.length) a b).filter mayB
theorem call99_nil (a b : List S145) (ha : a.length < 100000000) (hb : b.length < 100000000) (he : pairsL a b = []) (n : Nat) (hn : 1 ≤ n) (rest : Heap) : (callV (LX T fns) n (.clo 99 []) [.fz (a.map k145.enc), .fz (b.map k145.enc), .clo 100 [.ptr 0 0 0]]).run (some (.buf 1 [[.nils]] false true) :: rest) [] =
    some ((.tup [], [(0, some (.buf 1 [[.nils]] false true))]), [0]) := by
  have h := lim99 a b ha hb
  rw [show (bothL (a.length + b.length) a b).filter mayB = [] from he, gath_nil] at h
  have hf : fns 99 = some fn99 := rfl
  unfold callV
  simp only [hf]
  unfold callR
  simp only [fn99, List.cons_append, List.nil_append, List.append_nil, frzArgs, frz, frzAll, frzG, frzGAll, ms2, msUp, List.tail]
  simp only [V.allIds, V.ids, List.append_nil, List.nil_append, collect, List.map_nil, List.contains_nil, Bool.false_eq_true, if_false, Rd.run, Heap.at?, Ob.ids, rowsIds, List.map_cons, List.cons_append, List.contains_cons, Nat.reduceBEq, Bool.or_self, Bool.or_false, Bool.false_or, Bool.or_true, Bool.true_or, if_true]
  unfold withR
  simp only [List.map_cons, List.map_nil, upd1, List.all_nil, List.all_cons, show 0 < n by omega, decide_true, Bool.and_self, if_true, V.reAll, V.re, idx, Nat.beq, cond_true, cond_false, Option.bind_some, Option.map_some, pullObs, Ob.re, reRows, Nat.reduceAdd, h, List.length_cons, List.length_nil, Nat.le_refl]
  unfold afterR
  simp only [V.re, V.reAll, pushObs, back, nth, Ob.re, reRows, Option.bind_some, Option.map_some, List.isEmpty_cons, Bool.false_and, Bool.false_eq_true, if_false, Rd.run, List.append_nil, Nat.reduceAdd]
theorem call99_ne (a b : List S145) (ha : a.length < 100000000) (hb : b.length < 100000000) (he : pairsL a b ≠ []) (n : Nat) (hn : 1 ≤ n) (rest : Heap) : (callV (LX T fns) n (.clo 99 []) [.fz (a.map k145.enc), .fz (b.map k145.enc), .clo 100 [.ptr 0 0 0]]).run (some (.buf 1 [[.nils]] false true) :: rest) [] =
    some ((.tup [], [(0, some (.buf 1 [[.ms n 5 0 (pairsL a b).length none]] false false)), (n, some (.buf 5 ((pairsL a b).map k151.enc) false true))]), [0]) := by
  have h := lim99 a b ha hb
  rw [show (bothL (a.length + b.length) a b).filter mayB = pairsL a b from rfl, gath_ne he] at h
  have hf : fns 99 = some fn99 := rfl
  unfold callV
  simp only [hf]
  unfold callR
  simp only [fn99, List.cons_append, List.nil_append, List.append_nil, frzArgs, frz, frzAll, frzG, frzGAll, ms2, msUp, List.tail]
  simp only [V.allIds, V.ids, List.append_nil, List.nil_append, collect, List.map_nil, List.contains_nil, Bool.false_eq_true, if_false, Rd.run, Heap.at?, Ob.ids, rowsIds, List.map_cons, List.cons_append, List.contains_cons, Nat.reduceBEq, Bool.or_self, Bool.or_false, Bool.false_or, Bool.or_true, Bool.true_or, if_true]
  unfold withR
  simp only [List.map_cons, List.map_nil, upd1, List.all_nil, List.all_cons, show 0 < n by omega, decide_true, Bool.and_self, if_true, V.reAll, V.re, idx, Nat.beq, cond_true, cond_false, Option.bind_some, Option.map_some, pullObs, Ob.re, reRows, Nat.reduceAdd, h, List.length_cons, List.length_nil, Nat.le_refl]
  unfold afterR
  simp only [V.re, V.reAll, pushObs, back, nth, Ob.re, reRows, Option.bind_some, Option.map_some, List.isEmpty_cons, Bool.false_and, Bool.false_eq_true, if_false, Rd.run, List.append_nil, Nat.reduceAdd]
  simp only [List.length_cons, List.length_nil, Nat.zero_add, Nat.reduceAdd, Nat.reduceLT, Nat.reduceLeDiff, if_true, Option.map_some, Option.bind_some, Nat.reduceSub, Nat.sub_self, Nat.add_zero]
  show _ = _
  kernel_rfl
theorem lim39_bad (a b : List S145) (ha : a.length < 100000000) (hb : b.length < 100000000) (hr : (riseL a && riseL b) = false) : lim T fns 39 [.fz (a.map k145.enc), .fz (b.map k145.enc)] [] = some (.tup [.fz [], .int .i64 1], []) := by
  refine fn_rule (fn := fn39) rfl rfl (by simp [fn39]) ?_
  unfold fn39
  simp only [Try.f39, Option.getD_some, argEnv, List.map_nil, List.length_nil]
  cases h1 : riseL a with
  | false =>
    simp only [go_sem, T_4, T_9, T_50, T_51, T_145, T_151, T_164, call98 a (by omega), h1]
    show _ = _
    kernel_rfl
  | true =>
    have h2 : riseL b = false := by simpa [h1] using hr
    simp only [go_sem, T_4, T_9, T_50, T_51, T_145, T_151, T_164, call98 a (by omega), call98 b (by omega), h1, h2]
    show _ = _
    kernel_rfl
theorem lim39_ok (a b : List S145) (ha : a.length < 100000000) (hb : b.length < 100000000) (h1 : riseL a = true) (h2 : riseL b = true) : lim T fns 39 [.fz (a.map k145.enc), .fz (b.map k145.enc)] [] = some (.tup [.fz ((pairsL a b).map k151.enc), .int .i64 0], []) := by
  refine fn_rule (fn := fn39) rfl rfl (by simp [fn39]) ?_
  unfold fn39
  simp only [Try.f39, Option.getD_some, argEnv, List.map_nil, List.length_nil]
  rcases Classical.em (pairsL a b = []) with he | he
  · have hc := fun (n : Nat) (hn : 1 ≤ n) (rest : Heap) => call99_nil a b ha hb he n hn rest
    simp only [go_sem, T_4, T_9, T_50, T_51, T_145, T_151, T_164, call98 a (by omega), call98 b (by omega), h1, h2, hc, he, List.map_nil]
    show _ = _
    kernel_rfl
  · have hc := fun (n : Nat) (hn : 1 ≤ n) (rest : Heap) => call99_ne a b ha hb he n hn rest
    simp only [go_sem, T_4, T_9, T_50, T_51, T_145, T_151, T_164, call98 a (by omega), call98 b (by omega), h1, h2, hc]
    generalize pairsL a b = acc
    refine finish_fz ?_
    simp only [frz, frzAll, frzG, frzGAll, ms2, msUp, Rd.run, Heap.at?, List.length_map, Nat.zero_add, Nat.le_refl, and_self, if_true, List.drop_zero, FZ]
    rw [List.take_of_length_le (by simp)]
    show _ = _
    kernel_rfl
end Go.Proofs.Ytfdemnefkfkghaa.R
/- Maps as two rows: what each key has. -/
namespace Go.Proofs.Ytfdemnefkfkghaa.R
open Go
set_option linter.unusedVariables false
set_option linter.unusedSimpArgs false

section
variable {β : Type}
def lookM (k : ByteArray) : List ByteArray → List β → Option β
  | x :: r, v :: s => if x = k then some v else lookM k r s
  | _, _ => none
theorem lookM_map {α : Type} {key : α → ByteArray} {val : α → β} {k : ByteArray} : ∀ {l : List α}, lookM k (l.map key) (l.map val) = (look key k l).map val
  | [] => rfl
  | x :: r => by
    simp only [List.map_cons, lookM, look]
    split
    · rfl
    · exact lookM_map
theorem lookM_lt {k : ByteArray} : ∀ {ks : List ByteArray} {vs : List β}, (∀ x ∈ ks, ltS k x = true) → lookM k ks vs = none
  | [], _, _ => by simp [lookM]
  | x :: r, [], _ => by simp [lookM]
  | x :: r, v :: s, h => by
    have h1 : ¬ x = k := fun e => ltS_ne (h x (.head _)) e.symm
    simp only [lookM, h1, if_false]
    exact lookM_lt fun y hy => h y (.tail _ hy)
theorem pos_here {k x : ByteArray} {r : List ByteArray} (h : ¬ ltS x k = true) : posB k (x :: r) = 0 := by simp only [posB]; rw [if_neg h]
theorem pos_next {k x : ByteArray} {r : List ByteArray} (h : ltS x k = true) : posB k (x :: r) = posB k r + 1 := by simp only [posB]; rw [if_pos h]
theorem has_here {k x : ByteArray} {r : List ByteArray} (h : ¬ ltS x k = true) : hasB k (x :: r) = decide (x = k) := by
  unfold hasB
  rw [pos_here h]
  rfl
theorem has_next {k x : ByteArray} {r : List ByteArray} (h : ltS x k = true) : hasB k (x :: r) = hasB k r := by
  unfold hasB
  rw [pos_next h]
  rfl
theorem gt_of {k x : ByteArray} {r : List ByteArray} (hr : risesK (x :: r) = true) (h : ¬ ltS x k = true) : ∀ y ∈ r, ltS k y = true := fun y hy => by
  have h1 := risesK_lt hr y hy
  cases h2 : ltS k x with
  | true => exact ltS_trans h2 h1
  | false =>
    have := ltS_tri (by simpa using h) h2
    rw [← this]; exact h1
theorem lookM_get {k : ByteArray} : ∀ {ks : List ByteArray} {vs : List β}, risesK ks = true → vs.length = ks.length → lookM k ks vs = if hasB k ks = true then vs[posB k ks]? else none
  | [], vs, _, _ => by simp [lookM, hasB]
  | x :: r, [], _, h => by simp at h
  | x :: r, v :: s, hr, h => by
    simp only [lookM]
    by_cases h1 : ltS x k = true
    · rw [if_neg (ltS_ne h1), has_next h1, pos_next h1, lookM_get (risesK_tail hr) (by simpa using h)]
      rfl
    · rw [has_here h1, pos_here h1]
      by_cases h2 : x = k
      · simp [h2]
      · simp [h2, lookM_lt (gt_of hr h1)]
theorem lookM_has {k : ByteArray} {ks : List ByteArray} {vs : List β} (hr : risesK ks = true) (hl : vs.length = ks.length) : hasB k ks = (lookM k ks vs).isSome := by
  rw [lookM_get hr hl]
  cases h : hasB k ks with
  | false => rfl
  | true =>
    have : posB k ks < vs.length := by
      rw [hl]
      unfold hasB at h
      rcases Nat.lt_or_ge (posB k ks) ks.length with h1 | h1
      · exact h1
      · rw [List.getElem?_eq_none h1] at h; cases h
    rw [if_pos rfl, List.getElem?_eq_getElem this]
    rfl
theorem lookM_set {k j : ByteArray} {c : β} : ∀ {ks : List ByteArray} {vs : List β}, risesK ks = true → vs.length = ks.length → hasB k ks = true → lookM j ks (vs.set (posB k ks) c) = if k = j then some c else lookM j ks vs
  | [], vs, _, _, hb => by simp [hasB] at hb
  | x :: r, [], _, h, _ => by simp at h
  | x :: r, v :: s, hr, h, hb => by
    by_cases h1 : ltS x k = true
    · rw [has_next h1] at hb
      rw [pos_next h1]
      simp only [List.set_cons_succ, lookM]
      rw [lookM_set (risesK_tail hr) (by simpa using h) hb]
      by_cases hx : x = j
      · have : ¬ k = j := fun e => ltS_ne h1 (by rw [hx, e])
        simp [hx, this]
      · simp [hx]
    · rw [has_here h1] at hb
      have hb : x = k := by simpa using hb
      subst hb
      rw [pos_here h1]
      simp only [List.set_cons_zero, lookM]
      split <;> rfl
theorem ins0 {α : Type} (x : α) (l : List α) : l.take 0 ++ [x] ++ l.drop 0 = x :: l := by simp
theorem insS {α : Type} (i : Nat) (x y : α) (l : List α) : (y :: l).take (i + 1) ++ [x] ++ (y :: l).drop (i + 1) = y :: (l.take i ++ [x] ++ l.drop i) := by simp
theorem lookM_ins {k j : ByteArray} {c : β} : ∀ {ks : List ByteArray} {vs : List β}, risesK ks = true → vs.length = ks.length → hasB k ks = false →
    lookM j (ks.take (posB k ks) ++ [k] ++ ks.drop (posB k ks)) (vs.take (posB k ks) ++ [c] ++ vs.drop (posB k ks)) = if k = j then some c else lookM j ks vs
  | [], vs, _, h, _ => by
    obtain rfl : vs = [] := List.eq_nil_of_length_eq_zero (by simpa using h)
    simp [posB, lookM]
  | x :: r, [], _, h, _ => by simp at h
  | x :: r, v :: s, hr, h, hb => by
    by_cases h1 : ltS x k = true
    · rw [has_next h1] at hb
      rw [pos_next h1, insS, insS]
      simp only [lookM]
      rw [lookM_ins (risesK_tail hr) (by simpa using h) hb]
      by_cases hx : x = j
      · have : ¬ k = j := fun e => ltS_ne h1 (by rw [hx, e])
        simp [hx, this]
      · simp [hx]
    · rw [pos_here h1, ins0, ins0]
      simp only [lookM]
theorem delS {α : Type} (i : Nat) (y : α) (l : List α) : (y :: l).take (i + 1) ++ (y :: l).drop (i + 1 + 1) = y :: (l.take i ++ l.drop (i + 1)) := by simp
theorem lookM_del {k j : ByteArray} : ∀ {ks : List ByteArray} {vs : List β}, risesK ks = true → vs.length = ks.length → hasB k ks = true →
    lookM j (ks.take (posB k ks) ++ ks.drop (posB k ks + 1)) (vs.take (posB k ks) ++ vs.drop (posB k ks + 1)) = if k = j then none else lookM j ks vs
  | [], vs, _, _, hb => by simp [hasB] at hb
  | x :: r, [], _, h, _ => by simp at h
  | x :: r, v :: s, hr, h, hb => by
    by_cases h1 : ltS x k = true
    · rw [has_next h1] at hb
      rw [pos_next h1, delS, delS]
      simp only [lookM]
      rw [lookM_del (risesK_tail hr) (by simpa using h) hb]
      by_cases hx : x = j
      · have : ¬ k = j := fun e => ltS_ne h1 (by rw [hx, e])
        simp [hx, this]
      · simp [hx]
    · rw [has_here h1] at hb
      have hb : x = k := by simpa using hb
      subst hb
      rw [pos_here h1]
      simp only [List.take_zero, List.drop_succ_cons, List.drop_zero, List.nil_append, lookM]
      by_cases hx : x = j
      · subst hx
        simp [lookM_lt (risesK_lt hr)]
      · simp [hx]
/-- A key that rises is put, or taken away. -/
theorem del_rises {k : ByteArray} : ∀ {ks : List ByteArray}, risesK ks = true → hasB k ks = true → risesK (ks.take (posB k ks) ++ ks.drop (posB k ks + 1)) = true
  | [], _, hb => by simp [hasB] at hb
  | x :: r, hr, hb => by
    by_cases h1 : ltS x k = true
    · rw [has_next h1] at hb
      rw [pos_next h1, delS]
      refine risesK_cons (del_rises (risesK_tail hr) hb) fun y hy => ?_
      rcases List.mem_append.1 hy with hy | hy
      · exact risesK_lt hr y (List.mem_of_mem_take hy)
      · exact risesK_lt hr y (List.mem_of_mem_drop hy)
    · rw [pos_here h1]
      simpa using risesK_tail hr
/-- Its rows as pairs. -/
theorem zip_look {k : ByteArray} : ∀ {ks : List ByteArray} {vs : List β}, vs.length = ks.length → look Prod.fst k (ks.zip vs) = (lookM k ks vs).map fun v => (k, v)
  | [], vs, _ => by simp [look, lookM]
  | x :: r, [], h => by simp at h
  | x :: r, v :: s, h => by
    simp only [List.zip_cons_cons, look, lookM]
    split
    · rename_i e; subst e; rfl
    · exact zip_look (by simpa using h)
theorem zip_keys : ∀ {ks : List ByteArray} {vs : List β}, vs.length = ks.length → (ks.zip vs).map Prod.fst = ks
  | [], vs, _ => by simp
  | x :: r, [], h => by simp at h
  | x :: r, v :: s, h => by
    simp only [List.zip_cons_cons, List.map_cons]
    rw [zip_keys (by simpa using h)]
end
end Go.Proofs.Ytfdemnefkfkghaa.R
/- Chapter 31's laws: a map's Put behind its Delete. -/
namespace Go.Proofs.Ytfdemnefkfkghaa.R
open Go Go.Proofs
set_option linter.unusedSimpArgs false
set_option linter.unusedVariables false
set_option maxRecDepth 10000
set_option maxHeartbeats 4000000

theorem call103_far (k : ByteArray) (c : ByteArray) (ks : List ByteArray) (vs : List ByteArray) (ex ey : List (List V)) (f g : Bool) (hr : risesK ks = true) (hl : ks.length < 1000000000) (hv : vs.length = ks.length) (hb : hasB k ks = false) (n : Nat) (hn : 6 ≤ n) (o1 o2 o3 : Option Ob) (rest : Heap) :
    (callV (LX T fns) n (.clo 103 []) [.ptr 0 0 0, .str k, valS c]).run (some (mobS 4 5 ks.length) :: o1 :: o2 :: o3 :: some (kob ks ex f) :: some (vobS vs ey g) :: rest) [] =
    some ((.bool true, [(0, some (mobS n (n + 1) (ks.length + 1))), (4, some (kob ks ex true)), (5, some (vobS vs ey true)), (n, some (kob (insAt (posB k ks) k ks) [] false)), (n + 1, some (vobS (insAt (posB k ks) c vs) [] false))]), [5, 4, 0]) := by
  have h := lim103_new k c ks vs ex ey f g hr hl hv hb
  simp only [mobS, kob, vobS, valS, List.append_nil] at h ⊢
  have hf : fns 103 = some fn103 := rfl
  unfold callV
  simp only [hf]
  unfold callR
  simp only [fn103, List.cons_append, List.nil_append, List.append_nil, frzArgs, frz, frzAll, frzG, frzGAll, ms2, msUp, List.tail]
  simp only [V.allIds, V.ids, List.append_nil, List.nil_append, collect, List.map_nil, List.contains_nil, Bool.false_eq_true, if_false, Rd.run, Heap.at?, Ob.ids, rowsIds, List.map_cons, List.cons_append, List.contains_cons, Nat.reduceBEq, Bool.or_self, Bool.or_false, Bool.false_or, Bool.or_true, Bool.true_or, if_true]
  unfold withR
  simp only [List.map_cons, List.map_nil, upd1, List.all_nil, List.all_cons, show 0 < n by omega, show 4 < n by omega, show 5 < n by omega, decide_true, Bool.and_self, if_true, V.reAll, V.re, idx, Nat.beq, cond_true, cond_false, Option.bind_some, Option.map_some, pullObs, Ob.re, reRows, Nat.reduceAdd, h, List.length_cons, List.length_nil, Nat.le_refl]
  unfold afterR
  simp only [V.re, V.reAll, pushObs, back, nth, Ob.re, reRows, Option.bind_some, Option.map_some, List.isEmpty_cons, Bool.false_and, Bool.false_eq_true, if_false, Rd.run, List.append_nil, Nat.reduceAdd]
  simp only [List.length_cons, List.length_nil, Nat.zero_add, Nat.reduceAdd, Nat.reduceLT, Nat.reduceLeDiff, if_true, Option.map_some, Option.bind_some, Nat.reduceSub, Nat.sub_self, Nat.add_zero]
  show _ = _
  kernel_rfl

def mp145 (p : ByteArray × ByteArray) : S145 := ⟨p.1, p.2⟩
def zipS (ks vs : List ByteArray) : List S145 := (ks.zip vs).map mp145
def delM {α : Type} (k : ByteArray) (ks : List ByteArray) (l : List α) : List α := if hasB k ks = true then delAt (posB k ks) l else l
/-- Changes, one by one, upon the map; none: one doesn't fit. -/
def applyY : List S151 → List ByteArray → List ByteArray → Option (List ByteArray × List ByteArray)
  | [], ks, vs => some (ks, vs)
  | c :: r, ks, vs => if hasB c.f0 ks = c.f1 ∧ getM zS c.f0 ks vs = c.f3 then
      (if c.f2 = true then applyY r (insAt (posB c.f0 (delM c.f0 ks ks)) c.f0 (delM c.f0 ks ks)) (insAt (posB c.f0 (delM c.f0 ks ks)) c.f4 (delM c.f0 ks vs)) else applyY r (delM c.f0 ks ks) (delM c.f0 ks vs))
    else none
def applyR (o : Option (List ByteArray × List ByteArray)) : V := match o with
  | none => .tup [.fz [], .int .i64 3]
  | some m => .tup [.fz ((zipS m.1 m.2).map k145.enc), .int .i64 0]
theorem applyY_drop {y : List S151} {j : Nat} (h : j < y.length) {ks vs : List ByteArray} : applyY (y.drop j) ks vs = applyY (y[j] :: y.drop (j + 1)) ks vs := by rw [List.drop_eq_getElem_cons h]
theorem hasB_del {k : ByteArray} {ks : List ByteArray} (hr : risesK ks = true) (hb : hasB k ks = true) : hasB k (delAt (posB k ks) ks) = false := by
  have h1 := lookM_del (j := k) (vs := ks) hr rfl hb
  rw [if_pos rfl] at h1
  rw [show delAt (posB k ks) ks = ks.take (posB k ks) ++ ks.drop (posB k ks + 1) from rfl, lookM_has (vs := ks.take (posB k ks) ++ ks.drop (posB k ks + 1)) (del_rises hr hb) rfl, h1]
  rfl
theorem zipS_succ {ks vs : List ByteArray} {i : Nat} (h : i < ks.length) (h2 : i < vs.length) : zipS (ks.take (i + 1)) (vs.take (i + 1)) = zipS (ks.take i) (vs.take i) ++ [⟨ks[i], vs[i]⟩] := by
  unfold zipS
  rw [List.take_succ_eq_append_getElem h, List.take_succ_eq_append_getElem h2, List.zip_append (by simp; omega)]
  simp [mp145]

/-- The objects while the pairs are gathered. -/
def accP (ks vs : List ByteArray) (ex ey : List (List V)) (acc : List S145) : Heap := match acc with
  | [] => [some (.buf 2 [[.ms 1 1 0 ks.length none, .ms 2 1 0 ks.length none]] false false), some (.buf 1 (ks.map Cd.str.enc ++ ex) false true), some (.buf 1 (vs.map Cd.str.enc ++ ey) false true), some (.buf 1 [[.nils]] false true), some (.buf 1 [[.ptr 0 0 0]] false false), some (.buf 1 [[.int .i64 0]] false true)]
  | acc => [some (.buf 2 [[.ms 1 1 0 ks.length none, .ms 2 1 0 ks.length none]] false false), some (.buf 1 (ks.map Cd.str.enc ++ ex) false true), some (.buf 1 (vs.map Cd.str.enc ++ ey) false true), some (.buf 1 [[.ms 6 2 0 acc.length none]] false false), some (.buf 1 [[.ptr 0 0 0]] false false), some (.buf 1 [[.int .i64 0]] false true), some (.buf 2 (acc.map k145.enc) false true)]
theorem accP_ne {ks vs : List ByteArray} {ex ey : List (List V)} {acc : List S145} (h : acc ≠ []) : accP ks vs ex ey acc = [some (.buf 2 [[.ms 1 1 0 ks.length none, .ms 2 1 0 ks.length none]] false false), some (.buf 1 (ks.map Cd.str.enc ++ ex) false true), some (.buf 1 (vs.map Cd.str.enc ++ ey) false true), some (.buf 1 [[.ms 6 2 0 acc.length none]] false false), some (.buf 1 [[.ptr 0 0 0]] false false), some (.buf 1 [[.int .i64 0]] false true), some (.buf 2 (acc.map k145.enc) false true)] := by
  cases acc with
  | nil => exact absurd rfl h
  | cons a r => rfl
theorem lim41_bad (x : List S145) (y : List S151) (hx : x.length < 1000000000) (hy : y.length < 1000000000) (hb : (riseL x && mayL y) = false) : lim T fns 41 [.fz (x.map k145.enc), .fz (y.map k151.enc)] [] = some (.tup [.fz [], .int .i64 1], []) := by
  refine fn_rule (fn := fn41) rfl rfl (by simp [fn41]) ?_
  unfold fn41
  simp only [Try.f41, Option.getD_some, argEnv, List.map_nil, List.length_nil]
  cases h1 : riseL x with
  | false =>
    simp only [go_sem, T_1, T_3, T_4, T_9, T_50, T_51, T_145, T_151, T_166, call98 x (by omega), h1]
    show _ = _
    kernel_rfl
  | true =>
    have h2 : mayL y = false := by simpa [h1] using hb
    simp only [go_sem, T_1, T_3, T_4, T_9, T_50, T_51, T_145, T_151, T_166, call98 x (by omega), call43 y (by omega), h1, h2]
    show _ = _
    kernel_rfl
end Go.Proofs.Ytfdemnefkfkghaa.R
/- Chapter 31's laws: diff.Apply. -/
namespace Go.Proofs.Ytfdemnefkfkghaa.R
open Go Go.Proofs
set_option linter.unusedSimpArgs false
set_option linter.unusedVariables false
set_option maxRecDepth 10000
set_option maxHeartbeats 4000000

theorem lim41_ok (x : List S145) (y : List S151) (hx : x.length < 100000000) (hy : y.length < 100000000) (h1 : riseL x = true) (h2 : mayL y = true) : lim T fns 41 [.fz (x.map k145.enc), .fz (y.map k151.enc)] [] = some (applyR (applyY y (x.map S145.f0) (x.map S145.f1)), []) := by
  refine fn_rule (fn := fn41) rfl rfl (by simp [fn41]) ?_
  unfold fn41
  simp only [Try.f41, Option.getD_some, argEnv, List.map_nil, List.length_nil]
  simp only [go_sem, T_1, T_3, T_4, T_9, T_50, T_51, T_145, T_151, T_166, call98 x (by omega), call43 y (by omega), h1, h2, call102]
  refine loop_rule (ι := Nat) (S := fun i => ⟨[(1, .fz (y.map k151.enc)), (6, .ptr 0 0 0), (25, .fz (x.map k145.enc)), (26, .int .i64 x.length), (27, .int .i64 i)], [some (mobS 1 2 i), some (kob ((x.take i).map S145.f0) [] false), some (vobS ((x.take i).map S145.f1) [] false)]⟩) (m := fun i => x.length + 1 - i)
    (I := fun i => i ≤ x.length) ?_ 0 _ (by omega) (by kernel_rfl)
  rintro i hi
  have hrx : risesK (x.map S145.f0) = true := (upGo_rises h1).1
  by_cases hlt : i < x.length
  · have hx1 : x[i]? = some x[i] := List.getElem?_eq_getElem hlt
    have hks : ((x.take i).map S145.f0) = (x.map S145.f0).take i := by rw [List.map_take]
    have hall : ∀ k ∈ (x.take i).map S145.f0, ltS k x[i].f0 = true := by
      rw [hks]
      have := rises_before hrx (i := i) (by simpa using hlt)
      simpa using this
    have hlen : ((x.take i).map S145.f0).length = i := by simp; omega
    have hlen2 : ((x.take i).map S145.f1).length = i := by simp; omega
    have hc := fun (n : Nat) (hn : 3 ≤ n) (rest : Heap) => call103_new x[i].f0 x[i].f1 ((x.take i).map S145.f0) ((x.take i).map S145.f1) [] [] false false (by rw [hks]; exact rises_take' i hrx) (by omega) (by omega) (hasB_all hall) n hn rest
    have e1 : insAt i x[i].f0 ((x.take i).map S145.f0) = (x.take (i + 1)).map S145.f0 := by
      rw [show insAt i x[i].f0 ((x.take i).map S145.f0) = insAt ((x.take i).map S145.f0).length x[i].f0 ((x.take i).map S145.f0) by rw [hlen], insAt_end, List.take_succ_eq_append_getElem hlt, List.map_append]
      rfl
    have e2 : insAt i x[i].f1 ((x.take i).map S145.f1) = (x.take (i + 1)).map S145.f1 := by
      rw [show insAt i x[i].f1 ((x.take i).map S145.f1) = insAt ((x.take i).map S145.f1).length x[i].f1 ((x.take i).map S145.f1) by rw [hlen2], insAt_end, List.take_succ_eq_append_getElem hlt, List.map_append]
      rfl
    rw [posB_all hall, hlen, e1, e2] at hc
    simp only [mobS, kob, vobS, valS, List.append_nil] at hc ⊢
    simp only [go_sem, T_1, T_3, T_4, T_9, T_50, T_51, T_145, T_151, T_166, all145, hlt, hx1, hc, k145_enc, wrap_i64s (show i < 1000000000000000000 by omega)]
    exact ⟨i + 1, by omega, by simp only; omega, by kernel_rfl⟩
  · obtain rfl : i = x.length := by omega
    simp only [List.take_length]
    simp only [go_sem, T_1, T_3, T_4, T_9, T_50, T_51, T_145, T_151, T_166, hlt]
    refine loop_rule (ι := Nat × (List ByteArray × List (List V)) × (List ByteArray × List (List V))) (S := fun p => ⟨[(6, .ptr 0 0 0), (38, .fz (y.map k151.enc)), (39, .int .i64 y.length), (40, .int .i64 p.1)], [some (mobS 1 2 p.2.1.1.length), some (kob p.2.1.1 p.2.1.2 false), some (vobS p.2.2.1 p.2.2.2 false)]⟩) (m := fun p => y.length + 1 - p.1)
      (I := fun p => p.1 ≤ y.length ∧ p.2.2.1.length = p.2.1.1.length ∧ p.2.1.1.length ≤ x.length + p.1 ∧ risesK p.2.1.1 = true ∧ applyY (y.drop p.1) p.2.1.1 p.2.2.1 = applyY y (x.map S145.f0) (x.map S145.f1)) ?_ (0, (x.map S145.f0, []), (x.map S145.f1, [])) _ ⟨by simp, by simp, by simp, hrx, rfl⟩ ?_
    · rintro ⟨j, ⟨ks, ex⟩, ⟨vs, ey⟩⟩ ⟨g1, g2, g3, g4, g5⟩
      simp only at g1 g2 g3 g4 g5
      by_cases hj : j < y.length
      · have hy1 : y[j]? = some y[j] := List.getElem?_eq_getElem hj
        have hget := fun (n : Nat) (hn : 3 ≤ n) (rest : Heap) => call104 y[j].f0 ks vs ex ey false false g4 (by omega) g2 n hn rest
        rw [applyY_drop hj] at g5
        simp only [applyY] at g5
        generalize hp : getM zS y[j].f0 ks vs = p at hget g5
        have hpl := posB_le y[j].f0 ks
        cases hb : hasB y[j].f0 ks with
        | false =>
          have hdel := fun (n : Nat) (hn : 3 ≤ n) (rest : Heap) => call105_no y[j].f0 ks vs ex ey false false g4 (by omega) g2 hb n hn rest
          have hput := fun (n : Nat) (hn : 3 ≤ n) (rest : Heap) => call103_new y[j].f0 y[j].f4 ks vs ex ey false false g4 (by omega) g2 hb n hn rest
          simp only [delM, hb, Bool.false_eq_true, if_false] at g5 hget
          simp only [mobS, kob, vobS, valS] at hget hdel hput ⊢
          cases hc1 : y[j].f1 with
          | true =>
            rw [if_neg (by rw [hc1]; simp)] at g5
            simp only [go_sem, T_1, T_3, T_4, T_9, T_50, T_51, T_145, T_151, T_166, all151, hj, hy1, hget, extractR, k151_enc, hc1, ba_toList, Bool.not_true, Bool.not_false]
            rw [← g5]
            show _ = _
            kernel_rfl
          | false =>
            by_cases hq : p = y[j].f3
            · rw [if_pos ⟨hc1.symm, hq⟩] at g5
              cases hc2 : y[j].f2 with
              | false =>
                rw [if_neg (by rw [hc2]; simp)] at g5
                simp only [go_sem, T_1, T_3, T_4, T_9, T_50, T_51, T_145, T_151, T_166, all151, hj, hy1, hget, hdel, extractR, k151_enc, hc1, hc2, hq, ba_toList, Bool.not_true, Bool.not_false, wrap_i64s (show j < 1000000000000000000 by omega)]
                exact ⟨(j + 1, (ks, ex), (vs, ey)), ⟨by simp only; omega, g2, by simp only; omega, g4, g5⟩, by simp only; omega, by kernel_rfl⟩
              | true =>
                rw [if_pos hc2] at g5
                simp only [go_sem, T_1, T_3, T_4, T_9, T_50, T_51, T_145, T_151, T_166, all151, hj, hy1, hget, hdel, hput, extractR, k151_enc, hc1, hc2, hq, ba_toList, Bool.not_true, Bool.not_false, wrap_i64s (show j < 1000000000000000000 by omega)]
                rw [← insAt_len (x := y[j].f0) hpl]
                exact ⟨(j + 1, (insAt (posB y[j].f0 ks) y[j].f0 ks, []), (insAt (posB y[j].f0 ks) y[j].f4 vs, [])), ⟨by simp only; omega, by simp only; rw [insAt_len hpl, insAt_len (by omega), g2], by simp only; rw [insAt_len hpl]; omega, rises_ins g4 hb, g5⟩, by simp only; omega, by simp only [List.append_nil]; kernel_rfl⟩
            · rw [if_neg (fun h => hq h.2)] at g5
              simp only [go_sem, T_1, T_3, T_4, T_9, T_50, T_51, T_145, T_151, T_166, all151, hj, hy1, hget, extractR, k151_enc, hc1, hq, ba_toList, Bool.not_true, Bool.not_false]
              rw [← g5]
              show _ = _
              kernel_rfl
        | true =>
          have hdel := fun (n : Nat) (hn : 3 ≤ n) (rest : Heap) => call105_yes y[j].f0 ks vs ex ey false false g4 (by omega) g2 hb n hn rest
          have hlt2 := hasB_lt hb
          have hdl : (delAt (posB y[j].f0 ks) ks).length = ks.length - 1 := delAt_len hlt2
          have hdv : (delAt (posB y[j].f0 ks) vs).length = ks.length - 1 := by rw [delAt_len (by omega), g2]
          have hrd : risesK (delAt (posB y[j].f0 ks) ks) = true := del_rises g4 hb
          have hbd := hasB_del g4 hb
          have hput := fun (n : Nat) (hn : 6 ≤ n) (o1 o2 o3 : Option Ob) (rest : Heap) => call103_far y[j].f0 y[j].f4 (delAt (posB y[j].f0 ks) ks) (delAt (posB y[j].f0 ks) vs) [[.str ⟨#[]⟩]] [[.str ⟨#[]⟩]] false false hrd (by omega) (by omega) hbd n hn o1 o2 o3 rest
          rw [hdl] at hput
          simp only [delM, hb, if_true] at g5 hget
          generalize hks1 : delAt (posB y[j].f0 ks) ks = ks1 at hdel hdl hrd hbd hput g5
          generalize hvs1 : delAt (posB y[j].f0 ks) vs = vs1 at hdel hdv hput g5
          have hpl1 := posB_le y[j].f0 ks1
          simp only [mobS, kob, vobS, valS] at hget hdel hput ⊢
          cases hc1 : y[j].f1 with
          | false =>
            rw [if_neg (by rw [hc1]; simp)] at g5
            simp only [go_sem, T_1, T_3, T_4, T_9, T_50, T_51, T_145, T_151, T_166, all151, hj, hy1, hget, extractR, k151_enc, hc1, ba_toList, Bool.not_true, Bool.not_false]
            rw [← g5]
            show _ = _
            kernel_rfl
          | true =>
            by_cases hq : p = y[j].f3
            · rw [if_pos ⟨hc1.symm, hq⟩] at g5
              cases hc2 : y[j].f2 with
              | false =>
                rw [if_neg (by rw [hc2]; simp)] at g5
                simp only [go_sem, T_1, T_3, T_4, T_9, T_50, T_51, T_145, T_151, T_166, all151, hj, hy1, hget, hdel, extractR, k151_enc, hc1, hc2, hq, ba_toList, Bool.not_true, Bool.not_false, wrap_i64s (show j < 1000000000000000000 by omega)]
                exact ⟨(j + 1, (ks1, [[.str ⟨#[]⟩]]), (vs1, [[.str ⟨#[]⟩]])), ⟨by simp only; omega, by simp only; omega, by simp only; omega, hrd, g5⟩, by simp only; omega, by simp only [hdl]; kernel_rfl⟩
              | true =>
                rw [if_pos hc2] at g5
                simp only [go_sem, T_1, T_3, T_4, T_9, T_50, T_51, T_145, T_151, T_166, all151, hj, hy1, hget, hdel, hput, extractR, k151_enc, hc1, hc2, hq, ba_toList, Bool.not_true, Bool.not_false, wrap_i64s (show j < 1000000000000000000 by omega)]
                exact ⟨(j + 1, (insAt (posB y[j].f0 ks1) y[j].f0 ks1, []), (insAt (posB y[j].f0 ks1) y[j].f4 vs1, [])), ⟨by simp only; omega, by simp only; rw [insAt_len hpl1, insAt_len (by omega)]; omega, by simp only; rw [insAt_len hpl1]; omega, rises_ins hrd hbd, g5⟩, by simp only; omega, by simp only [insAt_len hpl1, hdl, List.append_nil]; kernel_rfl⟩
            · rw [if_neg (fun h => hq h.2)] at g5
              simp only [go_sem, T_1, T_3, T_4, T_9, T_50, T_51, T_145, T_151, T_166, all151, hj, hy1, hget, extractR, k151_enc, hc1, hq, ba_toList, Bool.not_true, Bool.not_false]
              rw [← g5]
              show _ = _
              kernel_rfl
      · obtain rfl : j = y.length := by omega
        rw [List.drop_length] at g5
        simp only [applyY] at g5
        have hall := fun (n : Nat) (hn : 3 ≤ n) (rest : Heap) => call106 ks vs ex ey false false n hn rest
        simp only [mobS, kob, vobS] at hall ⊢
        have hf202 : fns 202 = some fn202 := rfl
        simp only [go_sem, T_1, T_3, T_4, T_9, T_50, T_51, T_145, T_151, T_166, hj, hall, hf202]
        refine ⟨⟨rfl, rfl, by simp [fn202]⟩, ?_⟩
        unfold fn202
        simp only [Try.f202, Option.getD_some, argEnv]
        have hz : (0 : Int) = ((0 : Nat) : Int) := rfl
        simp only [go_sem, T_3, T_4, T_9, T_69, T_166, T_225, eqPS, nilCheckR, hz, Nat.zero_le, Nat.le_refl, List.filter, Nat.reduceBEq, Bool.not_false, Bool.not_true]
        repeat (refine ⟨by kernel_rfl, ?_⟩)
        refine iloop_rule (ι := Nat) (S := fun i => ⟨[(0, .undef), (5, .ms 2 1 0 ks.length none), (22, .ms 1 1 0 ks.length none), (23, .int .i64 ks.length), (24, .int .i64 i)], accP ks vs ex ey (zipS (ks.take i) (vs.take i)), [0], none⟩) (m := fun i => ks.length + 1 - i)
          (I := fun i => i ≤ ks.length) ?_ 0 _ (Nat.zero_le _) ?_ ?_ rfl
        · rintro i hi2
          by_cases hi3 : i < ks.length
          · have hi4 : i < vs.length := by omega
            have hv1 : (vs.map Cd.str.enc ++ ey)[i]? = some [.str vs[i]] := by rw [List.getElem?_append_left (by simpa using hi4), List.getElem?_map, List.getElem?_eq_getElem hi4]; rfl
            have hk1 : (ks.map Cd.str.enc ++ ex)[i]? = some [.str ks[i]] := by rw [List.getElem?_append_left (by simpa using hi3), List.getElem?_map, List.getElem?_eq_getElem hi3]; rfl
            have hnext := zipS_succ hi3 hi4
            have hal : (zipS (ks.take i) (vs.take i)).length = i := by simp [zipS]; omega
            generalize hacc : zipS (ks.take i) (vs.take i) = acc at hnext hal
            have ha0 : accP ks vs ex ey [] = [some (.buf 2 [[.ms 1 1 0 ks.length none, .ms 2 1 0 ks.length none]] false false), some (.buf 1 (ks.map Cd.str.enc ++ ex) false true), some (.buf 1 (vs.map Cd.str.enc ++ ey) false true), some (.buf 1 [[.nils]] false true), some (.buf 1 [[.ptr 0 0 0]] false false), some (.buf 1 [[.int .i64 0]] false true)] := rfl
            rcases Classical.em (acc = []) with he | hne
            · subst he
              rw [ha0]
              simp only [go_sem, T_3, T_4, T_9, T_69, T_166, T_225, T_1, T_3, T_4, T_9, T_50, T_51, T_145, T_151, T_166, hi3, hi4, hv1, hk1, all_str, all145, k145_enc, append_nils (ti := ⟨.struct [(0, 9), (1, 9)], 2, 32, .agg [.str ⟨#[]⟩, .str ⟨#[]⟩]⟩) (show 32 ≤ 1000 by decide), wrap_i64s (show i < 1000000000000000000 by omega), List.contains_cons, List.contains_nil, Nat.reduceBEq, Bool.or_false, List.filter, Bool.not_false, Bool.not_true]
              exact ⟨i + 1, by omega, by simp only; omega, by
                show head _ _ _ = some ⟨_, accP ks vs ex ey (zipS (ks.take (i + 1)) (vs.take (i + 1)))⟩
                rw [hnext, List.nil_append, accP_ne (by simp)]
                kernel_rfl, by kernel_rfl, rfl⟩
            · rw [accP_ne hne]
              simp only [go_sem, T_3, T_4, T_9, T_69, T_166, T_225, T_1, T_3, T_4, T_9, T_50, T_51, T_145, T_151, T_166, hi3, hi4, hv1, hk1, all_str, all145, k145_enc, appL_some, show (acc.length + 1) * 32 ≤ 140737488355328 by omega, show acc.length + 1 ≤ 140737488355328 by omega, wrap_i64s (show i < 1000000000000000000 by omega), List.contains_cons, List.contains_nil, Nat.reduceBEq, Bool.or_false, List.filter, Bool.not_false, Bool.not_true]
              exact ⟨i + 1, by omega, by simp only; omega, by
                show head _ _ _ = some ⟨_, accP ks vs ex ey (zipS (ks.take (i + 1)) (vs.take (i + 1)))⟩
                rw [hnext, accP_ne (by simp)]
                simp only [List.map_append, List.map_cons, List.map_nil, List.length_append, List.length_cons, List.length_nil, k145_enc]
                kernel_rfl, by kernel_rfl, rfl⟩
          · obtain rfl : i = ks.length := by omega
            rw [show vs.take ks.length = vs by rw [← g2, List.take_length], List.take_length]
            rw [← g5]
            simp only [applyR]
            generalize hacc : zipS ks vs = acc
            rcases Classical.em (acc = []) with he | hne
            · subst he
              simp only [accP]
              simp only [go_sem, T_3, T_4, T_9, T_69, T_166, T_225, T_1, T_3, T_4, T_9, T_50, T_51, T_145, T_151, T_166, Nat.lt_irrefl]
              show _ = _
              kernel_rfl
            · rw [accP_ne hne]
              simp only [go_sem, T_3, T_4, T_9, T_69, T_166, T_225, T_1, T_3, T_4, T_9, T_50, T_51, T_145, T_151, T_166, Nat.lt_irrefl]
              refine finish_fz ?_
              simp only [frz, frzAll, frzG, frzGAll, ms2, msUp, Rd.run, Heap.at?, List.length_map, Nat.zero_add, Nat.le_refl, and_self, if_true, List.drop_zero, FZ]
              rw [List.take_of_length_le (by simp)]
              show _ = _
              kernel_rfl
        · kernel_rfl
        · kernel_rfl
    · simp only [List.length_map]
      show _ = _
      kernel_rfl
end Go.Proofs.Ytfdemnefkfkghaa.R
/- Calls whose arguments are slices of objects: they are frozen, then the callee's answer is as at plain ones. -/
namespace Go.Proofs.Ytfdemnefkfkghaa.R
open Go
set_option linter.unusedVariables false
set_option linter.unusedSimpArgs false

/-- A slice of an object, looked at. -/
def fzB (p st o l : Nat) (x : Option Ob) : Option (V × Upd × List Nat) := match x with
  | some (.buf st' rows _ true) => if st' = st ∧ o + l ≤ rows.length then some (.fz ((rows.drop o).take l), [(p, some (.buf st rows true true))], [p]) else none
  | _ => none
def fzP (v : V) : Option (V × Upd × List Nat) := if v.plain = true then some (v, [], []) else none
/-- An argument, frozen: its value, what was turned, what was looked at. -/
def fzArg (h : Heap) : V → Option (V × Upd × List Nat)
  | .ms p st o l _ => fzB p st o l (h.at? p)
  | .nils => some (.fz [], [], [])
  | v => fzP v
def fz2 (x y : Option (V × Upd × List Nat)) (r : V × Upd × List Nat → Option (List V × Upd × List Nat)) : Option (List V × Upd × List Nat) := match x with
  | some v => r v
  | none => none
def fzJ (x : Option (V × Upd × List Nat)) (y : Option (List V × Upd × List Nat)) : Option (List V × Upd × List Nat) := match x, y with
  | some (v, u, l), some (r, u', l') => some (v :: r, u ++ u', l' ++ l)
  | _, _ => none
def fzArgs (h : Heap) : List V → Option (List V × Upd × List Nat)
  | [] => some ([], [], [])
  | v :: r => fzJ (fzArg h v) (fzArgs h r)

theorem fzP_frz {α : Type} {v v' : V} {u : Upd} {l : List Nat} (hx : fzP v = some (v', u, l)) (k : V → Upd → Rd α) (h : Heap) (tr : List Nat) : (frz v k).run h tr = (k v' u).run h (l ++ tr) ∧ v'.plain = true := by
  unfold fzP at hx
  split at hx
  · rename_i hp
    cases hx
    exact ⟨by rw [plain_frz k v hp]; rfl, hp⟩
  · cases hx
theorem fzArg_frz {α : Type} {h : Heap} {v v' : V} {u : Upd} {l : List Nat} (hx : fzArg h v = some (v', u, l)) (k : V → Upd → Rd α) (tr : List Nat) : (frz v k).run h tr = (k v' u).run h (l ++ tr) ∧ v'.plain = true := by
  cases v with
  | ms p st o n c =>
    simp only [fzArg, fzB] at hx
    simp only [frz, frzAll, frzG, frzGAll, ms2, msUp, frzG, ms2, msUp, Rd.run]
    cases ho : h.at? p with
    | none => rw [ho] at hx; cases hx
    | some ob =>
      rw [ho] at hx
      cases ob with
      | mp es q => cases hx
      | buf st' rows f q =>
        cases q with
        | false => cases hx
        | true =>
          simp only at hx ⊢
          split at hx
          · rename_i hc
            cases hx
            rw [if_pos hc]
            exact ⟨rfl, rfl⟩
          · cases hx
  | nils =>
    simp only [fzArg] at hx
    cases hx
    exact ⟨by simp only [frz, frzAll, frzG, frzGAll, ms2, msUp, frzG]; rfl, rfl⟩
  | _ => exact fzP_frz hx k h tr
theorem fzArgs_frz {α : Type} {h : Heap} : ∀ {l l' : List V} {u : Upd} {rs : List Nat} {m : List Bool}, fzArgs h l = some (l', u, rs) → m.all id = true → l.length ≤ m.length → ∀ (k : List V → Upd → Rd α) (tr : List Nat), (frzArgs l m k).run h tr = (k l' u).run h (rs ++ tr) ∧ V.allPlain l' = true
  | [], l', u, rs, m, hx, _, _, k, tr => by
    simp only [fzArgs] at hx
    cases hx
    exact ⟨by simp only [frzArgs]; rfl, rfl⟩
  | v :: r, l', u, rs, m, hx, hm, hl, k, tr => by
    cases m with
    | nil => simp at hl
    | cons b m =>
      simp only [List.all_cons, id_eq, Bool.and_eq_true] at hm
      obtain ⟨rfl, hm⟩ := hm
      simp only [fzArgs] at hx
      cases h1 : fzArg h v with
      | none => rw [h1] at hx; simp [fzJ] at hx
      | some x =>
        obtain ⟨v1, u1, l1⟩ := x
        cases h2 : fzArgs h r with
        | none => rw [h1, h2] at hx; simp [fzJ] at hx
        | some y =>
          obtain ⟨r2, u2, l2⟩ := y
          rw [h1, h2] at hx
          simp only [fzJ, Option.some.injEq, Prod.mk.injEq] at hx
          obtain ⟨rfl, rfl, rfl⟩ := hx
          simp only [frzArgs]
          have a := fzArg_frz h1 (fun v u => frzArgs r m fun r u' => k (v :: r) (u ++ u')) tr
          have b := fzArgs_frz h2 hm (by simpa using hl) (fun r u' => k (v1 :: r) (u1 ++ u')) (l1 ++ tr)
          refine ⟨?_, ?_⟩
          · rw [a.1, b.1, List.append_assoc]
          · simp only [V.allPlain, a.2, b.2, Bool.and_self]

noncomputable def fzBad (T : TT) (fns : FuncId → Option AFn) (g : FuncId) (n : Nat) (args : List V) (h : Heap) (tr : List Nat) : Option ((V × Upd) × List Nat) := (callV (LX T fns) n (.clo g []) args).run h tr
noncomputable def fzC (T : TT) (fns : FuncId → Option AFn) (g : FuncId) (n : Nat) (args : List V) (h : Heap) (tr : List Nat) (u : Upd) (rs : List Nat) (y : Option (V × Heap)) : Option ((V × Upd) × List Nat) := match y with
  | some (r, []) => if r.plain = true then some ((r, if r.noFz = true then [] else u), rs ++ tr) else fzBad T fns g n args h tr
  | _ => fzBad T fns g n args h tr
noncomputable def fzCall (T : TT) (fns : FuncId → Option AFn) (g : FuncId) (n : Nat) (args : List V) (h : Heap) (tr : List Nat) (x : Option (List V × Upd × List Nat)) : Option ((V × Upd) × List Nat) := match x with
  | some (args', u, rs) => fzC T fns g n args h tr u rs (lim T fns g args' [])
  | none => fzBad T fns g n args h tr

theorem callFz {T : TT} {fns : FuncId → Option AFn} (g : FuncId) (fn : AFn) (hfn : fns g = some fn) (hp : fn.pfz.all id = true) (np : Nat) (hnp : fn.pfz.length = np) (n : Nat) (args : List V) (h : Heap) (tr : List Nat) (hl : args.length ≤ np) :
    (callV (LX T fns) n (.clo g []) args).run h tr = fzCall T fns g n args h tr (fzArgs h args) := by
  subst hnp
  unfold fzCall
  split
  · rename_i args' u rs hx
    unfold fzC
    split
    · rename_i r hr
      split
      · rename_i hpl
        unfold callV
        simp only [hfn, List.append_nil]
        unfold callR
        have key := fzArgs_frz (α := V × Upd) hx hp hl (fun args u => collect 4096 (V.allIds args) [] fun obs => withR ((LX T fns).call g) n args u obs) tr
        rw [key.1]
        rw [plainAll_ids _ key.2]
        show (withR (lim T fns g) n args' u []).run h (rs ++ tr) = _
        unfold withR
        simp only [List.map_nil, upd1, List.contains_nil, Bool.not_false, List.all_nil, Bool.and_true, plainAll_re _ _ key.2, pullObs, hr, List.length_nil, Nat.le_refl, if_true]
        rw [if_pos (by simp)]
        unfold afterR
        simp only [List.length_nil, plain_re _ _ hpl, pushObs, List.isEmpty_nil, Bool.true_and, List.nil_append]
        split <;> rfl
      · rfl
    · rfl
  · rfl

section
variable {T : TT} {fns : FuncId → Option AFn} {g : FuncId} {n : Nat} {args args' : List V} {h : Heap} {tr rs : List Nat} {u : Upd} {r : V}
theorem fzCall_some : fzCall T fns g n args h tr (some (args', u, rs)) = fzC T fns g n args h tr u rs (lim T fns g args' []) := rfl
theorem fzC_some : fzC T fns g n args h tr u rs (some (r, [])) = if r.plain = true then some ((r, if r.noFz = true then [] else u), rs ++ tr) else fzBad T fns g n args h tr := rfl
theorem fzArgs_nil : fzArgs h [] = some ([], [], []) := rfl
theorem fzArgs_cons {v : V} {r : List V} : fzArgs h (v :: r) = fzJ (fzArg h v) (fzArgs h r) := rfl
theorem fzJ_some {v : V} {l l' : List Nat} {u u' : Upd} {r : List V} : fzJ (some (v, u, l)) (some (r, u', l')) = some (v :: r, u ++ u', l' ++ l) := rfl
theorem fzArg_ms {p st o l : Nat} {c : Option Nat} : fzArg h (.ms p st o l c) = fzB p st o l (h.at? p) := rfl
theorem fzArg_nils : fzArg h .nils = some (.fz [], [], []) := rfl
theorem fzArg_int {k : IntKind} {m : Int} : fzArg h (.int k m) = some (.int k m, [], []) := rfl
theorem fzArg_bool {b : Bool} : fzArg h (.bool b) = some (.bool b, [], []) := rfl
theorem fzArg_str {s : ByteArray} : fzArg h (.str s) = some (.str s, [], []) := rfl
theorem fzArg_fz {rows : List (List V)} : fzArg h (.fz rows) = some (.fz rows, [], []) := rfl
theorem fzArg_agg {cs : List V} : fzArg h (.agg cs) = if V.allPlain cs = true then some (.agg cs, [], []) else none := rfl
theorem fzB_all {p st l : Nat} {rows : List (List V)} {f : Bool} (hl : rows.length = l) : fzB p st 0 l (some (.buf st rows f true)) = some (.fz rows, [(p, some (.buf st rows true true))], [p]) := by
  subst hl
  unfold fzB
  simp
theorem nfz_int (k : IntKind) (n : Int) : V.noFz (.int k n) = true := id rfl
theorem nfz_bool (b : Bool) : V.noFz (.bool b) = true := id rfl
theorem nfz_str (s : ByteArray) : V.noFz (.str s) = true := id rfl
theorem nfz_fz (rows : List (List V)) : V.noFz (.fz rows) = false := id rfl
theorem nfz_agg (cs : List V) : V.noFz (.agg cs) = V.allNoFz cs := id rfl
theorem nfz_tup (cs : List V) : V.noFz (.tup cs) = V.allNoFz cs := id rfl
theorem nfz_nil : V.allNoFz [] = true := id rfl
theorem nfz_cons (v : V) (r : List V) : V.allNoFz (v :: r) = (V.noFz v && V.allNoFz r) := id rfl
end
attribute [go_sem] fzCall_some fzC_some fzArgs_nil fzArgs_cons fzJ_some fzArg_ms fzArg_nils fzArg_int fzArg_bool fzArg_str fzArg_fz fzArg_agg fzB_all nfz_int nfz_bool nfz_str nfz_fz nfz_agg nfz_tup nfz_nil nfz_cons
end Go.Proofs.Ytfdemnefkfkghaa.R
/- Chapter 31's laws: the document's pairs: Get, without, PutPair, Keys. -/
namespace Go.Proofs.Ytfdemnefkfkghaa.R
open Go Go.Proofs
set_option linter.unusedSimpArgs false
set_option linter.unusedVariables false
set_option maxRecDepth 10000
set_option maxHeartbeats 4000000

def valP (o : Option S145) : ByteArray := match o with
  | some x => x.f1
  | none => ⟨#[]⟩
theorem look_drop {α : Type} {key : α → ByteArray} {k : ByteArray} {l : List α} {i : Nat} (h : i < l.length) : look key k (l.drop i) = if key l[i] = k then some l[i] else look key k (l.drop (i + 1)) := by
  rw [List.drop_eq_getElem_cons h]
  rfl
theorem lim108 (l : List S145) (k : ByteArray) (hl : l.length < 1000000000000) : lim T fns 108 [.fz (l.map k145.enc), .str k] [] = some (.tup [.str (valP (lookP k l)), .bool (lookP k l).isSome], []) := by
  refine fn_rule (fn := fn108) rfl rfl (by simp [fn108]) ?_
  unfold fn108
  simp only [Try.f108, Option.getD_some, argEnv, List.map_nil, List.length_nil]
  simp only [go_sem, T_3, T_9, T_51, T_145]
  refine loop_rule (ι := Nat) (S := fun i => ⟨[(0, .fz (l.map k145.enc)), (1, .str k), (8, .int .i64 l.length), (9, .int .i64 i)], []⟩) (m := fun i => l.length + 1 - i)
    (I := fun i => i ≤ l.length ∧ look S145.f0 k (l.drop i) = lookP k l) ?_ 0 _ ⟨by omega, rfl⟩ (by kernel_rfl)
  rintro i ⟨hi, hg⟩
  by_cases hlt : i < l.length
  · have hx : l[i]? = some l[i] := List.getElem?_eq_getElem hlt
    rw [look_drop hlt] at hg
    by_cases hk : l[i].f0 = k
    · rw [if_pos hk] at hg
      simp only [go_sem, T_3, T_9, T_51, T_145, all145, hlt, hx, k145_enc, ba_toList, hk]
      rw [← hg]
      show _ = _
      kernel_rfl
    · rw [if_neg hk] at hg
      simp only [go_sem, T_3, T_9, T_51, T_145, all145, hlt, hx, k145_enc, ba_toList, hk, wrap_i64s (show i < 1000000000000000000 by omega)]
      exact ⟨i + 1, ⟨by omega, hg⟩, by simp only; omega, by kernel_rfl⟩
  · rw [List.drop_eq_nil_of_le (by omega)] at hg
    simp only [go_sem, T_3, T_9, T_51, T_145, hlt]
    rw [← hg]
    show _ = _
    kernel_rfl
theorem call108 (l : List S145) (k : ByteArray) (hl : l.length < 1000000000000) (n : Nat) : callV (LX T fns) n (.clo 108 []) [.fz (l.map k145.enc), .str k] = .pure (.tup [.str (valP (lookP k l)), .bool (lookP k l).isSome], []) := callV_plain (fn := fn108) rfl rfl rfl (lim108 l k hl) n

theorem outK_drop {k : ByteArray} {l : List S145} {i : Nat} (h : i < l.length) : outK S145.f0 k (l.drop i) = if l[i].f0 = k then outK S145.f0 k (l.drop (i + 1)) else l[i] :: outK S145.f0 k (l.drop (i + 1)) := by
  rw [List.drop_eq_getElem_cons h]
  unfold outK
  rw [List.filter_cons]
  by_cases e : l[i].f0 = k <;> simp [e]
theorem lim167 (l : List S145) (k : ByteArray) (hl : l.length < 1000000000) : lim T fns 167 [.fz (l.map k145.enc), .str k] [] = some (.fz ((outK S145.f0 k l).map k145.enc), []) := by
  refine fn_rule (fn := fn167) rfl rfl (by simp [fn167]) ?_
  unfold fn167
  simp only [Try.f167, Option.getD_some, argEnv, List.map_nil, List.length_nil]
  simp only [go_sem, T_1, T_3, T_9, T_51, T_145]
  refine loop_rule (ι := Nat × List S145) (S := fun p => ⟨[(0, .fz (l.map k145.enc)), (1, .str k), (5, .ms 0 2 0 p.2.length none), (9, .int .i64 l.length), (10, .int .i64 p.1)], [some (.buf 2 (p.2.map k145.enc) false true)]⟩) (m := fun p => l.length + 1 - p.1)
    (I := fun p => p.1 ≤ l.length ∧ p.2.length ≤ p.1 ∧ p.2 ++ outK S145.f0 k (l.drop p.1) = outK S145.f0 k l) ?_ (0, []) _ ⟨by omega, by simp, rfl⟩ (by kernel_rfl)
  rintro ⟨i, acc⟩ ⟨hi, ha, hg⟩
  simp only at hi ha hg
  by_cases hlt : i < l.length
  · have hx : l[i]? = some l[i] := List.getElem?_eq_getElem hlt
    rw [outK_drop hlt] at hg
    by_cases hk : l[i].f0 = k
    · rw [if_pos hk] at hg
      simp only [go_sem, T_1, T_3, T_9, T_51, T_145, all145, hlt, hx, k145_enc, ba_toList, hk, wrap_i64s (show i < 1000000000000000000 by omega)]
      exact ⟨(i + 1, acc), ⟨by simp only; omega, by simp only; omega, hg⟩, by simp only; omega, by kernel_rfl⟩
    · rw [if_neg hk] at hg
      simp only [go_sem, T_1, T_3, T_9, T_51, T_145, all145, hlt, hx, k145_enc, ba_toList, hk, show (acc.length + 1) * 32 ≤ 140737488355328 by omega, show acc.length + 1 ≤ 140737488355328 by omega, wrap_i64s (show i < 1000000000000000000 by omega)]
      refine ⟨(i + 1, acc ++ [l[i]]), ⟨by simp only; omega, by simp only [List.length_append, List.length_cons, List.length_nil]; omega, by simpa using hg⟩, by simp only; omega, ?_⟩
      simp only [List.map_append, List.map_cons, List.map_nil, List.length_append, List.length_cons, List.length_nil, k145_enc]
      show _ = _
      kernel_rfl
  · rw [List.drop_eq_nil_of_le (by omega)] at hg
    have hg2 : acc = outK S145.f0 k l := by simpa [outK] using hg
    simp only [go_sem, T_1, T_3, T_9, T_51, T_145, hlt]
    rw [← hg2]
    exact finish_ms rfl (by simp)
theorem call167 (l : List S145) (k : ByteArray) (hl : l.length < 1000000000) (n : Nat) : callV (LX T fns) n (.clo 167 []) [.fz (l.map k145.enc), .str k] = .pure (.fz ((outK S145.f0 k l).map k145.enc), []) := callV_plain (fn := fn167) rfl rfl rfl (lim167 l k hl) n
theorem outK_le {k : ByteArray} {l : List S145} : (outK S145.f0 k l).length ≤ l.length := List.length_filter_le _ _
theorem insK_drop {p : S145} {l : List S145} {i : Nat} (h : i < l.length) : insK S145.f0 p (l.drop i) = if ltS p.f0 l[i].f0 = true then p :: l[i] :: l.drop (i + 1) else l[i] :: insK S145.f0 p (l.drop (i + 1)) := by
  rw [List.drop_eq_getElem_cons h]
  rfl
theorem lim163 (l : List S145) (q : S145) (hl : l.length < 100000000) : lim T fns 163 [.fz (l.map k145.enc), .agg [.str q.f0, .str q.f1]] [] = some (.fz ((putK' S145.f0 q l).map k145.enc), []) := by
  refine fn_rule (fn := fn163) rfl rfl (by simp [fn163]) ?_
  unfold fn163
  simp only [Try.f163, Option.getD_some, argEnv, List.map_nil, List.length_nil]
  have hle := outK_le (k := q.f0) (l := l)
  simp only [go_sem, T_1, T_3, T_4, T_9, T_51, T_145, call167 l q.f0 (by omega)]
  unfold putK'
  generalize hl' : outK S145.f0 q.f0 l = l' at hle
  refine loop_rule (ι := Nat × List S145 × Bool) (S := fun p => ⟨[(3, .ptr 0 0 0), (5, .fz (l'.map k145.enc)), (6, .ms 1 2 0 p.2.1.length none), (7, .bool p.2.2), (15, .int .i64 l'.length), (16, .int .i64 p.1)], [some (.buf 2 [[.str q.f0, .str q.f1]] false true), some (.buf 2 (p.2.1.map k145.enc) false true)]⟩) (m := fun p => l'.length + 1 - p.1)
    (I := fun p => p.1 ≤ l'.length ∧ p.2.1.length ≤ p.1 + p.2.2.toNat ∧ p.2.1 ++ (if p.2.2 = true then l'.drop p.1 else insK S145.f0 q (l'.drop p.1)) = insK S145.f0 q l') ?_ (0, [], false) _ ⟨by simp, by simp, rfl⟩ (by kernel_rfl)
  rintro ⟨i, acc, d⟩ ⟨hi, ha, hg⟩
  simp only at hi ha hg
  by_cases hlt : i < l'.length
  · have hx : l'[i]? = some l'[i] := List.getElem?_eq_getElem hlt
    cases d with
    | true =>
      simp only [Bool.toNat_true] at ha
      rw [if_pos rfl, List.drop_eq_getElem_cons hlt] at hg
      simp only [go_sem, T_1, T_3, T_4, T_9, T_51, T_145, all145, hlt, hx, k145_enc, show (acc.length + 1) * 32 ≤ 140737488355328 by omega, show acc.length + 1 ≤ 140737488355328 by omega, wrap_i64s (show i < 1000000000000000000 by omega)]
      refine ⟨(i + 1, acc ++ [l'[i]], true), ⟨by simp only; omega, by simp only [List.length_append, List.length_cons, List.length_nil, Bool.toNat_true, Bool.toNat_false]; omega, by simpa using hg⟩, by simp only; omega, ?_⟩
      simp only [List.map_append, List.map_cons, List.map_nil, List.length_append, List.length_cons, List.length_nil, k145_enc]
      show _ = _
      kernel_rfl
    | false =>
      simp only [Bool.toNat_false] at ha
      rw [if_neg (by simp), insK_drop hlt] at hg
      cases hk : ltS q.f0 l'[i].f0 with
      | true =>
        rw [if_pos hk] at hg
        have hk2 : Op.bytesLess q.f0.toList l'[i].f0.toList = true := hk
        simp only [go_sem, T_1, T_3, T_4, T_9, T_51, T_145, all145, hlt, hx, k145_enc, hk2, show (acc.length + 1) * 32 ≤ 140737488355328 by omega, show acc.length + 1 ≤ 140737488355328 by omega, show (acc.length + 1 + 1) * 32 ≤ 140737488355328 by omega, show acc.length + 1 + 1 ≤ 140737488355328 by omega, wrap_i64s (show i < 1000000000000000000 by omega)]
        refine ⟨(i + 1, (acc ++ [q]) ++ [l'[i]], true), ⟨by simp only; omega, by simp only [List.length_append, List.length_cons, List.length_nil, Bool.toNat_true, Bool.toNat_false]; omega, by simpa using hg⟩, by simp only; omega, ?_⟩
        simp only [List.map_append, List.map_cons, List.map_nil, List.length_append, List.length_cons, List.length_nil, k145_enc]
        show _ = _
        kernel_rfl
      | false =>
        rw [if_neg (by rw [hk]; simp)] at hg
        have hk2 : Op.bytesLess q.f0.toList l'[i].f0.toList = false := hk
        simp only [go_sem, T_1, T_3, T_4, T_9, T_51, T_145, all145, hlt, hx, k145_enc, hk2, show (acc.length + 1) * 32 ≤ 140737488355328 by omega, show acc.length + 1 ≤ 140737488355328 by omega, wrap_i64s (show i < 1000000000000000000 by omega)]
        refine ⟨(i + 1, acc ++ [l'[i]], false), ⟨by simp only; omega, by simp only [List.length_append, List.length_cons, List.length_nil, Bool.toNat_true, Bool.toNat_false]; omega, by simpa using hg⟩, by simp only; omega, ?_⟩
        simp only [List.map_append, List.map_cons, List.map_nil, List.length_append, List.length_cons, List.length_nil, k145_enc]
        show _ = _
        kernel_rfl
  · rw [List.drop_eq_nil_of_le (by omega)] at hg
    cases d with
    | true =>
      simp only [Bool.toNat_true] at ha
      have hg2 : acc = insK S145.f0 q l' := by simpa using hg
      simp only [go_sem, T_1, T_3, T_4, T_9, T_51, T_145, hlt]
      rw [← hg2]
      exact finish_ms rfl (by simp)
    | false =>
      simp only [Bool.toNat_false] at ha
      have hg2 : acc ++ [q] = insK S145.f0 q l' := by simpa [insK] using hg
      simp only [go_sem, T_1, T_3, T_4, T_9, T_51, T_145, hlt, k145_enc, show (acc.length + 1) * 32 ≤ 140737488355328 by omega, show acc.length + 1 ≤ 140737488355328 by omega]
      rw [← hg2]
      refine (finish_ms (rows := acc.map k145.enc ++ [[.str q.f0, .str q.f1]]) rfl (by simp)).trans ?_
      simp [k145_enc]
theorem call163 (l : List S145) (q : S145) (hl : l.length < 100000000) (n : Nat) : callV (LX T fns) n (.clo 163 []) [.fz (l.map k145.enc), .agg [.str q.f0, .str q.f1]] = .pure (.fz ((putK' S145.f0 q l).map k145.enc), []) := callV_plain (fn := fn163) rfl rfl rfl (lim163 l q hl) n
theorem insK_len {p : S145} : ∀ {l : List S145}, (insK S145.f0 p l).length = l.length + 1
  | [] => rfl
  | x :: r => by
    simp only [insK]
    split
    · rfl
    · simp [insK_len (l := r)]
theorem putK'_le {p : S145} {l : List S145} : (putK' S145.f0 p l).length ≤ l.length + 1 := by
  unfold putK'
  rw [insK_len]
  have := outK_le (k := p.f0) (l := l)
  omega
end Go.Proofs.Ytfdemnefkfkghaa.R
/- Chapter 31's laws: the document's Keys. -/
namespace Go.Proofs.Ytfdemnefkfkghaa.R
open Go Go.Proofs
set_option linter.unusedSimpArgs false
set_option linter.unusedVariables false
set_option maxRecDepth 10000
set_option maxHeartbeats 4000000

/-- Keys, put one by one. -/
def addK (l : List S145) (all : List S145) : List S145 := l.foldl (fun all x => putK' S145.f0 ⟨x.f0, ⟨#[]⟩⟩ all) all
theorem addK_drop {l all : List S145} {i : Nat} (h : i < l.length) : addK (l.drop i) all = addK (l.drop (i + 1)) (putK' S145.f0 ⟨l[i].f0, ⟨#[]⟩⟩ all) := by
  rw [List.drop_eq_getElem_cons h]
  rfl
def keysP (a b : List S145) : List S145 := addK b (addK a [])
def keysL (a b : List S145) : List ByteArray := (keysP a b).map S145.f0
/-- Pairs that stand as an empty object, at first. -/
def k5 (o : Option (List S145)) : V := match o with
  | none => .ms 0 2 0 0 none
  | some l => .fz (l.map k145.enc)
def h5 (o : Option (List S145)) : Heap := match o with
  | none => [some (.buf 2 [] false true)]
  | some _ => []
theorem lim96 (a b : List S145) (ha : a.length < 10000000) (hb : b.length < 10000000) : lim T fns 96 [.fz (a.map k145.enc), .fz (b.map k145.enc)] [] = some (.fz ((keysL a b).map Cd.str.enc), []) := by
  refine fn_rule (fn := fn96) rfl rfl (by simp [fn96]) ?_
  unfold fn96
  simp only [Try.f96, Option.getD_some, argEnv, List.map_nil, List.length_nil]
  have hput := fun (l : List S145) (q : S145) (hl : l.length < 100000000) => lim163 l q hl
  have hput0 := fun (k v : ByteArray) => lim163 [] ⟨k, v⟩ (by simp)
  have hput1 := fun (l : List S145) (k v : ByteArray) (hl : l.length < 100000000) => lim163 l ⟨k, v⟩ hl
  simp only [List.map_nil] at hput0 hput1
  have hfz := callFz 163 fn163 (T := T) (fns := fns) rfl rfl 2 rfl
  simp only [go_sem, T_1, T_3, T_9, T_51, T_69, T_145]
  refine loop_rule (ι := Nat × Option (List S145)) (S := fun p => ⟨[(0, .fz (a.map k145.enc)), (1, .fz (b.map k145.enc)), (5, k5 p.2), (12, .int .i64 a.length), (13, .int .i64 p.1)], h5 p.2⟩) (m := fun p => a.length + 1 - p.1)
    (I := fun p => p.1 ≤ a.length ∧ (p.2.getD []).length ≤ p.1 ∧ addK (a.drop p.1) (p.2.getD []) = addK a []) ?_ (0, none) _ ⟨by simp, by simp, rfl⟩ (by kernel_rfl)
  rintro ⟨i, o⟩ ⟨hi, ho, hg⟩
  simp only at hi ho hg
  by_cases hlt : i < a.length
  · have hx : a[i]? = some a[i] := List.getElem?_eq_getElem hlt
    rw [addK_drop hlt] at hg
    rcases o with _ | all
    · simp only [k5, h5]
      simp only [go_sem, T_1, T_3, T_9, T_51, T_69, T_145, all145, hlt, hx, k145_enc, hfz, hput0, wrap_i64s (show i < 1000000000000000000 by omega)]
      have := putK'_le (p := ⟨a[i].f0, ⟨#[]⟩⟩) (l := [])
      exact ⟨(i + 1, some (putK' S145.f0 ⟨a[i].f0, ⟨#[]⟩⟩ [])), ⟨by simp only; omega, by simp only [Option.getD_some, List.length_nil] at this ⊢; omega, hg⟩, by simp only; omega, by kernel_rfl⟩
    · simp only [Option.getD_some] at ho hg
      simp only [k5, h5]
      simp only [go_sem, T_1, T_3, T_9, T_51, T_69, T_145, all145, hlt, hx, k145_enc, hfz, hput1 all _ _ (show all.length < 100000000 by omega), wrap_i64s (show i < 1000000000000000000 by omega)]
      have := putK'_le (p := ⟨a[i].f0, ⟨#[]⟩⟩) (l := all)
      exact ⟨(i + 1, some (putK' S145.f0 ⟨a[i].f0, ⟨#[]⟩⟩ all)), ⟨by simp only; omega, by simp only [Option.getD_some]; omega, hg⟩, by simp only; omega, by kernel_rfl⟩
  · rw [List.drop_eq_nil_of_le (by omega)] at hg
    have hg0 : o.getD [] = addK a [] := hg
    have ho0 : (o.getD []).length ≤ a.length := by omega
    simp only [go_sem, T_1, T_3, T_9, T_51, T_69, T_145, hlt]
    clear hg ho
    refine loop_rule (ι := Nat × Option (List S145)) (S := fun p => ⟨[(1, .fz (b.map k145.enc)), (5, k5 p.2), (26, .int .i64 b.length), (27, .int .i64 p.1)], h5 p.2⟩) (m := fun p => b.length + 1 - p.1)
      (I := fun p => p.1 ≤ b.length ∧ (p.2.getD []).length ≤ a.length + p.1 ∧ addK (b.drop p.1) (p.2.getD []) = keysP a b) ?_ (0, o) _ ⟨by simp, by simpa using ho0, by simp only [List.drop_zero, hg0]; rfl⟩ (by cases o <;> kernel_rfl)
    clear hg0 ho0 hlt hi
    rintro ⟨i, o⟩ ⟨hi, ho, hg⟩
    simp only at hi ho hg
    by_cases hlt : i < b.length
    · have hx : b[i]? = some b[i] := List.getElem?_eq_getElem hlt
      rw [addK_drop hlt] at hg
      rcases o with _ | all
      · simp only [k5, h5]
        simp only [go_sem, T_1, T_3, T_9, T_51, T_69, T_145, all145, hlt, hx, k145_enc, hfz, hput0, wrap_i64s (show i < 1000000000000000000 by omega)]
        have := putK'_le (p := ⟨b[i].f0, ⟨#[]⟩⟩) (l := [])
        exact ⟨(i + 1, some (putK' S145.f0 ⟨b[i].f0, ⟨#[]⟩⟩ [])), ⟨by simp only; omega, by simp only [Option.getD_some, List.length_nil] at this ⊢; omega, hg⟩, by simp only; omega, by kernel_rfl⟩
      · simp only [Option.getD_some] at ho hg
        simp only [k5, h5]
        simp only [go_sem, T_1, T_3, T_9, T_51, T_69, T_145, all145, hlt, hx, k145_enc, hfz, hput1 all _ _ (show all.length < 100000000 by omega), wrap_i64s (show i < 1000000000000000000 by omega)]
        have := putK'_le (p := ⟨b[i].f0, ⟨#[]⟩⟩) (l := all)
        exact ⟨(i + 1, some (putK' S145.f0 ⟨b[i].f0, ⟨#[]⟩⟩ all)), ⟨by simp only; omega, by simp only [Option.getD_some]; omega, hg⟩, by simp only; omega, by kernel_rfl⟩
    · rw [List.drop_eq_nil_of_le (by omega)] at hg
      have hg0 : o.getD [] = keysP a b := hg
      have ho0 : (o.getD []).length ≤ a.length + b.length := by omega
      clear hg ho
      unfold keysL
      rw [← hg0]
      rcases o with _ | all
      · simp only [k5, h5]
        simp only [go_sem, T_1, T_3, T_9, T_51, T_69, T_145, hlt]
        refine loop_rule (ι := Nat) (S := fun i => ⟨[(5, .ms 0 2 0 0 none), (8, .ms 1 1 0 0 none), (41, .int .i64 0), (42, .int .i64 0)], [some (.buf 2 [] false true), some (.buf 1 [] false true)]⟩) (m := fun i => 1)
          (I := fun i => True) ?_ 0 _ trivial (by kernel_rfl)
        rintro i _
        simp only [go_sem, T_1, T_3, T_9, T_51, T_69, T_145, Int.lt_irrefl]
        show _ = _
        kernel_rfl
      · simp only [Option.getD_some] at ho0
        simp only [k5, h5]
        simp only [go_sem, T_1, T_3, T_9, T_51, T_69, T_145, hlt, Option.getD_some]
        refine loop_rule (ι := Nat) (S := fun i => ⟨[(5, .fz (all.map k145.enc)), (8, .ms 0 1 0 (((all.map S145.f0).take i)).length none), (41, .int .i64 all.length), (42, .int .i64 i)], [some (.buf 1 (((all.map S145.f0).take i).map Cd.str.enc) false true)]⟩) (m := fun i => all.length + 1 - i)
          (I := fun i => i ≤ all.length) ?_ 0 _ (Nat.zero_le _) (by kernel_rfl)
        clear hlt hi
        rintro i hi
        by_cases hlt : i < all.length
        · have hx : all[i]? = some all[i] := List.getElem?_eq_getElem hlt
          have hn : (all.map S145.f0).take (i + 1) = (all.map S145.f0).take i ++ [all[i].f0] := by rw [List.take_succ_eq_append_getElem (by simpa using hlt)]; simp
          have hal : ((all.map S145.f0).take i).length = i := by simp; omega
          generalize (all.map S145.f0).take i = acc at hn hal
          simp only [go_sem, T_1, T_3, T_9, T_51, T_69, T_145, all145, all_str, hlt, hx, k145_enc, show (acc.length + 1) * 16 ≤ 140737488355328 by omega, show acc.length + 1 ≤ 140737488355328 by omega, wrap_i64s (show i < 1000000000000000000 by omega)]
          refine ⟨i + 1, by omega, by simp only; omega, ?_⟩
          simp only [hn, List.map_append, List.map_cons, List.map_nil, List.length_append, List.length_cons, List.length_nil, str_enc]
          show _ = _
          kernel_rfl
        · obtain rfl : i = all.length := by omega
          rw [show (all.map S145.f0).take all.length = all.map S145.f0 from List.take_of_length_le (by simp)]
          simp only [go_sem, T_1, T_3, T_9, T_51, T_69, T_145, hlt]
          exact finish_ms rfl (by simp)
end Go.Proofs.Ytfdemnefkfkghaa.R
/- Chapter 31's laws: the document's find, at, Apply of one message, Pairs, Apply. -/
namespace Go.Proofs.Ytfdemnefkfkghaa.R
open Go Go.Proofs
set_option linter.unusedSimpArgs false
set_option linter.unusedVariables false
set_option maxRecDepth 10000
set_option maxHeartbeats 4000000

theorem upGo_any {α : Type} {key : α → ByteArray} : ∀ {l : List α} {p : Option ByteArray}, risesK (l.map key) = true → (∀ x ∈ l.head?, ∀ q ∈ p, ltS q (key x) = true) → upGo anyB key p l = true
  | [], p, _, _ => rfl
  | x :: r, p, h, hp => by
    simp only [upGo, anyB, Bool.true_and, Bool.and_eq_true]
    refine ⟨?_, upGo_any (rises_tl h) fun y hy q hq => ?_⟩
    · cases p with
      | none => rfl
      | some q => exact hp x rfl q rfl
    · simp only [Option.mem_def, Option.some.injEq] at hq
      subst hq
      exact rises_head h y (List.mem_of_mem_head? hy)
theorem riseL_of {l : List S145} (h : risesK (l.map S145.f0) = true) : riseL l = true := upGo_any h (by simp)
theorem riseL_iff {l : List S145} : riseL l = true ↔ risesK (l.map S145.f0) = true := ⟨fun h => (upGo_rises h).1, riseL_of⟩

def posC (k : ByteArray) : List S151 → Nat → Int
  | [], _ => -1
  | c :: r, i => if c.f0 = k then i else posC k r (i + 1)
theorem posC_spec {k : ByteArray} : ∀ (l : List S151) (i : Nat), (lookC k l = none ∧ posC k l i = -1) ∨ ∃ j c, l[j]? = some c ∧ lookC k l = some c ∧ posC k l i = ((i + j : Nat) : Int)
  | [], i => .inl ⟨rfl, rfl⟩
  | c :: r, i => by
    simp only [posC, lookC, look]
    by_cases h : c.f0 = k
    · exact .inr ⟨0, c, rfl, by simp [h], by simp [h]⟩
    · rw [if_neg h, if_neg h]
      rcases posC_spec r (i + 1) with ⟨h1, h2⟩ | ⟨j, d, h1, h2, h3⟩
      · exact .inl ⟨h1, h2⟩
      · exact .inr ⟨j + 1, d, by simpa using h1, h2, by rw [h3]; congr 1; omega⟩
theorem posC_drop {k : ByteArray} {l : List S151} {i : Nat} (h : i < l.length) : posC k (l.drop i) i = if l[i].f0 = k then (i : Int) else posC k (l.drop (i + 1)) (i + 1) := by
  rw [List.drop_eq_getElem_cons h]
  rfl
theorem lim97 (l : List S151) (k : ByteArray) (hl : l.length < 1000000000000) : lim T fns 97 [.fz (l.map k151.enc), .str k] [] = some (.int .i64 (posC k l 0), []) := by
  refine fn_rule (fn := fn97) rfl rfl (by simp [fn97]) ?_
  unfold fn97
  simp only [Try.f97, Option.getD_some, argEnv, List.map_nil, List.length_nil]
  simp only [go_sem, T_3, T_4, T_9, T_50, T_151]
  refine loop_rule (ι := Nat) (S := fun i => ⟨[(0, .fz (l.map k151.enc)), (1, .str k), (7, .int .i64 l.length), (8, .int .i64 i)], []⟩) (m := fun i => l.length + 1 - i)
    (I := fun i => i ≤ l.length ∧ posC k (l.drop i) i = posC k l 0) ?_ 0 _ ⟨by omega, rfl⟩ (by kernel_rfl)
  rintro i ⟨hi, hg⟩
  by_cases hlt : i < l.length
  · have hx : l[i]? = some l[i] := List.getElem?_eq_getElem hlt
    rw [posC_drop hlt] at hg
    by_cases hk : l[i].f0 = k
    · rw [if_pos hk] at hg
      simp only [go_sem, T_3, T_4, T_9, T_50, T_151, all151, hlt, hx, k151_enc, ba_toList, hk]
      rw [← hg]
    · rw [if_neg hk] at hg
      simp only [go_sem, T_3, T_4, T_9, T_50, T_151, all151, hlt, hx, k151_enc, ba_toList, hk, wrap_i64s (show i < 1000000000000000000 by omega)]
      exact ⟨i + 1, ⟨by omega, hg⟩, by simp only; omega, by kernel_rfl⟩
  · rw [List.drop_eq_nil_of_le (by omega)] at hg
    simp only [go_sem, T_3, T_4, T_9, T_50, T_151, hlt]
    rw [← hg]
    show _ = _
    kernel_rfl
theorem call97 (l : List S151) (k : ByteArray) (hl : l.length < 1000000000000) (n : Nat) : callV (LX T fns) n (.clo 97 []) [.fz (l.map k151.enc), .str k] = .pure (.int .i64 (posC k l 0), []) := callV_plain (fn := fn97) rfl rfl rfl (lim97 l k hl) n

def atC (a b : List S145) (k : ByteArray) : S151 := ⟨k, (lookP k a).isSome, (lookP k b).isSome, valP (lookP k a), valP (lookP k b)⟩
def difB (c : S151) : Bool := !(c.f1 == c.f2) || !decide (c.f3 = c.f4)
theorem lim101 (a b : List S145) (k : ByteArray) (ha : a.length < 1000000000000) (hb : b.length < 1000000000000) : lim T fns 101 [.fz (a.map k145.enc), .fz (b.map k145.enc), .str k] [] = some (.agg (k151.enc (atC a b k)), []) := by
  refine fn_rule (fn := fn101) rfl rfl (by simp [fn101]) ?_
  unfold fn101
  simp only [Try.f101, Option.getD_some, argEnv, List.map_nil, List.length_nil]
  simp only [go_sem, T_4, T_9, T_51, T_145, T_151, call108 a k ha, call108 b k hb]
  show _ = _
  kernel_rfl
theorem call101 (a b : List S145) (k : ByteArray) (ha : a.length < 1000000000000) (hb : b.length < 1000000000000) (n : Nat) : callV (LX T fns) n (.clo 101 []) [.fz (a.map k145.enc), .fz (b.map k145.enc), .str k] = .pure (.agg [.str (atC a b k).f0, .bool (atC a b k).f1, .bool (atC a b k).f2, .str (atC a b k).f3, .str (atC a b k).f4], []) := callV_plain (fn := fn101) rfl rfl rfl (lim101 a b k ha hb) n

theorem lim109_put (l : List S145) (k v : ByteArray) (hl : l.length < 100000000) (hr : riseL l = true) : lim T fns 109 [.fz (l.map k145.enc), .fz [[.int .u8 1, .str k, .str v, .int .u32 0, .int .u16 0, .str ⟨#[]⟩]]] [] = some (.tup [.fz ((putK' S145.f0 ⟨k, v⟩ l).map k145.enc), .int .i64 0], []) := by
  refine fn_rule (fn := fn109) rfl rfl (by simp [fn109]) ?_
  unfold fn109
  simp only [Try.f109, Option.getD_some, argEnv, List.map_nil, List.length_nil]
  have h1 : (([[V.int .u8 1, .str k, .str v, .int .u32 0, .int .u16 0, .str ⟨#[]⟩]] : List (List V)).all fun r => r.length == 6) = true := rfl
  have hp := fun n => call163 l ⟨k, v⟩ hl n
  simp only at hp
  simp only [go_sem, T_3, T_4, T_5, T_9, T_42, T_51, T_91, T_96, T_121, T_145, call90 l (by omega), hr]
  refine loop_rule (ι := Bool) (S := fun d => ⟨[(0, .fz ((if d then putK' S145.f0 ⟨k, v⟩ l else l).map k145.enc)), (1, .fz [[.int .u8 1, .str k, .str v, .int .u32 0, .int .u16 0, .str ⟨#[]⟩]]), (12, .int .i64 1), (13, .int .i64 d.toNat)], []⟩) (m := fun d => 2 - d.toNat)
    (I := fun d => True) ?_ false _ trivial (by kernel_rfl)
  rintro d _
  cases d with
  | false =>
    simp only [Bool.toNat_false, if_false, Bool.false_eq_true]
    simp only [go_sem, T_3, T_4, T_5, T_9, T_42, T_51, T_91, T_96, T_121, T_145, hp, gt00, show ((0 : Nat) : Int) < 1 from by decide, show IntKind.i64.wrap (((0 : Nat) : Int) + 1) = ((1 : Nat) : Int) by decide]
    repeat (refine ⟨by kernel_rfl, ?_⟩)
    exact ⟨true, trivial, by simp, by kernel_rfl⟩
  | true =>
    simp only [Bool.toNat_true, if_true]
    simp only [go_sem, T_3, T_4, T_5, T_9, T_42, T_51, T_91, T_96, T_121, T_145, show ¬ ((1 : Nat) : Int) < 1 from by decide]
theorem lim109_del (l : List S145) (k : ByteArray) (hl : l.length < 100000000) (hr : riseL l = true) : lim T fns 109 [.fz (l.map k145.enc), .fz [[.int .u8 2, .str k, .str ⟨#[]⟩, .int .u32 0, .int .u16 0, .str ⟨#[]⟩]]] [] = some (.tup [.fz ((outK S145.f0 k l).map k145.enc), .int .i64 0], []) := by
  refine fn_rule (fn := fn109) rfl rfl (by simp [fn109]) ?_
  unfold fn109
  simp only [Try.f109, Option.getD_some, argEnv, List.map_nil, List.length_nil]
  have hp := fun n => call167 l k (by omega) n
  simp only [go_sem, T_3, T_4, T_5, T_9, T_42, T_51, T_91, T_96, T_121, T_145, call90 l (by omega), hr]
  refine loop_rule (ι := Bool) (S := fun d => ⟨[(0, .fz ((if d then outK S145.f0 k l else l).map k145.enc)), (1, .fz [[.int .u8 2, .str k, .str ⟨#[]⟩, .int .u32 0, .int .u16 0, .str ⟨#[]⟩]]), (12, .int .i64 1), (13, .int .i64 d.toNat)], []⟩) (m := fun d => 2 - d.toNat)
    (I := fun d => True) ?_ false _ trivial (by kernel_rfl)
  rintro d _
  cases d with
  | false =>
    simp only [Bool.toNat_false, if_false, Bool.false_eq_true]
    simp only [go_sem, T_3, T_4, T_5, T_9, T_42, T_51, T_91, T_96, T_121, T_145, hp, gt00, show ((0 : Nat) : Int) < 1 from by decide, show IntKind.i64.wrap (((0 : Nat) : Int) + 1) = ((1 : Nat) : Int) by decide]
    repeat (refine ⟨by kernel_rfl, ?_⟩)
    exact ⟨true, trivial, by simp, by kernel_rfl⟩
  | true =>
    simp only [Bool.toNat_true, if_true]
    simp only [go_sem, T_3, T_4, T_5, T_9, T_42, T_51, T_91, T_96, T_121, T_145, show ¬ ((1 : Nat) : Int) < 1 from by decide]
end Go.Proofs.Ytfdemnefkfkghaa.R
/- Chapter 31's laws: the document's Pairs, Apply; SameTexts, Great. -/
namespace Go.Proofs.Ytfdemnefkfkghaa.R
open Go Go.Proofs
set_option linter.unusedSimpArgs false
set_option linter.unusedVariables false
set_option maxRecDepth 10000
set_option maxHeartbeats 4000000

theorem addK_le {l : List S145} : ∀ {all : List S145}, (addK l all).length ≤ l.length + all.length := by
  induction l with
  | nil => intro all; simp [addK]
  | cons x r ih =>
    intro all
    have h1 := ih (all := putK' S145.f0 ⟨x.f0, ⟨#[]⟩⟩ all)
    have h2 := putK'_le (p := ⟨x.f0, ⟨#[]⟩⟩) (l := all)
    show (addK r _).length ≤ _
    simp only [List.length_cons]
    omega
theorem keysL_le {a b : List S145} : (keysL a b).length ≤ a.length + b.length := by
  unfold keysL keysP
  rw [List.length_map]
  have h1 := addK_le (l := b) (all := addK a [])
  have h2 := addK_le (l := a) (all := [])
  simp only [List.length_nil] at h2
  omega
theorem filter_take_succ {α β : Type} {f : α → β} {p : β → Bool} {l : List α} {i : Nat} (h : i < l.length) : ((l.take (i + 1)).map f).filter p = ((l.take i).map f).filter p ++ (if p (f l[i]) = true then [f l[i]] else []) := by
  rw [List.take_succ_eq_append_getElem h, List.map_append, List.filter_append]
  simp only [List.map_cons, List.map_nil, List.filter]
  cases p (f l[i]) <;> simp
def refPairs (a b : List S145) : List S151 := ((keysL a b).map (atC a b)).filter difB
theorem lim40_bad (a b : List S145) (ha : a.length < 10000000) (hb : b.length < 10000000) (hr : (riseL a && riseL b) = false) : lim T fns 40 [.fz (a.map k145.enc), .fz (b.map k145.enc)] [] = some (.tup [.fz [], .int .i64 1], []) := by
  refine fn_rule (fn := fn40) rfl rfl (by simp [fn40]) ?_
  unfold fn40
  simp only [Try.f40, Option.getD_some, argEnv, List.map_nil, List.length_nil]
  cases h1 : riseL a with
  | false =>
    simp only [go_sem, T_1, T_3, T_4, T_9, T_50, T_51, T_69, T_145, T_151, call90 a (by omega), h1]
    show _ = _
    kernel_rfl
  | true =>
    have h2 : riseL b = false := by simpa [h1] using hr
    simp only [go_sem, T_1, T_3, T_4, T_9, T_50, T_51, T_69, T_145, T_151, call90 a (by omega), call90 b (by omega), h1, h2]
    show _ = _
    kernel_rfl
theorem call96 (a b : List S145) (ha : a.length < 10000000) (hb : b.length < 10000000) (n : Nat) : callV (LX T fns) n (.clo 96 []) [.fz (a.map k145.enc), .fz (b.map k145.enc)] = .pure (.fz ((keysL a b).map Cd.str.enc), []) := callV_plain (fn := fn96) rfl rfl rfl (lim96 a b ha hb) n
theorem lim40_ok (a b : List S145) (ha : a.length < 10000000) (hb : b.length < 10000000) (h1 : riseL a = true) (h2 : riseL b = true) : lim T fns 40 [.fz (a.map k145.enc), .fz (b.map k145.enc)] [] = some (.tup [.fz ((refPairs a b).map k151.enc), .int .i64 0], []) := by
  refine fn_rule (fn := fn40) rfl rfl (by simp [fn40]) ?_
  unfold fn40
  simp only [Try.f40, Option.getD_some, argEnv, List.map_nil, List.length_nil]
  have hkl := keysL_le (a := a) (b := b)
  simp only [go_sem, T_1, T_3, T_4, T_9, T_50, T_51, T_69, T_145, T_151, call90 a (by omega), call90 b (by omega), h1, h2, call96 a b ha hb]
  unfold refPairs
  generalize keysL a b = ks at hkl
  refine loop_rule (ι := Nat) (S := fun i => ⟨[(0, .fz (a.map k145.enc)), (1, .fz (b.map k145.enc)), (6, .ms 0 5 0 (((ks.take i).map (atC a b)).filter difB).length none), (7, .fz (ks.map Cd.str.enc)), (24, .int .i64 ks.length), (25, .int .i64 i)], [some (.buf 5 ((((ks.take i).map (atC a b)).filter difB).map k151.enc) false true)]⟩) (m := fun i => ks.length + 1 - i)
    (I := fun i => i ≤ ks.length) ?_ 0 _ (Nat.zero_le _) (by kernel_rfl)
  rintro i hi
  by_cases hlt : i < ks.length
  · have hx : ks[i]? = some ks[i] := List.getElem?_eq_getElem hlt
    have hn := filter_take_succ (f := atC a b) (p := difB) hlt
    have hal : (((ks.take i).map (atC a b)).filter difB).length ≤ i := Nat.le_trans (List.length_filter_le _ _) (by simp; omega)
    generalize ((ks.take i).map (atC a b)).filter difB = acc at hn hal
    have hat := fun n => call101 a b ks[i] (by omega) (by omega) n
    generalize atC a b ks[i] = c at hn hat
    have yes : difB c = true → ∃ j, j ≤ ks.length ∧ ks.length + 1 - j < ks.length + 1 - i ∧ (acc ++ [c] = ((ks.take j).map (atC a b)).filter difB) ∧ j = i + 1 := fun hd => ⟨i + 1, by omega, by omega, by rw [hn, if_pos hd], rfl⟩
    have no : difB c = false → ∃ j, j ≤ ks.length ∧ ks.length + 1 - j < ks.length + 1 - i ∧ (acc = ((ks.take j).map (atC a b)).filter difB) ∧ j = i + 1 := fun hd => ⟨i + 1, by omega, by omega, by rw [hn, hd]; simp, rfl⟩
    by_cases h3 : c.f1 = c.f2
    · have h3b : (c.f1 == c.f2) = true := by simpa using h3
      by_cases h4 : c.f3 = c.f4
      · obtain ⟨j, j1, j2, j3, rfl⟩ := no (by simp [difB, h3, h4])
        simp only [go_sem, T_1, T_3, T_4, T_9, T_50, T_51, T_69, T_145, T_151, all_str, hlt, hx, hat, h3b, h4, ba_toList, wrap_i64s (show i < 1000000000000000000 by omega)]
        refine ⟨i + 1, j1, j2, ?_⟩
        simp only [← j3]
        show _ = _
        kernel_rfl
      · obtain ⟨j, j1, j2, j3, rfl⟩ := yes (by simp [difB, h4])
        simp only [go_sem, T_1, T_3, T_4, T_9, T_50, T_51, T_69, T_145, T_151, all_str, hlt, hx, hat, h3b, h4, ba_toList, show (acc.length + 1) * 56 ≤ 140737488355328 by omega, show acc.length + 1 ≤ 140737488355328 by omega, wrap_i64s (show i < 1000000000000000000 by omega)]
        refine ⟨i + 1, j1, j2, ?_⟩
        simp only [← j3, List.map_append, List.map_cons, List.map_nil, List.length_append, List.length_cons, List.length_nil, k151_enc]
        show _ = _
        kernel_rfl
    · have h3b : (c.f1 == c.f2) = false := by simpa using h3
      obtain ⟨j, j1, j2, j3, rfl⟩ := yes (by simp [difB, h3])
      simp only [go_sem, T_1, T_3, T_4, T_9, T_50, T_51, T_69, T_145, T_151, all_str, hlt, hx, hat, h3b, ba_toList, show (acc.length + 1) * 56 ≤ 140737488355328 by omega, show acc.length + 1 ≤ 140737488355328 by omega, wrap_i64s (show i < 1000000000000000000 by omega)]
      refine ⟨i + 1, j1, j2, ?_⟩
      simp only [← j3, List.map_append, List.map_cons, List.map_nil, List.length_append, List.length_cons, List.length_nil, k151_enc]
      show _ = _
      kernel_rfl
  · obtain rfl : i = ks.length := by omega
    rw [List.take_length]
    generalize (ks.map (atC a b)).filter difB = acc
    simp only [go_sem, T_1, T_3, T_4, T_9, T_50, T_51, T_69, T_145, T_151, hlt]
    refine finish_fz ?_
    simp only [frz, frzAll, frzG, frzGAll, ms2, msUp, Rd.run, Heap.at?, List.length_map, Nat.zero_add, Nat.le_refl, and_self, if_true, List.drop_zero, FZ]
    rw [List.take_of_length_le (by simp)]
    show _ = _
    kernel_rfl

/-- The document's changes upon pairs. -/
def refY (a : List S145) : List S151 → List S145 → Option (List S145)
  | [], out => some out
  | c :: r, out => if (lookP c.f0 a).isSome = c.f1 ∧ valP (lookP c.f0 a) = c.f3 then refY a r (if c.f2 = true then putK' S145.f0 ⟨c.f0, c.f4⟩ out else outK S145.f0 c.f0 out) else none
theorem refY_drop {a : List S145} {y : List S151} {j : Nat} (h : j < y.length) {out : List S145} : refY a (y.drop j) out = refY a (y[j] :: y.drop (j + 1)) out := by rw [List.drop_eq_getElem_cons h]
def refYR (o : Option (List S145)) : V := match o with
  | none => .tup [.fz [], .int .i64 3]
  | some m => .tup [.fz (m.map k145.enc), .int .i64 0]
theorem lim45_bad (x : List S145) (y : List S151) (hx : x.length < 1000000000) (hy : y.length < 1000000000) (hb : (riseL x && mayL y) = false) : lim T fns 45 [.fz (x.map k145.enc), .fz (y.map k151.enc)] [] = some (.tup [.fz [], .int .i64 1], []) := by
  refine fn_rule (fn := fn45) rfl rfl (by simp [fn45]) ?_
  unfold fn45
  simp only [Try.f45, Option.getD_some, argEnv, List.map_nil, List.length_nil]
  cases h1 : riseL x with
  | false =>
    simp only [go_sem, T_1, T_3, T_4, T_5, T_9, T_42, T_50, T_51, T_91, T_96, T_121, T_145, T_151, call90 x (by omega), h1]
    show _ = _
    kernel_rfl
  | true =>
    have h2 : mayL y = false := by simpa [h1] using hb
    simp only [go_sem, T_1, T_3, T_4, T_5, T_9, T_42, T_50, T_51, T_91, T_96, T_121, T_145, T_151, call90 x (by omega), call46 y (by omega), h1, h2]
    show _ = _
    kernel_rfl
theorem lim45_ok (x : List S145) (y : List S151) (hx : x.length < 10000000) (hy : y.length < 10000000) (h1 : riseL x = true) (h2 : mayL y = true) : lim T fns 45 [.fz (x.map k145.enc), .fz (y.map k151.enc)] [] = some (refYR (refY x y x), []) := by
  refine fn_rule (fn := fn45) rfl rfl (by simp [fn45]) ?_
  unfold fn45
  simp only [Try.f45, Option.getD_some, argEnv, List.map_nil, List.length_nil]
  have hfz := callFz 109 fn109 (T := T) (fns := fns) rfl rfl 2 rfl
  simp only [go_sem, T_1, T_3, T_4, T_5, T_9, T_42, T_50, T_51, T_91, T_96, T_121, T_145, T_151, call90 x (by omega), call46 y (by omega), h1, h2]
  refine loop_rule (ι := Nat × List S145) (S := fun p => ⟨[(0, .fz (x.map k145.enc)), (1, .fz (y.map k151.enc)), (6, .ms 0 2 0 0 none), (7, .fz (p.2.map k145.enc)), (27, .int .i64 y.length), (28, .int .i64 p.1)], [some (.buf 2 [] false true)]⟩) (m := fun p => y.length + 1 - p.1)
    (I := fun p => p.1 ≤ y.length ∧ p.2.length ≤ x.length + p.1 ∧ risesK (p.2.map S145.f0) = true ∧ refY x (y.drop p.1) p.2 = refY x y x) ?_ (0, x) _ ⟨by simp, by simp, riseL_iff.1 h1, rfl⟩ (by kernel_rfl)
  rintro ⟨i, out⟩ ⟨hi, ho, hr, hg⟩
  simp only at hi ho hr hg
  by_cases hlt : i < y.length
  · have hy1 : y[i]? = some y[i] := List.getElem?_eq_getElem hlt
    rw [refY_drop hlt] at hg
    simp only [refY] at hg
    have hget := fun n => call108 x y[i].f0 (by omega) n
    generalize hp : valP (lookP y[i].f0 x) = p at hget hg
    generalize hq : (lookP y[i].f0 x).isSome = q at hget hg
    have hput := lim109_put out y[i].f0 y[i].f4 (by omega) (riseL_of hr)
    have hdel := lim109_del out y[i].f0 (by omega) (riseL_of hr)
    by_cases h3 : q = y[i].f1
    · have h3b : (q == y[i].f1) = true := by simpa using h3
      by_cases h4 : p = y[i].f3
      · rw [if_pos ⟨h3, h4⟩] at hg
        cases h5 : y[i].f2 with
        | true =>
          rw [if_pos h5] at hg
          simp only [go_sem, T_1, T_3, T_4, T_5, T_9, T_42, T_50, T_51, T_91, T_96, T_121, T_145, T_151, all151, hlt, hy1, hget, k151_enc, h3b, h4, h5, hfz, hput, ba_toList, wrap_i64s (show i < 1000000000000000000 by omega)]
          have := putK'_le (p := ⟨y[i].f0, y[i].f4⟩) (l := out)
          exact ⟨(i + 1, putK' S145.f0 ⟨y[i].f0, y[i].f4⟩ out), ⟨by simp only; omega, by simp only; omega, putK'_rises hr, hg⟩, by simp only; omega, by kernel_rfl⟩
        | false =>
          rw [if_neg (by rw [h5]; simp)] at hg
          simp only [go_sem, T_1, T_3, T_4, T_5, T_9, T_42, T_50, T_51, T_91, T_96, T_121, T_145, T_151, all151, hlt, hy1, hget, k151_enc, h3b, h4, h5, hfz, hdel, ba_toList, wrap_i64s (show i < 1000000000000000000 by omega)]
          have := outK_le (k := y[i].f0) (l := out)
          exact ⟨(i + 1, outK S145.f0 y[i].f0 out), ⟨by simp only; omega, by simp only; omega, outK_rises hr, hg⟩, by simp only; omega, by kernel_rfl⟩
      · rw [if_neg fun h => h4 h.2] at hg
        simp only [go_sem, T_1, T_3, T_4, T_5, T_9, T_42, T_50, T_51, T_91, T_96, T_121, T_145, T_151, all151, hlt, hy1, hget, k151_enc, h3b, h4, ba_toList]
        rw [← hg]
        show _ = _
        kernel_rfl
    · have h3b : (q == y[i].f1) = false := by simpa using h3
      rw [if_neg fun h => h3 h.1] at hg
      simp only [go_sem, T_1, T_3, T_4, T_5, T_9, T_42, T_50, T_51, T_91, T_96, T_121, T_145, T_151, all151, hlt, hy1, hget, k151_enc, h3b, ba_toList]
      rw [← hg]
      show _ = _
      kernel_rfl
  · rw [List.drop_eq_nil_of_le (by omega)] at hg
    simp only [refY] at hg
    simp only [go_sem, T_1, T_3, T_4, T_5, T_9, T_42, T_50, T_51, T_91, T_96, T_121, T_145, T_151, hlt]
    rw [← hg]
    show _ = _
    kernel_rfl
end Go.Proofs.Ytfdemnefkfkghaa.R
