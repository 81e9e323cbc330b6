/- Parts of the proof of YtoggbcckkjfkhaaGreatRDagWrongAll, one behind the other: R7n, R7o, R7p, R7q, R7r, R7s, R7t, R7u, R7w, R7v, RDagWrongAll. -/
import Derived.Test.YtoggbcckkjfkhaaGreatDW0
import Derived.Test.YtoggbcckkjfkhaaGreatDW1
import Derived.Test.YtoggbcckkjfkhaaGreatDW2
import Derived.Test.YtoggbcckkjfkhaaGreatDW3
import Derived.KernelRfl
/- Chapter 25's law DagWrong: whether what a checkpoint tells may be, the program's way (printed by mk7n.py). -/
namespace Go.Proofs.YtoggbcckkjfkhaaGreat.R
open Go Go.Proofs
set_option linter.unusedSimpArgs false
set_option linter.unusedVariables false
set_option maxRecDepth 10000
set_option maxHeartbeats 4000000

def metaB (m : S28) : Ob := .buf 3 [[.fz (m.f0.map (Cd.int .u32).enc), .fz (m.f1.map k96.enc), .fz (m.f2.map k57.enc)]] false true
theorem lim63 (m : S28) (b : Nat) (hb : b < 4294967296) (hl : m.f0.length < 1000000) : lim T fns 63 [.agg (k28.enc m), .int .u32 b] [] = some (.int .u32 (cnt m b), []) := by
  refine fn_rule (fn := fn63) rfl rfl (by simp [fn63]) ?_
  unfold fn63
  simp only [Tryz.f63, Option.getD_some, argEnv, List.map_nil, List.length_nil]
  have w1 : IntKind.u64.wrap (b : Int) = (b : Int) := by simp only [IntKind.wrap, IntKind.bits, IntKind.signed, Bool.false_and, Bool.false_eq_true, if_false]; omega
  have w2 : IntKind.u64.wrap (m.f0.length : Int) = (m.f0.length : Int) := by simp only [IntKind.wrap, IntKind.bits, IntKind.signed, Bool.false_and, Bool.false_eq_true, if_false]; omega
  unfold cnt
  rw [Int.toNat_natCast]
  by_cases h : b < m.f0.length
  · have x0 : m.f0[b]? = some m.f0[b] := List.getElem?_eq_getElem h
    have h' : ((b : Int) ≥ (m.f0.length : Int)) = False := eq_false (by omega)
    rw [x0]
    simp only [go_sem, T_3, T_9, T_24, T_25, T_26, T_28, T_54, T_55, T_57, T_96, T_179, k28_enc, w1, w2, h, h', x0]
  · have x0 : m.f0[b]? = none := List.getElem?_eq_none (by omega)
    have h' : ((b : Int) ≥ (m.f0.length : Int)) = True := eq_true (by omega)
    rw [x0]
    simp only [go_sem, T_3, T_9, T_24, T_25, T_26, T_28, T_54, T_55, T_57, T_96, T_179, k28_enc, w1, w2, h, h']
theorem callCntP (m : S28) (hm : WfM m) (b : Int) (hb : 0 ≤ b ∧ b < 4294967296) (n : Nat) : callV (LX T fns) n (.clo 63 []) [.agg (k28.enc m), .int .u32 b] = .pure (.int .u32 (cnt m b), []) := by
  obtain ⟨k, rfl⟩ := Int.eq_ofNat_of_zero_le hb.1
  exact callV_plain (fn := fn63) rfl rfl rfl (lim63 m k (by omega) hm.l0) n
def ixP {α : Type} (b : α → Bool) : List α → Nat → Int
  | [], _ => -1
  | x :: l, i => if b x = true then i else ixP b l (i + 1)
theorem ixP_any {α : Type} (b : α → Bool) : ∀ (l : List α) (i : Nat), decide (ixP b l i ≥ 0) = l.any b
  | [], i => by simp [ixP]
  | x :: l, i => by
    unfold ixP
    cases hb : b x with
    | true => simp [hb]
    | false => simp [hb, ixP_any b l (i + 1)]
def loose (m : S28) (r : S96) : Bool := decide (r.f1 > cnt m r.f0)
def lost (m : S28) (v : S57) : Bool := decide (v.f2 = 0) || decide (cnt m v.f1 = 0)
theorem lim62 (m : S28) (hm : WfM m) (r : S96) (hr : 0 ≤ r.f0 ∧ r.f0 < 4294967296) : lim T fns 62 [.agg (k96.enc r), .ptr 0 0 0] [metaB m] = some (.bool (loose m r), [some (metaB m)]) := by
  have hc := fun n => callCntP m hm r.f0 hr n
  refine fn_rule (fn := fn62) rfl rfl (by simp [fn62]) ?_
  unfold fn62
  simp only [Tryz.f62, Option.getD_some, argEnv, List.map_nil, List.length_nil]
  simp only [metaB, loose, k28_enc] at hc ⊢
  simp only [go_sem, T_9, T_24, T_25, T_26, T_28, T_54, T_55, T_57, T_96, k96_enc, hc, List.map_cons, List.map_nil]
  repeat (refine ⟨by kernel_rfl, ?_⟩)
  show _ = _
  kernel_rfl
theorem lim64 (m : S28) (hm : WfM m) (v : S57) (hr : 0 ≤ v.f1 ∧ v.f1 < 4294967296) : lim T fns 64 [.agg (k57.enc v), .ptr 0 0 0] [metaB m] = some (.bool (lost m v), [some (metaB m)]) := by
  have hc := fun n => callCntP m hm v.f1 hr n
  refine fn_rule (fn := fn64) rfl rfl (by simp [fn64]) ?_
  unfold fn64
  simp only [Tryz.f64, Option.getD_some, argEnv, List.map_nil, List.length_nil]
  simp only [metaB, lost, k28_enc] at hc ⊢
  by_cases h1 : v.f2 = 0
  · have e1 : (v.f2 == 0) = true := by simp [h1]
    have d1 : decide (v.f2 = 0) = true := by simp [h1]
    rw [d1, Bool.true_or]
    simp only [go_sem, T_9, T_24, T_25, T_26, T_28, T_54, T_55, T_57, T_96, k57_enc, hc, e1, List.map_cons, List.map_nil]
    show _ = _
    kernel_rfl
  · have e1 : (v.f2 == 0) = false := by simp [h1]
    have d1 : decide (v.f2 = 0) = false := by simp [h1]
    rw [d1, Bool.false_or]
    simp only [go_sem, T_9, T_24, T_25, T_26, T_28, T_54, T_55, T_57, T_96, k57_enc, hc, e1, List.map_cons, List.map_nil]
    show _ = _
    kernel_rfl
theorem callC_loose (m : S28) (hm : WfM m) (r : S96) (hr : 0 ≤ r.f0 ∧ r.f0 < 4294967296) (n : Nat) (hn : 1 ≤ n) (rest : Heap) : (callV (LX T fns) n (.clo 62 [.ptr 0 0 0]) [.agg (k96.enc r)]).run (some (metaB m) :: rest) [] = some ((.bool (loose m r), [(0, some (metaB m))]), [0]) := by
  have h := lim62 m hm r hr
  simp only [metaB, k96_enc] at h ⊢
  have hf : fns 62 = some fn62 := rfl
  unfold callV
  simp only [hf]
  unfold callR
  simp only [fn62, List.cons_append, List.nil_append, List.append_nil, frzArgs, frz, frzAll, frzG, frzGAll, ms2, msUp, List.tail]
  simp only [V.allIds, V.ids, List.append_nil, List.nil_append, collect, List.map_nil, List.contains_nil, Bool.false_eq_true, if_false, Rd.run, Heap.at?, Ob.ids, rowsIds, List.map_cons, List.cons_append, List.contains_cons, Nat.reduceBEq, Bool.or_self, Bool.or_false, Bool.false_or, Bool.or_true, Bool.true_or, if_true]
  unfold withR
  simp only [List.map_cons, List.map_nil, upd1, List.all_nil, List.all_cons, show 0 < n by omega, decide_true, Bool.and_self, if_true, V.reAll, V.re, idx, Nat.beq, cond_true, cond_false, Option.bind_some, Option.map_some, pullObs, Ob.re, reRows, Nat.reduceAdd, h, List.length_cons, List.length_nil, Nat.le_refl]
  unfold afterR
  simp only [V.re, V.reAll, pushObs, back, nth, Ob.re, reRows, Option.bind_some, Option.map_some, List.isEmpty_cons, Bool.false_and, Bool.false_eq_true, if_false, Rd.run, List.append_nil, Nat.reduceAdd]
theorem lim113 (m : S28) (hm : WfM m) (l : List S96) (hl : l.length < 1000000) (hw : ∀ r ∈ l, 0 ≤ r.f0 ∧ r.f0 < 4294967296) : lim T fns 113 [.fz (l.map k96.enc), .clo 62 [.ptr 0 0 0]] [metaB m] = some (.int .i64 (ixP (loose m) l 0), [some (metaB m)]) := by
  refine fn_rule (fn := fn113) rfl rfl (by simp [fn113]) ?_
  unfold fn113
  simp only [Tryz.f113, Option.getD_some, argEnv, List.map_nil, List.length_nil]
  simp only [go_sem, T_3, T_25, T_54, T_96, List.map_cons, List.map_nil]
  refine loop_rule (ι := Nat) (S := fun i => ⟨[(0, .fz (l.map k96.enc)), (1, .clo 62 [.ptr 0 0 0]), (7, .int .i64 l.length), (8, .int .i64 i)], [some (metaB m)]⟩) (m := fun i => l.length + 1 - i) (I := fun i => i ≤ l.length ∧ ixP (loose m) (l.drop i) i = ixP (loose m) l 0) ?_ 0 _ ⟨by omega, rfl⟩ rfl
  intro i ⟨hi, hg⟩
  by_cases hlt : i < l.length
  · have x0 : l[i]? = some l[i] := List.getElem?_eq_getElem hlt
    have hlt' : ((i : Int) < (l.length : Int)) := by omega
    rw [List.drop_eq_getElem_cons hlt, ixP] at hg
    have hc := fun (n : Nat) (hn : 1 ≤ n) (rest : Heap) => callC_loose m hm l[i] (hw _ (List.getElem_mem _)) n hn rest
    simp only [metaB, k96_enc] at hc ⊢
    cases hb : loose m l[i] with
    | true =>
      rw [hb, if_pos rfl] at hg
      rw [hb] at hc
      simp only [go_sem, T_3, T_25, T_54, T_96, hlt, hlt', x0, all96, k96_enc, hc]
      rw [← hg]
      show _ = _
      kernel_rfl
    | false =>
      rw [hb, if_neg (by simp)] at hg
      rw [hb] at hc
      simp only [go_sem, T_3, T_25, T_54, T_96, hlt, hlt', x0, all96, k96_enc, hc, wrap_i64s (show i < 1000000000000000000 by omega)]
      exact ⟨i + 1, ⟨by omega, hg⟩, by simp only; omega, rfl⟩
  · have : i = l.length := by omega
    subst this
    rw [List.drop_eq_nil_of_le (by omega), ixP] at hg
    rw [← hg]
    simp only [metaB]
    simp only [go_sem, T_3, T_25, T_54, T_96, hlt]
    show _ = _
    kernel_rfl
theorem callI_loose (m : S28) (hm : WfM m) (l : List S96) (hl : l.length < 1000000) (hw : ∀ r ∈ l, 0 ≤ r.f0 ∧ r.f0 < 4294967296) (n : Nat) (hn : 1 ≤ n) (rest : Heap) : (callV (LX T fns) n (.clo 113 []) [.fz (l.map k96.enc), .clo 62 [.ptr 0 0 0]]).run (some (metaB m) :: rest) [] = some ((.int .i64 (ixP (loose m) l 0), [(0, some (metaB m))]), [0]) := by
  have h := lim113 m hm l hl hw
  simp only [metaB] at h ⊢
  have hf : fns 113 = some fn113 := rfl
  unfold callV
  simp only [hf]
  unfold callR
  simp only [fn113, List.cons_append, List.nil_append, List.append_nil, frzArgs, frz, frzAll, frzG, frzGAll, ms2, msUp, List.tail]
  simp only [V.allIds, V.ids, List.append_nil, List.nil_append, collect, List.map_nil, List.contains_nil, Bool.false_eq_true, if_false, Rd.run, Heap.at?, Ob.ids, rowsIds, List.map_cons, List.cons_append, List.contains_cons, Nat.reduceBEq, Bool.or_self, Bool.or_false, Bool.false_or, Bool.or_true, Bool.true_or, if_true]
  unfold withR
  simp only [List.map_cons, List.map_nil, upd1, List.all_nil, List.all_cons, show 0 < n by omega, decide_true, Bool.and_self, if_true, V.reAll, V.re, idx, Nat.beq, cond_true, cond_false, Option.bind_some, Option.map_some, pullObs, Ob.re, reRows, Nat.reduceAdd, h, List.length_cons, List.length_nil, Nat.le_refl]
  unfold afterR
  simp only [V.re, V.reAll, pushObs, back, nth, Ob.re, reRows, Option.bind_some, Option.map_some, List.isEmpty_cons, Bool.false_and, Bool.false_eq_true, if_false, Rd.run, List.append_nil, Nat.reduceAdd]
theorem lim65 (m : S28) (hm : WfM m) (l : List S96) (hl : l.length < 1000000) (hw : ∀ r ∈ l, 0 ≤ r.f0 ∧ r.f0 < 4294967296) : lim T fns 65 [.fz (l.map k96.enc), .clo 62 [.ptr 0 0 0]] [metaB m] = some (.bool (l.any (loose m)), [some (metaB m)]) := by
  have hc := fun (n : Nat) (hn : 1 ≤ n) (rest : Heap) => callI_loose m hm l hl hw n hn rest
  have ha := ixP_any (loose m) l 0
  refine fn_rule (fn := fn65) rfl rfl (by simp [fn65]) ?_
  unfold fn65
  simp only [Tryz.f65, Option.getD_some, argEnv, List.map_nil, List.length_nil]
  generalize ixP (loose m) l 0 = j at *
  rw [← ha]
  simp only [metaB] at hc ⊢
  simp only [go_sem, T_3, T_25, T_54, T_96, T_120, hc, List.map_cons, List.map_nil]
  show _ = _
  kernel_rfl
theorem callA_loose (m : S28) (hm : WfM m) (l : List S96) (hl : l.length < 1000000) (hw : ∀ r ∈ l, 0 ≤ r.f0 ∧ r.f0 < 4294967296) (n : Nat) (hn : 1 ≤ n) (rest : Heap) : (callV (LX T fns) n (.clo 65 []) [.fz (l.map k96.enc), .clo 62 [.ptr 0 0 0]]).run (some (metaB m) :: rest) [] = some ((.bool (l.any (loose m)), [(0, some (metaB m))]), [0]) := by
  have h := lim65 m hm l hl hw
  simp only [metaB] at h ⊢
  have hf : fns 65 = some fn65 := rfl
  unfold callV
  simp only [hf]
  unfold callR
  simp only [fn65, List.cons_append, List.nil_append, List.append_nil, frzArgs, frz, frzAll, frzG, frzGAll, ms2, msUp, List.tail]
  simp only [V.allIds, V.ids, List.append_nil, List.nil_append, collect, List.map_nil, List.contains_nil, Bool.false_eq_true, if_false, Rd.run, Heap.at?, Ob.ids, rowsIds, List.map_cons, List.cons_append, List.contains_cons, Nat.reduceBEq, Bool.or_self, Bool.or_false, Bool.false_or, Bool.or_true, Bool.true_or, if_true]
  unfold withR
  simp only [List.map_cons, List.map_nil, upd1, List.all_nil, List.all_cons, show 0 < n by omega, decide_true, Bool.and_self, if_true, V.reAll, V.re, idx, Nat.beq, cond_true, cond_false, Option.bind_some, Option.map_some, pullObs, Ob.re, reRows, Nat.reduceAdd, h, List.length_cons, List.length_nil, Nat.le_refl]
  unfold afterR
  simp only [V.re, V.reAll, pushObs, back, nth, Ob.re, reRows, Option.bind_some, Option.map_some, List.isEmpty_cons, Bool.false_and, Bool.false_eq_true, if_false, Rd.run, List.append_nil, Nat.reduceAdd]
theorem callC_lost (m : S28) (hm : WfM m) (r : S57) (hr : 0 ≤ r.f1 ∧ r.f1 < 4294967296) (n : Nat) (hn : 1 ≤ n) (rest : Heap) : (callV (LX T fns) n (.clo 64 [.ptr 0 0 0]) [.agg (k57.enc r)]).run (some (metaB m) :: rest) [] = some ((.bool (lost m r), [(0, some (metaB m))]), [0]) := by
  have h := lim64 m hm r hr
  simp only [metaB, k57_enc] at h ⊢
  have hf : fns 64 = some fn64 := rfl
  unfold callV
  simp only [hf]
  unfold callR
  simp only [fn64, List.cons_append, List.nil_append, List.append_nil, frzArgs, frz, frzAll, frzG, frzGAll, ms2, msUp, List.tail]
  simp only [V.allIds, V.ids, List.append_nil, List.nil_append, collect, List.map_nil, List.contains_nil, Bool.false_eq_true, if_false, Rd.run, Heap.at?, Ob.ids, rowsIds, List.map_cons, List.cons_append, List.contains_cons, Nat.reduceBEq, Bool.or_self, Bool.or_false, Bool.false_or, Bool.or_true, Bool.true_or, if_true]
  unfold withR
  simp only [List.map_cons, List.map_nil, upd1, List.all_nil, List.all_cons, show 0 < n by omega, decide_true, Bool.and_self, if_true, V.reAll, V.re, idx, Nat.beq, cond_true, cond_false, Option.bind_some, Option.map_some, pullObs, Ob.re, reRows, Nat.reduceAdd, h, List.length_cons, List.length_nil, Nat.le_refl]
  unfold afterR
  simp only [V.re, V.reAll, pushObs, back, nth, Ob.re, reRows, Option.bind_some, Option.map_some, List.isEmpty_cons, Bool.false_and, Bool.false_eq_true, if_false, Rd.run, List.append_nil, Nat.reduceAdd]
theorem lim114 (m : S28) (hm : WfM m) (l : List S57) (hl : l.length < 1000000) (hw : ∀ r ∈ l, 0 ≤ r.f1 ∧ r.f1 < 4294967296) : lim T fns 114 [.fz (l.map k57.enc), .clo 64 [.ptr 0 0 0]] [metaB m] = some (.int .i64 (ixP (lost m) l 0), [some (metaB m)]) := by
  refine fn_rule (fn := fn114) rfl rfl (by simp [fn114]) ?_
  unfold fn114
  simp only [Tryz.f114, Option.getD_some, argEnv, List.map_nil, List.length_nil]
  simp only [go_sem, T_3, T_9, T_26, T_54, T_55, T_57, List.map_cons, List.map_nil]
  refine loop_rule (ι := Nat) (S := fun i => ⟨[(0, .fz (l.map k57.enc)), (1, .clo 64 [.ptr 0 0 0]), (7, .int .i64 l.length), (8, .int .i64 i)], [some (metaB m)]⟩) (m := fun i => l.length + 1 - i) (I := fun i => i ≤ l.length ∧ ixP (lost m) (l.drop i) i = ixP (lost m) l 0) ?_ 0 _ ⟨by omega, rfl⟩ rfl
  intro i ⟨hi, hg⟩
  by_cases hlt : i < l.length
  · have x0 : l[i]? = some l[i] := List.getElem?_eq_getElem hlt
    have hlt' : ((i : Int) < (l.length : Int)) := by omega
    rw [List.drop_eq_getElem_cons hlt, ixP] at hg
    have hc := fun (n : Nat) (hn : 1 ≤ n) (rest : Heap) => callC_lost m hm l[i] (hw _ (List.getElem_mem _)) n hn rest
    simp only [metaB, k57_enc] at hc ⊢
    cases hb : lost m l[i] with
    | true =>
      rw [hb, if_pos rfl] at hg
      rw [hb] at hc
      simp only [go_sem, T_3, T_9, T_26, T_54, T_55, T_57, hlt, hlt', x0, all57, k57_enc, hc]
      rw [← hg]
      show _ = _
      kernel_rfl
    | false =>
      rw [hb, if_neg (by simp)] at hg
      rw [hb] at hc
      simp only [go_sem, T_3, T_9, T_26, T_54, T_55, T_57, hlt, hlt', x0, all57, k57_enc, hc, wrap_i64s (show i < 1000000000000000000 by omega)]
      exact ⟨i + 1, ⟨by omega, hg⟩, by simp only; omega, rfl⟩
  · have : i = l.length := by omega
    subst this
    rw [List.drop_eq_nil_of_le (by omega), ixP] at hg
    rw [← hg]
    simp only [metaB]
    simp only [go_sem, T_3, T_9, T_26, T_54, T_55, T_57, hlt]
    show _ = _
    kernel_rfl
theorem callI_lost (m : S28) (hm : WfM m) (l : List S57) (hl : l.length < 1000000) (hw : ∀ r ∈ l, 0 ≤ r.f1 ∧ r.f1 < 4294967296) (n : Nat) (hn : 1 ≤ n) (rest : Heap) : (callV (LX T fns) n (.clo 114 []) [.fz (l.map k57.enc), .clo 64 [.ptr 0 0 0]]).run (some (metaB m) :: rest) [] = some ((.int .i64 (ixP (lost m) l 0), [(0, some (metaB m))]), [0]) := by
  have h := lim114 m hm l hl hw
  simp only [metaB] at h ⊢
  have hf : fns 114 = some fn114 := rfl
  unfold callV
  simp only [hf]
  unfold callR
  simp only [fn114, List.cons_append, List.nil_append, List.append_nil, frzArgs, frz, frzAll, frzG, frzGAll, ms2, msUp, List.tail]
  simp only [V.allIds, V.ids, List.append_nil, List.nil_append, collect, List.map_nil, List.contains_nil, Bool.false_eq_true, if_false, Rd.run, Heap.at?, Ob.ids, rowsIds, List.map_cons, List.cons_append, List.contains_cons, Nat.reduceBEq, Bool.or_self, Bool.or_false, Bool.false_or, Bool.or_true, Bool.true_or, if_true]
  unfold withR
  simp only [List.map_cons, List.map_nil, upd1, List.all_nil, List.all_cons, show 0 < n by omega, decide_true, Bool.and_self, if_true, V.reAll, V.re, idx, Nat.beq, cond_true, cond_false, Option.bind_some, Option.map_some, pullObs, Ob.re, reRows, Nat.reduceAdd, h, List.length_cons, List.length_nil, Nat.le_refl]
  unfold afterR
  simp only [V.re, V.reAll, pushObs, back, nth, Ob.re, reRows, Option.bind_some, Option.map_some, List.isEmpty_cons, Bool.false_and, Bool.false_eq_true, if_false, Rd.run, List.append_nil, Nat.reduceAdd]
theorem lim66 (m : S28) (hm : WfM m) (l : List S57) (hl : l.length < 1000000) (hw : ∀ r ∈ l, 0 ≤ r.f1 ∧ r.f1 < 4294967296) : lim T fns 66 [.fz (l.map k57.enc), .clo 64 [.ptr 0 0 0]] [metaB m] = some (.bool (l.any (lost m)), [some (metaB m)]) := by
  have hc := fun (n : Nat) (hn : 1 ≤ n) (rest : Heap) => callI_lost m hm l hl hw n hn rest
  have ha := ixP_any (lost m) l 0
  refine fn_rule (fn := fn66) rfl rfl (by simp [fn66]) ?_
  unfold fn66
  simp only [Tryz.f66, Option.getD_some, argEnv, List.map_nil, List.length_nil]
  generalize ixP (lost m) l 0 = j at *
  rw [← ha]
  simp only [metaB] at hc ⊢
  simp only [go_sem, T_3, T_9, T_26, T_54, T_55, T_57, T_121, hc, List.map_cons, List.map_nil]
  show _ = _
  kernel_rfl
theorem callA_lost (m : S28) (hm : WfM m) (l : List S57) (hl : l.length < 1000000) (hw : ∀ r ∈ l, 0 ≤ r.f1 ∧ r.f1 < 4294967296) (n : Nat) (hn : 1 ≤ n) (rest : Heap) : (callV (LX T fns) n (.clo 66 []) [.fz (l.map k57.enc), .clo 64 [.ptr 0 0 0]]).run (some (metaB m) :: rest) [] = some ((.bool (l.any (lost m)), [(0, some (metaB m))]), [0]) := by
  have h := lim66 m hm l hl hw
  simp only [metaB] at h ⊢
  have hf : fns 66 = some fn66 := rfl
  unfold callV
  simp only [hf]
  unfold callR
  simp only [fn66, List.cons_append, List.nil_append, List.append_nil, frzArgs, frz, frzAll, frzG, frzGAll, ms2, msUp, List.tail]
  simp only [V.allIds, V.ids, List.append_nil, List.nil_append, collect, List.map_nil, List.contains_nil, Bool.false_eq_true, if_false, Rd.run, Heap.at?, Ob.ids, rowsIds, List.map_cons, List.cons_append, List.contains_cons, Nat.reduceBEq, Bool.or_self, Bool.or_false, Bool.false_or, Bool.or_true, Bool.true_or, if_true]
  unfold withR
  simp only [List.map_cons, List.map_nil, upd1, List.all_nil, List.all_cons, show 0 < n by omega, decide_true, Bool.and_self, if_true, V.reAll, V.re, idx, Nat.beq, cond_true, cond_false, Option.bind_some, Option.map_some, pullObs, Ob.re, reRows, Nat.reduceAdd, h, List.length_cons, List.length_nil, Nat.le_refl]
  unfold afterR
  simp only [V.re, V.reAll, pushObs, back, nth, Ob.re, reRows, Option.bind_some, Option.map_some, List.isEmpty_cons, Bool.false_and, Bool.false_eq_true, if_false, Rd.run, List.append_nil, Nat.reduceAdd]
end Go.Proofs.YtoggbcckkjfkhaaGreat.R
/- Chapter 25's law DagWrong: meta.May. -/
namespace Go.Proofs.YtoggbcckkjfkhaaGreat.R
open Go Go.Proofs
open Go.Proofs.YtoggbcckkjfkhaaGreat.R.Vol (catP catO mobC kob vobC ksV)
set_option linter.unusedSimpArgs false
set_option linter.unusedVariables false
set_option maxRecDepth 10000
set_option maxHeartbeats 4000000

theorem all_any {α : Type} {p q : α → Bool} : ∀ {l : List α}, (∀ x ∈ l, p x = !q x) → l.all p = !l.any q
  | [], _ => rfl
  | x :: l, h => by
    rw [List.all_cons, List.any_cons, h x (.head _), all_any fun y hy => h y (.tail _ hy)]
    cases q x <;> rfl
theorem cnt_nn {m : S28} (hm : WfM m) (b : Int) : 0 ≤ cnt m b := by
  unfold cnt
  split
  · rename_i n h
    exact (hm.c n (List.mem_of_getElem? h)).1
  · exact Int.le_refl _
theorem metaOK_eq {m : S28} (hm : WfM m) : metaOK m = (((decide (1 ≤ m.f0.length) && decide (m.f0.length ≤ 4096)) && (rfs none m.f1 && volsOK m.f2)) && ((!m.f1.any (loose m)) && (!m.f2.any (lost m)))) := by
  unfold metaOK
  rw [all_any (q := loose m) (fun r hr => by unfold loose; rw [Bool.eq_iff_iff]; simp), all_any (q := lost m) (fun v hv => by
    have h1 := (hm.v v hv).2
    have h2 := cnt_nn hm v.f1
    unfold lost
    rw [Bool.eq_iff_iff]
    simp
    omega)]
theorem pendYes {l : List S96} (h : rfs none l = true) (hl : l.length < 1000000) (hw : ∀ r ∈ l, 0 ≤ r.f1) (n : Nat) : callV (LX T fns) n (.clo 30 []) [.fz (l.map k96.enc)] = .pure (.tup [.ptr n 0 0, .int .i64 0], [(n, some (setO (n + 1))), (n + 1, some (mobU (n + 2) (n + 3) l.length)), (n + 2, some (kobU (ksR l l.length) [] false)), (n + 3, some (vobU (vsR l l.length) [] false))]) := by
  have e := lim30 l hl hw
  unfold pendP at e
  rw [h, if_pos rfl] at e
  exact callV_new (fn := fn30) rfl rfl e rfl rfl rfl
theorem pendNo {l : List S96} (h : rfs none l = false) (hl : l.length < 1000000) (hw : ∀ r ∈ l, 0 ≤ r.f1) (n : Nat) : callV (LX T fns) n (.clo 30 []) [.fz (l.map k96.enc)] = .pure (.tup [.nilp, .int .i64 1], []) := by
  have e := lim30 l hl hw
  rw [pend_bad h.symm] at e
  exact callV_plain (fn := fn30) rfl rfl rfl e n
theorem catYes {l : List S57} (h : volsOK l = true) (hl : l.length < 1000000) (n : Nat) : callV (LX T fns) n (.clo 31 []) [.fz (l.map k57.enc)] = .pure (.tup [.ptr n 0 0, .int .i64 0], [(n, some (catO (n + 1))), (n + 1, some (mobC (n + 2) (n + 3) l.length)), (n + 2, some (kob (ksV l l.length) [] false)), (n + 3, some (vobC l [] false))]) := by
  have e := Vol.lim31 l hl
  unfold catP at e
  rw [h, if_pos rfl] at e
  exact callV_new (fn := fn31) rfl rfl e rfl rfl rfl
theorem catNo {l : List S57} (h : volsOK l = false) (hl : l.length < 1000000) (n : Nat) : callV (LX T fns) n (.clo 31 []) [.fz (l.map k57.enc)] = .pure (.tup [.nilp, .int .i64 1], []) := by
  have e := Vol.lim31 l hl
  rw [Vol.cat_bad h] at e
  exact callV_plain (fn := fn31) rfl rfl rfl e n
theorem z1 : ((1 : Int) != 0) = true := rfl
theorem z0 : ((0 : Int) != 0) = false := rfl
theorem lim28 (m : S28) (hm : WfM m) : lim T fns 28 [.agg (k28.enc m)] [] = some (.bool (metaOK m), []) := by
  have k0 := hm.l0
  have k1 := hm.l1
  have k2 := hm.l2
  have hp1 : ∀ r ∈ m.f1, 0 ≤ r.f1 := fun r hr => (hm.p r hr).2.1
  have hp2 : ∀ r ∈ m.f1, 0 ≤ r.f0 ∧ r.f0 < 4294967296 := fun r hr => (hm.p r hr).1
  have hp3 : ∀ v ∈ m.f2, 0 ≤ v.f1 ∧ v.f1 < 4294967296 := fun v hv => (hm.v v hv).1
  have ha := fun (n : Nat) (hn : 1 ≤ n) (rest : Heap) => callA_loose m hm m.f1 k1 hp2 n hn rest
  have hb := fun (n : Nat) (hn : 1 ≤ n) (rest : Heap) => callA_lost m hm m.f2 k2 hp3 n hn rest
  rw [metaOK_eq hm]
  simp only [k28_enc]
  refine fn_rule (fn := fn28) rfl rfl (by simp [fn28]) ?_
  unfold fn28
  simp only [Tryz.f28, Option.getD_some, argEnv, List.map_nil, List.length_nil]
  by_cases h1 : 1 ≤ m.f0.length
  · have e1 : ((m.f0.length : Int) < 1) = False := eq_false (by omega)
    by_cases h2 : m.f0.length ≤ 4096
    · have e2 : ((m.f0.length : Int) > 4096) = False := eq_false (by omega)
      have d1 : (decide (1 ≤ m.f0.length) && decide (m.f0.length ≤ 4096)) = true := by simp [h1, h2]
      rw [d1, Bool.true_and]
      cases h3 : rfs none m.f1 with
      | false =>
        have hc := fun n => pendNo h3 k1 hp1 n
        simp only [go_sem, T_3, T_4, T_9, T_24, T_25, T_26, T_28, T_34, T_54, T_55, T_57, T_96, T_120, T_121, e1, e2, hc, z1, Bool.false_and]
      | true =>
        have hc := fun n => pendYes h3 k1 hp1 n
        rw [Bool.true_and]
        cases h4 : volsOK m.f2 with
        | false =>
          have hd := fun n => catNo h4 k2 n
          simp only [setO, mobU, kobU, vobU, List.append_nil] at hc
          simp only [go_sem, T_3, T_4, T_9, T_24, T_25, T_26, T_28, T_34, T_54, T_55, T_57, T_96, T_120, T_121, e1, e2, hc, hd, z0, z1, Bool.false_and]
        | true =>
          have hd := fun n => catYes h4 k2 n
          simp only [setO, mobU, kobU, vobU, List.append_nil] at hc
          simp only [catO, mobC, kob, vobC, List.append_nil] at hd
          simp only [metaB] at ha hb
          rw [Bool.true_and]
          cases h5 : m.f1.any (loose m) with
          | true =>
            rw [h5] at ha
            simp only [go_sem, T_3, T_4, T_9, T_24, T_25, T_26, T_28, T_34, T_54, T_55, T_57, T_96, T_120, T_121, e1, e2, hc, hd, ha, hb, z0, z1, Bool.not_true, Bool.false_and]
          | false =>
            rw [h5] at ha
            simp only [go_sem, T_3, T_4, T_9, T_24, T_25, T_26, T_28, T_34, T_54, T_55, T_57, T_96, T_120, T_121, e1, e2, hc, hd, ha, hb, z0, z1, Bool.not_false, Bool.true_and]
    · have e2 : ((m.f0.length : Int) > 4096) = True := eq_true (by omega)
      have d1 : (decide (1 ≤ m.f0.length) && decide (m.f0.length ≤ 4096)) = false := by simp [h2]
      rw [d1, Bool.false_and, Bool.false_and]
      simp only [go_sem, T_3, T_4, T_9, T_24, T_25, T_26, T_28, T_34, T_54, T_55, T_57, T_96, T_120, T_121, e1, e2]
  · have e1 : ((m.f0.length : Int) < 1) = True := eq_true (by omega)
    have d1 : (decide (1 ≤ m.f0.length) && decide (m.f0.length ≤ 4096)) = false := by simp [h1]
    rw [d1, Bool.false_and, Bool.false_and]
    simp only [go_sem, T_3, T_4, T_9, T_24, T_25, T_26, T_28, T_34, T_54, T_55, T_57, T_96, T_120, T_121, e1]
theorem call28 (m : S28) (hm : WfM m) (n : Nat) : callV (LX T fns) n (.clo 28 []) [.agg (k28.enc m)] = .pure (.bool (metaOK m), []) := callV_plain (fn := fn28) rfl rfl rfl (lim28 m hm) n
end Go.Proofs.YtoggbcckkjfkhaaGreat.R
/- Chapter 25's law DagWrong: a cache, a forest. -/
namespace Go.Proofs.YtoggbcckkjfkhaaGreat.R
open Go Go.Proofs
open Go.Proofs.YtoggbcckkjfkhaaGreat.R.Vol (catP catO mobC kob vobC ksV)
set_option linter.unusedSimpArgs false
set_option linter.unusedVariables false
set_option maxRecDepth 10000
set_option maxHeartbeats 4000000

theorem eqPdisk (i r o : Nat) : eqV T 33 (.ptr i r o) .nilp = some false := by
  unfold eqV
  rw [T_33]
theorem lim60 : lim T fns 60 [.ptr 0 0 0] [dskO 1 2, mpO, mpO] = some (.int .i64 60, [some (dskO 1 2), some mpO, some mpO]) := acall_lim (R := 3) (d := 3) (by kernel_rfl)
theorem callBlocks (n : Nat) (hn : 3 ≤ n) (rest : Heap) : (callV (LX T fns) n (.clo 60 []) [.ptr 0 0 0]).run (some (dskO 1 2) :: some mpO :: some mpO :: rest) [] = some ((.int .i64 60, [(0, some (dskO 1 2)), (1, some mpO), (2, some mpO)]), [2, 1, 0]) := by
  have h := lim60
  simp only [dskO, mpO] at h ⊢
  have hf : fns 60 = some fn60 := rfl
  unfold callV
  simp only [hf]
  unfold callR
  simp only [fn60, List.cons_append, List.nil_append, List.append_nil, frzArgs, frz, frzAll, frzG, frzGAll, ms2, msUp, List.tail]
  simp only [V.allIds, V.ids, List.append_nil, List.nil_append, collect, List.map_nil, List.contains_nil, Bool.false_eq_true, if_false, Rd.run, Heap.at?, Ob.ids, rowsIds, List.map_cons, List.cons_append, List.contains_cons, Nat.reduceBEq, Bool.or_self, Bool.or_false, Bool.false_or, Bool.or_true, Bool.true_or, if_true]
  unfold withR
  simp only [List.map_cons, List.map_nil, upd1, List.all_nil, List.all_cons, show 0 < n by omega, show 1 < n by omega, show 2 < n by omega, decide_true, Bool.and_self, if_true, V.reAll, V.re, idx, Nat.beq, cond_true, cond_false, Option.bind_some, Option.map_some, pullObs, Ob.re, reRows, Nat.reduceAdd, h, List.length_cons, List.length_nil, Nat.le_refl]
  unfold afterR
  simp only [V.re, V.reAll, pushObs, back, nth, Ob.re, reRows, Option.bind_some, Option.map_some, List.isEmpty_cons, Bool.false_and, Bool.false_eq_true, if_false, Rd.run, List.append_nil, Nat.reduceAdd]
  try rfl
def confF (c : S23) : Bool := confOK c && decide (sizeP c ≤ 60)
def cchO (c : S23) (j : Nat) : Ob := .buf 10 [.ptr 0 0 0 :: k23.enc c ++ [.map j, .int .i64 0]] false false
theorem lim27 (c : S23) : lim T fns 27 [.ptr 0 0 0, .agg (k23.enc c)] [dskO 1 2, mpO, mpO] =
    some (if confF c = true then (.tup [.ptr 3 0 0, .int .i64 0], [some (dskO 1 2), some mpO, some mpO, some (cchO c 4), some mpO]) else (.tup [.nilp, .int .i64 1], [some (dskO 1 2), some mpO, some mpO])) := by
  have hc := fun n => call59 c n
  have hb := fun (n : Nat) (hn : 3 ≤ n) (rest : Heap) => callBlocks n hn rest
  unfold confF
  cases h1 : confOK c with
  | false =>
    rw [h1] at hc
    rw [Bool.false_and, if_neg (by simp)]
    refine fn_rule (fn := fn27) rfl rfl (by simp [fn27]) ?_
    unfold fn27
    simp only [Tryz.f27, Option.getD_some, argEnv, List.map_nil, List.length_nil]
    simp only [dskO, mpO, k23_enc] at hb hc ⊢
    simp only [go_sem, T_3, T_4, T_23, T_33, T_54, T_117, T_119, T_147, hc, List.map_cons, List.map_nil]
    repeat (refine ⟨by kernel_rfl, ?_⟩)
    show _ = _
    kernel_rfl
  | true =>
    rw [h1] at hc
    have hs := fun n => call61 c h1 n
    rw [Bool.true_and]
    by_cases h2 : sizeP c ≤ 60
    · have f1 : ((60 : Int) < sizeP c) = False := eq_false (by omega)
      rw [if_pos (by simp [h2])]
      refine fn_rule (fn := fn27) rfl rfl (by simp [fn27]) ?_
      unfold fn27
      simp only [Tryz.f27, Option.getD_some, argEnv, List.map_nil, List.length_nil]
      simp only [dskO, mpO, cchO, k23_enc] at hb hc hs ⊢
      generalize sizeP c = z at *
      simp only [go_sem, T_3, T_4, T_23, T_33, T_54, T_117, T_119, T_147, hc, hb, hs, f1, List.map_cons, List.map_nil]
      repeat (refine ⟨by kernel_rfl, ?_⟩)
      show _ = _
      kernel_rfl
    · have f1 : ((60 : Int) < sizeP c) = True := eq_true (by omega)
      rw [if_neg (by simp [h2])]
      refine fn_rule (fn := fn27) rfl rfl (by simp [fn27]) ?_
      unfold fn27
      simp only [Tryz.f27, Option.getD_some, argEnv, List.map_nil, List.length_nil]
      simp only [dskO, mpO, k23_enc] at hb hc hs ⊢
      generalize sizeP c = z at *
      simp only [go_sem, T_3, T_4, T_23, T_33, T_54, T_117, T_119, T_147, hc, hb, hs, f1, List.map_cons, List.map_nil]
      repeat (refine ⟨by kernel_rfl, ?_⟩)
      show _ = _
      kernel_rfl
end Go.Proofs.YtoggbcckkjfkhaaGreat.R
/- Chapter 25's law DagWrong: a forest is loaded. -/
namespace Go.Proofs.YtoggbcckkjfkhaaGreat.R
open Go Go.Proofs
open Go.Proofs.YtoggbcckkjfkhaaGreat.R.Vol (catP catO mobC kob vobC ksV)
set_option linter.unusedSimpArgs false
set_option linter.unusedVariables false
set_option maxRecDepth 10000
set_option maxHeartbeats 4000000

theorem cacheYes {c : S23} (h : confF c = true) (n : Nat) (hn : 3 ≤ n) (rest : Heap) : (callV (LX T fns) n (.clo 27 []) [.ptr 0 0 0, .agg (k23.enc c)]).run (some (dskO 1 2) :: some mpO :: some mpO :: rest) [] = some ((.tup [.ptr n 0 0, .int .i64 0], [(0, some (dskO 1 2)), (1, some mpO), (2, some mpO), (n, some (cchO c (n + 1))), (n + 1, some mpO)]), [2, 1, 0]) := by
  have h := (lim27 c).trans (by rw [if_pos h])
  simp only [dskO, mpO, cchO, k23_enc] at h ⊢
  have hf : fns 27 = some fn27 := rfl
  unfold callV
  simp only [hf]
  unfold callR
  simp only [fn27, List.cons_append, List.nil_append, List.append_nil, frzArgs, frz, frzAll, frzG, frzGAll, ms2, msUp, List.tail]
  simp only [V.allIds, V.ids, List.append_nil, List.nil_append, collect, List.map_nil, List.contains_nil, Bool.false_eq_true, if_false, Rd.run, Heap.at?, Ob.ids, rowsIds, List.map_cons, List.cons_append, List.contains_cons, Nat.reduceBEq, Bool.or_self, Bool.or_false, Bool.false_or, Bool.or_true, Bool.true_or, if_true]
  unfold withR
  simp only [List.map_cons, List.map_nil, upd1, List.all_nil, List.all_cons, show 0 < n by omega, show 1 < n by omega, show 2 < n by omega, decide_true, Bool.and_self, if_true, V.reAll, V.re, idx, Nat.beq, cond_true, cond_false, Option.bind_some, Option.map_some, pullObs, Ob.re, reRows, Nat.reduceAdd, h, List.length_cons, List.length_nil, Nat.le_refl]
  unfold afterR
  simp only [V.re, V.reAll, pushObs, back, nth, Ob.re, reRows, Option.bind_some, Option.map_some, List.isEmpty_cons, Bool.false_and, Bool.false_eq_true, if_false, Rd.run, List.append_nil, Nat.reduceAdd]
  simp only [List.length_cons, List.length_nil, Nat.zero_add, Nat.reduceAdd, Nat.reduceLT, Nat.reduceLeDiff, if_true, Option.map_some, Option.bind_some, Nat.reduceSub, Nat.sub_self, Nat.add_zero]
  show _ = _
  kernel_rfl
theorem cacheNo {c : S23} (h : confF c = false) (n : Nat) (hn : 3 ≤ n) (rest : Heap) : (callV (LX T fns) n (.clo 27 []) [.ptr 0 0 0, .agg (k23.enc c)]).run (some (dskO 1 2) :: some mpO :: some mpO :: rest) [] = some ((.tup [.nilp, .int .i64 1], [(0, some (dskO 1 2)), (1, some mpO), (2, some mpO)]), [2, 1, 0]) := by
  have h := (lim27 c).trans (by rw [if_neg (by simp [h])])
  simp only [dskO, mpO, cchO, k23_enc] at h ⊢
  have hf : fns 27 = some fn27 := rfl
  unfold callV
  simp only [hf]
  unfold callR
  simp only [fn27, List.cons_append, List.nil_append, List.append_nil, frzArgs, frz, frzAll, frzG, frzGAll, ms2, msUp, List.tail]
  simp only [V.allIds, V.ids, List.append_nil, List.nil_append, collect, List.map_nil, List.contains_nil, Bool.false_eq_true, if_false, Rd.run, Heap.at?, Ob.ids, rowsIds, List.map_cons, List.cons_append, List.contains_cons, Nat.reduceBEq, Bool.or_self, Bool.or_false, Bool.false_or, Bool.or_true, Bool.true_or, if_true]
  unfold withR
  simp only [List.map_cons, List.map_nil, upd1, List.all_nil, List.all_cons, show 0 < n by omega, show 1 < n by omega, show 2 < n by omega, decide_true, Bool.and_self, if_true, V.reAll, V.re, idx, Nat.beq, cond_true, cond_false, Option.bind_some, Option.map_some, pullObs, Ob.re, reRows, Nat.reduceAdd, h, List.length_cons, List.length_nil, Nat.le_refl]
  unfold afterR
  simp only [V.re, V.reAll, pushObs, back, nth, Ob.re, reRows, Option.bind_some, Option.map_some, List.isEmpty_cons, Bool.false_and, Bool.false_eq_true, if_false, Rd.run, List.append_nil, Nat.reduceAdd]
  try rfl
def right (c : S23) (m : S28) : Bool := confF c && (metaOK m && decide ((m.f0.length : Int) = c.f0))
def forO (c : S23) : Ob := .buf 11 [k23.enc c ++ [.ptr 4 0 0, .ptr 5 0 0, .ptr 6 0 0, .ptr 7 0 0]] false false
def forH (c : S23) (m : S28) : Heap := [some (dskO 1 2), some mpO, some mpO, some (forO c), some (cchO c 8), some (tabO m.f0.length 9 10), some (setO 11), some (catO 12), some mpO, some (.buf 1 (stL m.f0 m.f0.length) false true), some (.buf 1 (coL m.f0 m.f0.length) false true), some (mobU 13 14 m.f1.length), some (mobC 15 16 m.f2.length), some (kobU (ksR m.f1 m.f1.length) [] false), some (vobU (vsR m.f1 m.f1.length) [] false), some (kob (ksV m.f2 m.f2.length) [] false), some (vobC m.f2 [] false)]
theorem lim7_no (c : S23) (m : S28) (hm : WfM m) (h : right c m = false) : lim T fns 7 [.ptr 0 0 0, .agg (k23.enc c), .agg (k28.enc m)] [dskO 1 2, mpO, mpO] = some (.tup [.nilp, .int .i64 1], [some (dskO 1 2), some mpO, some mpO]) := by
  have hmm := fun n => call28 m hm n
  refine fn_rule (fn := fn7) rfl rfl (by simp [fn7]) ?_
  unfold fn7
  simp only [Tryz.f7, Option.getD_some, argEnv, List.map_nil, List.length_nil]
  cases h1 : confF c with
  | false =>
    have hc := fun (n : Nat) (hn : 3 ≤ n) (rest : Heap) => cacheNo h1 n hn rest
    simp only [dskO, mpO, k23_enc, k28_enc] at hc hmm ⊢
    simp only [go_sem, T_3, T_4, T_9, T_23, T_24, T_25, T_26, T_28, T_33, T_34, T_54, T_55, T_57, T_80, T_83, T_84, T_85, T_87, T_96, hc, hmm, z1, List.map_cons, List.map_nil]
    show _ = _
    kernel_rfl
  | true =>
    have hc := fun (n : Nat) (hn : 3 ≤ n) (rest : Heap) => cacheYes h1 n hn rest
    cases h2 : metaOK m with
    | false =>
      rw [h2] at hmm
      simp only [dskO, mpO, cchO, k23_enc, k28_enc] at hc hmm ⊢
      simp only [go_sem, T_3, T_4, T_9, T_23, T_24, T_25, T_26, T_28, T_33, T_34, T_54, T_55, T_57, T_80, T_83, T_84, T_85, T_87, T_96, hc, hmm, z0, z1, List.map_cons, List.map_nil]
      show _ = _
      kernel_rfl
    | true =>
      rw [h2] at hmm
      have h3 : ((m.f0.length : Int) != c.f0) = true := by
        unfold right at h
        rw [h1, h2, Bool.true_and, Bool.true_and] at h
        simpa using h
      simp only [dskO, mpO, cchO, k23_enc, k28_enc] at hc hmm ⊢
      simp only [go_sem, T_3, T_4, T_9, T_23, T_24, T_25, T_26, T_28, T_33, T_34, T_54, T_55, T_57, T_80, T_83, T_84, T_85, T_87, T_96, hc, hmm, z0, z1, h3, List.map_cons, List.map_nil]
      show _ = _
      kernel_rfl
theorem tabYes {l : List Int} (h : 1 ≤ l.length ∧ l.length ≤ 4096) (hw : ∀ n ∈ l, 0 ≤ n ∧ n < 4294967296) (n : Nat) : callV (LX T fns) n (.clo 29 []) [.fz (l.map (Cd.int .u32).enc)] = .pure (.tup [.ptr n 0 0, .int .i64 0], [(n, some (tabO l.length (n + 1) (n + 2))), (n + 1, some (.buf 1 (stL l l.length) false true)), (n + 2, some (.buf 1 (coL l l.length) false true))]) :=
  callV_new (fn := fn29) rfl rfl (lim29 l h hw) rfl rfl rfl
theorem lim7_yes (c : S23) (m : S28) (hm : WfM m) (h : right c m = true) : lim T fns 7 [.ptr 0 0 0, .agg (k23.enc c), .agg (k28.enc m)] [dskO 1 2, mpO, mpO] = some (.tup [.ptr 3 0 0, .int .i64 0], forH c m) := by
  have hmm := fun n => call28 m hm n
  simp only [right, Bool.and_eq_true, decide_eq_true_eq] at h
  obtain ⟨h1, h2, h3⟩ := h
  have hc := fun (n : Nat) (hn : 3 ≤ n) (rest : Heap) => cacheYes h1 n hn rest
  rw [h2] at hmm
  have h4 : ((m.f0.length : Int) != c.f0) = false := by simp [h3]
  simp only [metaOK, Bool.and_eq_true, decide_eq_true_eq] at h2
  have ht := fun n => tabYes h2.1.1 hm.c n
  have hp := fun n => pendYes h2.1.2.1 hm.l1 (fun r hr => (hm.p r hr).2.1) n
  have hd := fun n => catYes h2.1.2.2 hm.l2 n
  refine fn_rule (fn := fn7) rfl rfl (by simp [fn7]) ?_
  unfold fn7
  simp only [Tryz.f7, Option.getD_some, argEnv, List.map_nil, List.length_nil]
  simp only [dskO, mpO, cchO, tabO, setO, mobU, kobU, vobU, catO, mobC, kob, vobC, forO, forH, List.append_nil, k23_enc, k28_enc] at hc hmm ht hp hd ⊢
  simp only [go_sem, T_3, T_4, T_9, T_23, T_24, T_25, T_26, T_28, T_33, T_34, T_54, T_55, T_57, T_80, T_83, T_84, T_85, T_87, T_96, hc, hmm, ht, hp, hd, nilCheckR, z0, z1, h4, List.map_cons, List.map_nil]
  show _ = _
  kernel_rfl
end Go.Proofs.YtoggbcckkjfkhaaGreat.R
/- Chapter 25's law DagWrong: what is told of a forest that was loaded. -/
namespace Go.Proofs.YtoggbcckkjfkhaaGreat.R
open Go Go.Proofs
open Go.Proofs.YtoggbcckkjfkhaaGreat.R.Vol (catP catO mobC kob vobC ksV)
set_option linter.unusedSimpArgs false
set_option linter.unusedVariables false
set_option maxRecDepth 10000
set_option maxHeartbeats 4000000

theorem coL_full (l : List Int) : coL l l.length = l.map (Cd.int .u32).enc := by simp [coL]
theorem cloneU_got0 {n p l : Nat} {c : Option Nat} {h : Heap} {tr : List Nat} {rows : List (List V)} {f : Bool} (h1 : rows.length = l) (h2 : (rows.all fun r => r.length == 1) = true) (h3 : l < 1000000000000) :
    clU n p l c h tr (some (.buf 1 rows f true)) = some ((.ms n 1 0 l none, [(n, some (.buf 1 rows false true)), (p, some (.buf 1 rows true true))]), p :: tr) := by
  have := cloneU_got (n := n) (p := p) (c := c) (h := h) (tr := tr) (ex := []) (f := f) h1 h2 h3
  rwa [List.append_nil] at this
theorem finish_c3 {n m : Nat} {rows st rs : List (List V)} {f f1 f2 : Bool} {rest : Heap} (hl : n = rows.length) :
    finish 3 true (.ms 3 1 0 n none) (some (.buf 2 [[.ms 1 1 0 m none, .ms 2 1 0 m none]] false false) :: some (.buf 1 st f1 true) :: some (.buf 1 rs f2 true) :: some (.buf 1 rows f true) :: rest) = some (.fz rows, [some (.buf 2 [[.ms 1 1 0 m none, .ms 2 1 0 m none]] false false), some (.buf 1 st f1 true), some (.buf 1 rs f2 true)]) := by
  subst hl
  unfold finish
  simp only [if_true, frz, frzAll, frzG, frzGAll, ms2, msUp, frzG, ms2, msUp, Rd.run, Heap.at?]
  rw [if_pos ⟨trivial, by omega⟩]
  simp only [Rd.run, List.drop_zero, List.take_length, Option.map_some, Option.bind_some]
  rfl
theorem lim37 (l : List Int) (st : List (List V)) (hl : l.length < 1000000) : lim T fns 37 [.ptr 0 0 0] [tabO l.length 1 2, .buf 1 st false true, .buf 1 (l.map (Cd.int .u32).enc) false true] =
    some (.fz (l.map (Cd.int .u32).enc), [some (tabO l.length 1 2), some (.buf 1 st false true), some (.buf 1 (l.map (Cd.int .u32).enc) true true)]) := by
  have el : (l.map (Cd.int .u32).enc).length = l.length := List.length_map ..
  have hcl := fun (n p : Nat) (c : Option Nat) (h : Heap) (tr : List Nat) => cloneU_got0 (n := n) (p := p) (c := c) (h := h) (tr := tr) (f := false) el (all_int (k := .u32) l) (show l.length < 1000000000000 by omega)
  refine fn_rule (fn := fn37) rfl rfl (by simp [fn37]) ?_
  unfold fn37
  simp only [Tryz.f37, Option.getD_some, argEnv, List.map_nil, List.length_nil]
  simp only [tabO]
  simp only [go_sem, T_24, T_54, T_83, T_125, T_126, T_128, eqPT, nilCheckR, hcl]
  exact finish_c3 el.symm
end Go.Proofs.YtoggbcckkjfkhaaGreat.R
/- Chapter 25's law DagWrong: what is told of a forest that was loaded: the whole. -/
namespace Go.Proofs.YtoggbcckkjfkhaaGreat.R
open Go Go.Proofs
open Go.Proofs.YtoggbcckkjfkhaaGreat.R.Vol (catP catO mobC kob vobC ksV)
set_option linter.unusedSimpArgs false
set_option linter.unusedVariables false
set_option maxRecDepth 10000
set_option maxHeartbeats 4000000

theorem cntsAt (l : List Int) (st : List (List V)) (hl : l.length < 1000000) (n : Nat) (hn : 17 ≤ n) (o0 o1 o2 o3 o4 o5 : Option Ob) (rest : Heap) :
    (callV (LX T fns) n (.clo 37 []) [.ptr 6 0 0]).run (o0 :: o1 :: o2 :: o3 :: o4 :: o5 :: some (tabO l.length 7 8) :: some (.buf 1 st false true) :: some (.buf 1 (l.map (Cd.int .u32).enc) false true) :: rest) [] =
    some ((.fz (l.map (Cd.int .u32).enc), [(6, some (tabO l.length 7 8)), (7, some (.buf 1 st false true)), (8, some (.buf 1 (l.map (Cd.int .u32).enc) true true))]), [8, 7, 6]) := by
  have h := lim37 l st hl
  simp only [tabO] at h ⊢
  have hf : fns 37 = some fn37 := rfl
  unfold callV
  simp only [hf]
  unfold callR
  simp only [fn37, List.cons_append, List.nil_append, List.append_nil, frzArgs, frz, frzAll, frzG, frzGAll, ms2, msUp, List.tail]
  simp only [V.allIds, V.ids, List.append_nil, List.nil_append, collect, List.map_nil, List.contains_nil, Bool.false_eq_true, if_false, Rd.run, Heap.at?, Ob.ids, rowsIds, List.map_cons, List.cons_append, List.contains_cons, Nat.reduceBEq, Bool.or_self, Bool.or_false, Bool.false_or, Bool.or_true, Bool.true_or, if_true]
  unfold withR
  simp only [List.map_cons, List.map_nil, upd1, List.all_nil, List.all_cons, show 6 < n by omega, show 7 < n by omega, show 8 < n by omega, decide_true, Bool.and_self, if_true, V.reAll, V.re, idx, Nat.beq, cond_true, cond_false, Option.bind_some, Option.map_some, pullObs, Ob.re, reRows, Nat.reduceAdd, h, List.length_cons, List.length_nil, Nat.le_refl]
  unfold afterR
  simp only [V.re, V.reAll, pushObs, back, nth, Ob.re, reRows, Option.bind_some, Option.map_some, List.isEmpty_cons, Bool.false_and, Bool.false_eq_true, if_false, Rd.run, List.append_nil, Nat.reduceAdd]
theorem pendAt (l : List S96) (hl : l.length < 1000000) (n : Nat) (hn : 17 ≤ n) (o0 o1 o2 o3 o4 o5 o6 o7 o8 : Option Ob) (rest : Heap) :
    (callV (LX T fns) n (.clo 38 []) [.ptr 9 0 0]).run (o0 :: o1 :: o2 :: o3 :: o4 :: o5 :: o6 :: o7 :: o8 :: some (setO 10) :: some (mobU 11 12 l.length) :: some (kobU (ksR l l.length) [] false) :: some (vobU (vsR l l.length) [] false) :: rest) [] =
    some ((.fz (l.map k96.enc), [(9, some (setO 10)), (10, some (mobU 11 12 l.length)), (11, some (kobU (ksR l l.length) [] false)), (12, some (vobU (vsR l l.length) [] false))]), [12, 11, 10, 9]) := by
  have h := lim38 l hl
  simp only [setO, mobU, kobU, vobU, List.append_nil] at h ⊢
  have hf : fns 38 = some fn38 := rfl
  unfold callV
  simp only [hf]
  unfold callR
  simp only [fn38, List.cons_append, List.nil_append, List.append_nil, frzArgs, frz, frzAll, frzG, frzGAll, ms2, msUp, List.tail]
  simp only [V.allIds, V.ids, List.append_nil, List.nil_append, collect, List.map_nil, List.contains_nil, Bool.false_eq_true, if_false, Rd.run, Heap.at?, Ob.ids, rowsIds, List.map_cons, List.cons_append, List.contains_cons, Nat.reduceBEq, Bool.or_self, Bool.or_false, Bool.false_or, Bool.or_true, Bool.true_or, if_true]
  unfold withR
  simp only [List.map_cons, List.map_nil, upd1, List.all_nil, List.all_cons, show 9 < n by omega, show 10 < n by omega, show 11 < n by omega, show 12 < n by omega, decide_true, Bool.and_self, if_true, V.reAll, V.re, idx, Nat.beq, cond_true, cond_false, Option.bind_some, Option.map_some, pullObs, Ob.re, reRows, Nat.reduceAdd, h, List.length_cons, List.length_nil, Nat.le_refl]
  unfold afterR
  simp only [V.re, V.reAll, pushObs, back, nth, Ob.re, reRows, Option.bind_some, Option.map_some, List.isEmpty_cons, Bool.false_and, Bool.false_eq_true, if_false, Rd.run, List.append_nil, Nat.reduceAdd]
theorem catAt (l : List S57) (hl : l.length < 1000000) (n : Nat) (hn : 17 ≤ n) (o0 o1 o2 o3 o4 o5 o6 o7 o8 p1 p2 p3 p4 : Option Ob) (rest : Heap) :
    (callV (LX T fns) n (.clo 39 []) [.ptr 13 0 0]).run (o0 :: o1 :: o2 :: o3 :: o4 :: o5 :: o6 :: o7 :: o8 :: p1 :: p2 :: p3 :: p4 :: some (catO 14) :: some (mobC 15 16 l.length) :: some (kob (ksV l l.length) [] false) :: some (vobC l [] false) :: rest) [] =
    some ((.fz (l.map k57.enc), [(13, some (catO 14)), (14, some (mobC 15 16 l.length)), (15, some (kob (ksV l l.length) [] false)), (16, some (vobC l [] false))]), [16, 15, 14, 13]) := by
  have h := Vol.lim39 l hl
  simp only [catO, mobC, kob, vobC, List.append_nil] at h ⊢
  have hf : fns 39 = some fn39 := rfl
  unfold callV
  simp only [hf]
  unfold callR
  simp only [fn39, List.cons_append, List.nil_append, List.append_nil, frzArgs, frz, frzAll, frzG, frzGAll, ms2, msUp, List.tail]
  simp only [V.allIds, V.ids, List.append_nil, List.nil_append, collect, List.map_nil, List.contains_nil, Bool.false_eq_true, if_false, Rd.run, Heap.at?, Ob.ids, rowsIds, List.map_cons, List.cons_append, List.contains_cons, Nat.reduceBEq, Bool.or_self, Bool.or_false, Bool.false_or, Bool.or_true, Bool.true_or, if_true]
  unfold withR
  simp only [List.map_cons, List.map_nil, upd1, List.all_nil, List.all_cons, show 13 < n by omega, show 14 < n by omega, show 15 < n by omega, show 16 < n by omega, decide_true, Bool.and_self, if_true, V.reAll, V.re, idx, Nat.beq, cond_true, cond_false, Option.bind_some, Option.map_some, pullObs, Ob.re, reRows, Nat.reduceAdd, h, List.length_cons, List.length_nil, Nat.le_refl]
  unfold afterR
  simp only [V.re, V.reAll, pushObs, back, nth, Ob.re, reRows, Option.bind_some, Option.map_some, List.isEmpty_cons, Bool.false_and, Bool.false_eq_true, if_false, Rd.run, List.append_nil, Nat.reduceAdd]
theorem eqPfor (i r o : Nat) : eqV T 37 (.ptr i r o) .nilp = some false := by
  unfold eqV
  rw [T_37]
/-- The forest's heap, as Meta has it. -/
def metH (c : S23) (m : S28) (f : Bool) : List Ob := [.buf 11 [k23.enc c ++ [.ptr 1 0 0, .ptr 6 0 0, .ptr 9 0 0, .ptr 13 0 0]] false false, .buf 10 [.ptr 2 0 0 :: k23.enc c ++ [.map 5, .int .i64 0]] false false, dskO 3 4, mpO, mpO, mpO, tabO m.f0.length 7 8, .buf 1 (stL m.f0 m.f0.length) false true, .buf 1 (m.f0.map (Cd.int .u32).enc) f true, setO 10, mobU 11 12 m.f1.length, kobU (ksR m.f1 m.f1.length) [] false, vobU (vsR m.f1 m.f1.length) [] false, catO 14, mobC 15 16 m.f2.length, kob (ksV m.f2 m.f2.length) [] false, vobC m.f2 [] false]
theorem lim12 (c : S23) (m : S28) (h0 : m.f0.length < 1000000) (h1 : m.f1.length < 1000000) (h2 : m.f2.length < 1000000) : lim T fns 12 [.ptr 0 0 0] (metH c m false) = some (.agg (k28.enc m), (metH c m true).map some) := by
  have hc := fun (n : Nat) (hn : 17 ≤ n) (o0 o1 o2 o3 o4 o5 : Option Ob) (rest : Heap) => cntsAt m.f0 (stL m.f0 m.f0.length) h0 n hn o0 o1 o2 o3 o4 o5 rest
  have hp := fun (n : Nat) (hn : 17 ≤ n) (o0 o1 o2 o3 o4 o5 o6 o7 o8 : Option Ob) (rest : Heap) => pendAt m.f1 h1 n hn o0 o1 o2 o3 o4 o5 o6 o7 o8 rest
  have hd := fun (n : Nat) (hn : 17 ≤ n) (o0 o1 o2 o3 o4 o5 o6 o7 o8 p1 p2 p3 p4 : Option Ob) (rest : Heap) => catAt m.f2 h2 n hn o0 o1 o2 o3 o4 o5 o6 o7 o8 p1 p2 p3 p4 rest
  refine fn_rule (fn := fn12) rfl rfl (by simp [fn12]) ?_
  unfold fn12
  simp only [Tryz.f12, Option.getD_some, argEnv, List.map_nil, List.length_nil]
  simp only [dskO, mpO, tabO, setO, mobU, kobU, vobU, catO, mobC, kob, vobC, metH, List.append_nil, k23_enc, k28_enc] at hc hp hd ⊢
  simp only [go_sem, T_3, T_9, T_23, T_24, T_25, T_26, T_28, T_37, T_54, T_55, T_57, T_80, T_83, T_84, T_85, T_87, T_96, hc, hp, hd, nilCheckR, eqPfor, List.map_cons, List.map_nil]
  show _ = _
  kernel_rfl
end Go.Proofs.YtoggbcckkjfkhaaGreat.R
/- Chapter 25's law DagWrong: a nil forest. -/
namespace Go.Proofs.YtoggbcckkjfkhaaGreat.R
open Go Go.Proofs
set_option linter.unusedSimpArgs false
set_option linter.unusedVariables false
set_option maxRecDepth 10000
set_option maxHeartbeats 1000000

theorem lim13 (a k : ByteArray) : lim T fns 13 [.nilp, .str a, .str k] [] = some (.tup [.str ⟨#[]⟩, .bool false, .int .i64 1], []) := acall_lim (R := 3) (d := 3) (by kernel_rfl)
theorem call13 (a k : ByteArray) (n : Nat) : callV (LX T fns) n (.clo 13 []) [.nilp, .str a, .str k] = .pure (.tup [.str ⟨#[]⟩, .bool false, .int .i64 1], []) := callV_plain (fn := fn13) rfl rfl rfl (lim13 a k) n
theorem lim14 : lim T fns 14 [.nilp, .int .u32 3] [] = some (.tup [.agg [.bool false, .fz [], .fz [], .fz [], .fz []], .int .i64 1], []) := acall_lim (R := 3) (d := 3) (by kernel_rfl)
theorem call14 (n : Nat) : callV (LX T fns) n (.clo 14 []) [.nilp, .int .u32 3] = .pure (.tup [.agg [.bool false, .fz [], .fz [], .fz [], .fz []], .int .i64 1], []) := callV_plain (fn := fn14) rfl rfl rfl lim14 n
theorem lim15 (a : ByteArray) : lim T fns 15 [.nilp, .str a] [] = some (.tup [.agg [.str ⟨#[]⟩, .int .u32 0, .int .u16 0], .bool false], []) := acall_lim (R := 3) (d := 3) (by kernel_rfl)
theorem call15 (a : ByteArray) (n : Nat) : callV (LX T fns) n (.clo 15 []) [.nilp, .str a] = .pure (.tup [.agg [.str ⟨#[]⟩, .int .u32 0, .int .u16 0], .bool false], []) := callV_plain (fn := fn15) rfl rfl rfl (lim15 a) n
theorem lim16 : lim T fns 16 [.nilp] [] = some (.tup [.fz [], .int .i64 1], []) := acall_lim (R := 3) (d := 3) (by kernel_rfl)
theorem call16 (n : Nat) : callV (LX T fns) n (.clo 16 []) [.nilp] = .pure (.tup [.fz [], .int .i64 1], []) := callV_plain (fn := fn16) rfl rfl rfl lim16 n
theorem lim17 : lim T fns 17 [.nilp] [] = some (.tup [], []) := acall_lim (R := 3) (d := 3) (by kernel_rfl)
theorem call17 (n : Nat) : callV (LX T fns) n (.clo 17 []) [.nilp] = .pure (.tup [], []) := callV_plain (fn := fn17) rfl rfl rfl lim17 n
theorem lim18 (o : S30) : lim T fns 18 [.nilp, .agg (k30.enc o)] [] = some (.int .i64 1, []) := acall_lim (R := 3) (d := 3) (by rw [k30_enc]; kernel_rfl)
theorem call18 (o : S30) (n : Nat) : callV (LX T fns) n (.clo 18 []) [.nilp, .agg (k30.enc o)] = .pure (.int .i64 1, []) := callV_plain (fn := fn18) rfl rfl rfl (lim18 o) n
theorem lim19 : lim T fns 19 [.nilp] [] = some (.int .i64 0, []) := acall_lim (R := 3) (d := 3) (by kernel_rfl)
theorem call19 (n : Nat) : callV (LX T fns) n (.clo 19 []) [.nilp] = .pure (.int .i64 0, []) := callV_plain (fn := fn19) rfl rfl rfl lim19 n
theorem lim20 : lim T fns 20 [.nilp] [] = some (.int .i64 0, []) := acall_lim (R := 3) (d := 3) (by kernel_rfl)
theorem call20 (n : Nat) : callV (LX T fns) n (.clo 20 []) [.nilp] = .pure (.int .i64 0, []) := callV_plain (fn := fn20) rfl rfl rfl lim20 n
theorem lim21 : lim T fns 21 [.nilp] [] = some (.int .i64 1, []) := acall_lim (R := 3) (d := 3) (by kernel_rfl)
theorem call21 (n : Nat) : callV (LX T fns) n (.clo 21 []) [.nilp] = .pure (.int .i64 1, []) := callV_plain (fn := fn21) rfl rfl rfl lim21 n
theorem lim22 : lim T fns 22 [.nilp] [] = some (.int .i64 1, []) := acall_lim (R := 3) (d := 3) (by kernel_rfl)
theorem call22 (n : Nat) : callV (LX T fns) n (.clo 22 []) [.nilp] = .pure (.int .i64 1, []) := callV_plain (fn := fn22) rfl rfl rfl lim22 n
theorem limN : lim T fns 12 [.nilp] [] = some (.agg [.fz [], .fz [], .fz []], []) := acall_lim (R := 3) (d := 3) (by kernel_rfl)
theorem callN (n : Nat) : callV (LX T fns) n (.clo 12 []) [.nilp] = .pure (.agg [.fz [], .fz [], .fz []], []) := callV_plain (fn := fn12) rfl rfl rfl limN n
theorem callS (n : Nat) : callV (LX T fns) n (.clo 23 []) [.fz [], .fz []] = .pure (.bool true, []) := call23 [] (by simp) n
end Go.Proofs.YtoggbcckkjfkhaaGreat.R
/- Chapter 25's law DagWrong: the law's calls. -/
namespace Go.Proofs.YtoggbcckkjfkhaaGreat.R
open Go Go.Proofs
open Go.Proofs.YtoggbcckkjfkhaaGreat.R.Vol (catP catO mobC kob vobC ksV)
set_option linter.unusedSimpArgs false
set_option linter.unusedVariables false
set_option maxRecDepth 10000
set_option maxHeartbeats 4000000

theorem diskAt (n : Nat) : callV (LX T fns) n (.clo 6 []) [.int .i64 60] = .pure (.tup [.ptr n 0 0, .int .i64 0], [(n, some (dskO (n + 1) (n + 2))), (n + 1, some mpO), (n + 2, some mpO)]) :=
  callV_new (fn := fn6) rfl rfl lim6 rfl rfl rfl
/-- The forest's objects, as the law has them. -/
def lawU (c : S23) (m : S28) : Upd := [(3, some (dskO 4 5)), (4, some mpO), (5, some mpO), (6, some (.buf 11 [k23.enc c ++ [.ptr 7 0 0, .ptr 8 0 0, .ptr 9 0 0, .ptr 10 0 0]] false false)), (7, some (.buf 10 [.ptr 3 0 0 :: k23.enc c ++ [.map 11, .int .i64 0]] false false)), (8, some (tabO m.f0.length 12 13)), (9, some (setO 14)), (10, some (catO 15)), (11, some mpO), (12, some (.buf 1 (stL m.f0 m.f0.length) false true)), (13, some (.buf 1 (coL m.f0 m.f0.length) false true)), (14, some (mobU 16 17 m.f1.length)), (15, some (mobC 18 19 m.f2.length)), (16, some (kobU (ksR m.f1 m.f1.length) [] false)), (17, some (vobU (vsR m.f1 m.f1.length) [] false)), (18, some (kob (ksV m.f2 m.f2.length) [] false)), (19, some (vobC m.f2 [] false))]
theorem loadYes (c : S23) (m : S28) (hm : WfM m) (h : right c m = true) (x0 x1 x2 : Option Ob) (n : Nat) (hn : n = 6) :
    (callV (LX T fns) n (.clo 7 []) [.ptr 3 0 0, .agg (k23.enc c), .agg (k28.enc m)]).run [x0, x1, x2, some (dskO 4 5), some mpO, some mpO] [] =
    some ((.tup [.ptr 6 0 0, .int .i64 0], lawU c m), [5, 4, 3]) := by
  have h := lim7_yes c m hm h
  simp only [dskO, mpO, k23_enc, k28_enc] at h ⊢
  have hf : fns 7 = some fn7 := rfl
  unfold callV
  simp only [hf]
  unfold callR
  simp only [fn7, List.cons_append, List.nil_append, List.append_nil, frzArgs, frz, frzAll, frzG, frzGAll, ms2, msUp, List.tail]
  simp only [V.allIds, V.ids, List.append_nil, List.nil_append, collect, List.map_nil, List.contains_nil, Bool.false_eq_true, if_false, Rd.run, Heap.at?, Ob.ids, rowsIds, List.map_cons, List.cons_append, List.contains_cons, Nat.reduceBEq, Bool.or_self, Bool.or_false, Bool.false_or, Bool.or_true, Bool.true_or, if_true]
  unfold withR
  simp only [List.map_cons, List.map_nil, upd1, List.all_nil, List.all_cons, show 3 < n by omega, show 4 < n by omega, show 5 < n by omega, decide_true, Bool.and_self, if_true, V.reAll, V.re, idx, Nat.beq, cond_true, cond_false, Option.bind_some, Option.map_some, pullObs, Ob.re, reRows, Nat.reduceAdd, h, List.length_cons, List.length_nil, Nat.le_refl]
  unfold afterR
  simp only [V.re, V.reAll, pushObs, back, nth, Ob.re, reRows, Option.bind_some, Option.map_some, List.isEmpty_cons, Bool.false_and, Bool.false_eq_true, if_false, Rd.run, List.append_nil, Nat.reduceAdd]
  subst hn
  simp only [List.length_cons, List.length_nil, forH, forO, cchO, lawU, k23_enc]
  show _ = _
  kernel_rfl
theorem loadNo (c : S23) (m : S28) (hm : WfM m) (h : right c m = false) (x0 x1 x2 : Option Ob) (n : Nat) (hn : n = 6) :
    (callV (LX T fns) n (.clo 7 []) [.ptr 3 0 0, .agg (k23.enc c), .agg (k28.enc m)]).run [x0, x1, x2, some (dskO 4 5), some mpO, some mpO] [] =
    some ((.tup [.nilp, .int .i64 1], [(3, some (dskO 4 5)), (4, some mpO), (5, some mpO)]), [5, 4, 3]) := by
  have h := lim7_no c m hm h
  simp only [dskO, mpO, k23_enc, k28_enc] at h ⊢
  have hf : fns 7 = some fn7 := rfl
  unfold callV
  simp only [hf]
  unfold callR
  simp only [fn7, List.cons_append, List.nil_append, List.append_nil, frzArgs, frz, frzAll, frzG, frzGAll, ms2, msUp, List.tail]
  simp only [V.allIds, V.ids, List.append_nil, List.nil_append, collect, List.map_nil, List.contains_nil, Bool.false_eq_true, if_false, Rd.run, Heap.at?, Ob.ids, rowsIds, List.map_cons, List.cons_append, List.contains_cons, Nat.reduceBEq, Bool.or_self, Bool.or_false, Bool.false_or, Bool.or_true, Bool.true_or, if_true]
  unfold withR
  simp only [List.map_cons, List.map_nil, upd1, List.all_nil, List.all_cons, show 3 < n by omega, show 4 < n by omega, show 5 < n by omega, decide_true, Bool.and_self, if_true, V.reAll, V.re, idx, Nat.beq, cond_true, cond_false, Option.bind_some, Option.map_some, pullObs, Ob.re, reRows, Nat.reduceAdd, h, List.length_cons, List.length_nil, Nat.le_refl]
  unfold afterR
  simp only [V.re, V.reAll, pushObs, back, nth, Ob.re, reRows, Option.bind_some, Option.map_some, List.isEmpty_cons, Bool.false_and, Bool.false_eq_true, if_false, Rd.run, List.append_nil, Nat.reduceAdd]
theorem metaAt (c : S23) (m : S28) (h0 : m.f0.length < 1000000) (h1 : m.f1.length < 1000000) (h2 : m.f2.length < 1000000) (x0 x1 x2 : Option Ob) (rest : Heap) (n : Nat) (hn : 20 ≤ n) :
    (callV (LX T fns) n (.clo 12 []) [.ptr 6 0 0]).run (x0 :: x1 :: x2 :: ((lawU c m).map (·.2) ++ rest)) [] =
    some ((.agg (k28.enc m), [(6, some (.buf 11 [k23.enc c ++ [.ptr 7 0 0, .ptr 8 0 0, .ptr 9 0 0, .ptr 10 0 0]] false false)), (7, some (.buf 10 [.ptr 3 0 0 :: k23.enc c ++ [.map 11, .int .i64 0]] false false)), (3, some (dskO 4 5)), (4, some mpO), (5, some mpO), (11, some mpO), (8, some (tabO m.f0.length 12 13)), (12, some (.buf 1 (stL m.f0 m.f0.length) false true)), (13, some (.buf 1 (coL m.f0 m.f0.length) true true)), (9, some (setO 14)), (14, some (mobU 16 17 m.f1.length)), (16, some (kobU (ksR m.f1 m.f1.length) [] false)), (17, some (vobU (vsR m.f1 m.f1.length) [] false)), (10, some (catO 15)), (15, some (mobC 18 19 m.f2.length)), (18, some (kob (ksV m.f2 m.f2.length) [] false)), (19, some (vobC m.f2 [] false))]), [19, 18, 15, 10, 17, 16, 14, 9, 13, 12, 8, 11, 5, 4, 3, 7, 6]) := by
  have h := lim12 c m h0 h1 h2
  simp only [metH, dskO, mpO, tabO, setO, mobU, kobU, vobU, catO, mobC, kob, vobC, lawU, coL_full, List.append_nil, List.cons_append, List.nil_append, List.map_cons, List.map_nil, k23_enc, k28_enc] at h ⊢
  have hf : fns 12 = some fn12 := rfl
  unfold callV
  simp only [hf]
  unfold callR
  simp only [fn12, List.cons_append, List.nil_append, List.append_nil, frzArgs, frz, frzAll, frzG, frzGAll, ms2, msUp, List.tail]
  simp only [V.allIds, V.ids, List.append_nil, List.nil_append, collect, List.map_nil, List.contains_nil, Bool.false_eq_true, if_false, Rd.run, Heap.at?, Ob.ids, rowsIds, List.map_cons, List.cons_append, List.contains_cons, Nat.reduceBEq, Bool.or_self, Bool.or_false, Bool.false_or, Bool.or_true, Bool.true_or, if_true]
  unfold withR
  simp only [List.map_cons, List.map_nil, upd1, List.all_nil, List.all_cons, show 6 < n by omega, show 7 < n by omega, show 3 < n by omega, show 4 < n by omega, show 5 < n by omega, show 11 < n by omega, show 8 < n by omega, show 12 < n by omega, show 13 < n by omega, show 9 < n by omega, show 14 < n by omega, show 16 < n by omega, show 17 < n by omega, show 10 < n by omega, show 15 < n by omega, show 18 < n by omega, show 19 < n by omega, decide_true, Bool.and_self, if_true, V.reAll, V.re, idx, Nat.beq, cond_true, cond_false, Option.bind_some, Option.map_some, pullObs, Ob.re, reRows, Nat.reduceAdd, h, List.length_cons, List.length_nil, Nat.le_refl]
  unfold afterR
  simp only [V.re, V.reAll, pushObs, back, nth, Ob.re, reRows, Option.bind_some, Option.map_some, List.isEmpty_cons, Bool.false_and, Bool.false_eq_true, if_false, Rd.run, List.append_nil, Nat.reduceAdd]
end Go.Proofs.YtoggbcckkjfkhaaGreat.R
/- Chapter 25's anchor: the document's example, run in the machine by the kernel. -/
namespace Go.Proofs.YtoggbcckkjfkhaaGreat.R
open Go Go.Proofs
set_option maxRecDepth 100000
theorem lim5 : lim T fns 5 [] [] = some (.bool true, []) := acall_lim (R := 400) (d := 40) (by kernel_rfl)
theorem call5 (n : Nat) : callV (LX T fns) n (.clo 5 []) [] = .pure (.bool true, []) := callV_plain (fn := fn5) rfl rfl rfl lim5 n
end Go.Proofs.YtoggbcckkjfkhaaGreat.R
/- Chapter 25's law DagWrong, over the machine. -/
namespace Go.Proofs.YtoggbcckkjfkhaaGreat.R
open Go Go.Proofs
open Go.Proofs.YtoggbcckkjfkhaaGreat.R.Vol (catP catO mobC kob vobC ksV)
set_option linter.unusedSimpArgs false
set_option linter.unusedVariables false
set_option maxRecDepth 10000
set_option maxHeartbeats 4000000

theorem u32_g {x : Int} (h : (Lit.int .u32 x).wf = true) : 0 ≤ x ∧ x < 4294967296 := by
  have h3 : IntKind.u32.min ≤ x ∧ x ≤ IntKind.u32.max := by simpa [Lit.wf] using h
  have e1 : IntKind.u32.min = 0 := rfl
  have e2 : IntKind.u32.max = 4294967295 := rfl
  omega
theorem u16_g {x : Int} (h : (Lit.int .u16 x).wf = true) : 0 ≤ x ∧ x < 65536 := by
  have h3 : IntKind.u16.min ≤ x ∧ x ≤ IntKind.u16.max := by simpa [Lit.wf] using h
  have e1 : IntKind.u16.min = 0 := rfl
  have e2 : IntKind.u16.max = 65535 := rfl
  omega
theorem wf_g {m : S28} (g : g28 m) (h : greatM m = false) : WfM m := by
  obtain ⟨⟨g0, g0'⟩, ⟨g1, g1'⟩, ⟨g2, g2'⟩⟩ := g
  simp only [greatM, grV, Bool.or_eq_false_iff, decide_eq_false_iff_not] at h
  exact ⟨by omega, by omega, by omega, fun n hn => u32_g (g0' n hn), fun r hr => ⟨u32_g (g1' r hr).1, u32_g (g1' r hr).2⟩, fun x hx => ⟨u32_g (g2' x hx).2.1, u16_g (g2' x hx).2.2⟩⟩
theorem eqN0 : eqV T 37 .nilp .nilp = some true := by
  unfold eqV
  rw [T_37]
theorem z0' : ((0 : Int) != 0) = false := rfl
theorem q00n : ((((0 : Nat) : Int)) == 0) = true := rfl
theorem z1' : ((1 : Int) != 0) = true := rfl
theorem q00' : ((0 : Int) == 0) = true := rfl
theorem q10' : ((1 : Int) == 0) = false := rfl
theorem q11' : ((1 : Int) == 1) = true := rfl
theorem n11' : ((1 : Int) != 1) = false := rfl
theorem n01' : ((0 : Int) != 1) = true := rfl
theorem callSn (n : Nat) : callV (LX T fns) n (.clo 23 []) [.fz [], .nils] = .pure (.bool true, []) := by
  rw [← callS n]
  unfold callV
  simp only [show fns 23 = some fn23 from rfl]
  unfold callR
  simp only [fn23, List.append_nil, frzArgs, frz, frzAll, frzG, frzGAll, ms2, msUp, frzG, List.tail]
theorem lim3 (c : S23) (m : S28) (o : S30) (g : g28 m) : lim T fns 3 [.agg (k23.enc c), .agg (k28.enc m), .agg (k30.enc o)] [] = some (.bool true, []) := by
  have hl2 : m.f2.length < 10000000000000 := by
    have := g.2.2.1
    omega
  have hG := fun n => call4 m hl2 n
  refine fn_rule (fn := fn3) rfl rfl (by simp [fn3]) ?_
  unfold fn3
  simp only [Tryz.f3, Option.getD_some, argEnv, List.map_nil, List.length_nil]
  cases hg : greatM m with
  | true =>
    rw [hg] at hG
    simp only [k23_enc, k28_enc, k30_enc] at hG ⊢
    simp only [go_sem, T_3, T_4, T_5, T_9, T_23, T_24, T_25, T_26, T_28, T_30, T_33, T_34, T_37, T_46, T_47, T_48, T_49, T_51, T_54, T_55, T_57, T_60, T_96, T_107, T_111, T_156, T_161, T_163, hG, call5]
    try kernel_rfl
  | false =>
    rw [hg] at hG
    have hm := wf_g g hg
    have hM := fun n => call10 m hm n
    have hC := fun n => call8 c n
    have hS := fun n => call11 m hm n
    have hD := fun n => call18 o n
    by_cases hr : right c m = true
    · have hL := loadYes c m hm hr
      have hT := metaAt c m hm.l0 hm.l1 hm.l2
      unfold right confF at hr
      simp only [Bool.and_eq_true, decide_eq_true_eq] at hr
      obtain ⟨⟨r1, r2⟩, r3, r4⟩ := hr
      have hZ := fun n => call9 c r1 n
      have f2 : (sizeP c ≤ 60) = True := eq_true r2
      have f4 : ((m.f0.length : Int) == c.f0) = true := by simp [r4]
      rw [r1] at hC
      rw [r3] at hM
      simp only [dskO, mpO, tabO, setO, mobU, kobU, vobU, catO, mobC, kob, vobC, lawU, List.append_nil, List.cons_append, List.nil_append, List.map_cons, List.map_nil, k23_enc, k28_enc, k30_enc] at hG hM hC hS hD hL hT hZ ⊢
      simp only [go_sem, T_3, T_4, T_5, T_9, T_23, T_24, T_25, T_26, T_28, T_30, T_33, T_34, T_37, T_46, T_47, T_48, T_49, T_51, T_54, T_55, T_57, T_60, T_96, T_107, T_111, T_156, T_161, T_163, hG, hM, hC, hS, hL, hT, hZ, f2, f4, diskAt, dskO, mpO, eqPdisk, eqPfor, eqN0, call5, z0', q00n, z1', q00', q10', q11', n11', n01']
      try kernel_rfl
    · have hr : right c m = false := by simpa using hr
      have hL := loadNo c m hm hr
      unfold right confF at hr
      cases r1 : confOK c with
      | false =>
        rw [r1] at hC
        simp only [dskO, mpO, k23_enc, k28_enc, k30_enc] at hG hM hC hS hD hL ⊢
        simp only [go_sem, T_3, T_4, T_5, T_9, T_23, T_24, T_25, T_26, T_28, T_30, T_33, T_34, T_37, T_46, T_47, T_48, T_49, T_51, T_54, T_55, T_57, T_60, T_96, T_107, T_111, T_156, T_161, T_163, hG, hM, hC, hL, hD, diskAt, dskO, mpO, eqPdisk, eqPfor, eqN0, call5, z0', q00n, z1', q00', q10', q11', n11', n01', call13, call14, call15, call16, call17, call19, call20, call21, call22, callN, callS, callSn, fieldR, List.length_nil]
        try kernel_rfl
      | true =>
        rw [r1] at hC hr
        have hZ := fun n => call9 c r1 n
        by_cases r2 : sizeP c ≤ 60
        · have f2 : (sizeP c ≤ 60) = True := eq_true r2
          cases r3 : metaOK m with
          | false =>
            rw [r3] at hM
            simp only [dskO, mpO, k23_enc, k28_enc, k30_enc] at hG hM hC hS hD hL hZ ⊢
            simp only [go_sem, T_3, T_4, T_5, T_9, T_23, T_24, T_25, T_26, T_28, T_30, T_33, T_34, T_37, T_46, T_47, T_48, T_49, T_51, T_54, T_55, T_57, T_60, T_96, T_107, T_111, T_156, T_161, T_163, hG, hM, hC, hL, hD, hZ, f2, diskAt, dskO, mpO, eqPdisk, eqPfor, eqN0, call5, z0', q00n, z1', q00', q10', q11', n11', n01', call13, call14, call15, call16, call17, call19, call20, call21, call22, callN, callS, callSn, fieldR, List.length_nil]
            try kernel_rfl
          | true =>
            have f4 : ((m.f0.length : Int) == c.f0) = false := by
              rw [r3] at hr
              simp only [r2, decide_true, Bool.true_and] at hr
              simpa using hr
            rw [r3] at hM
            simp only [dskO, mpO, k23_enc, k28_enc, k30_enc] at hG hM hC hS hD hL hZ ⊢
            simp only [go_sem, T_3, T_4, T_5, T_9, T_23, T_24, T_25, T_26, T_28, T_30, T_33, T_34, T_37, T_46, T_47, T_48, T_49, T_51, T_54, T_55, T_57, T_60, T_96, T_107, T_111, T_156, T_161, T_163, hG, hM, hC, hL, hD, hZ, f2, f4, diskAt, dskO, mpO, eqPdisk, eqPfor, eqN0, call5, z0', q00n, z1', q00', q10', q11', n11', n01', call13, call14, call15, call16, call17, call19, call20, call21, call22, callN, callS, callSn, fieldR, List.length_nil]
            try kernel_rfl
        · have f2 : (sizeP c ≤ 60) = False := eq_false r2
          simp only [dskO, mpO, k23_enc, k28_enc, k30_enc] at hG hM hC hS hD hL hZ ⊢
          simp only [go_sem, T_3, T_4, T_5, T_9, T_23, T_24, T_25, T_26, T_28, T_30, T_33, T_34, T_37, T_46, T_47, T_48, T_49, T_51, T_54, T_55, T_57, T_60, T_96, T_107, T_111, T_156, T_161, T_163, hG, hM, hC, hL, hD, hZ, f2, diskAt, dskO, mpO, eqPdisk, eqPfor, eqN0, call5, z0', q00n, z1', q00', q10', q11', n11', n01', call13, call14, call15, call16, call17, call19, call20, call21, call22, callN, callS, callSn, fieldR, List.length_nil]
          try kernel_rfl
theorem law3 (x0 : S23) (gx0 : g23 x0) (x1 : S28) (gx1 : g28 x1) (x2 : S30) (gx2 : g30 x2) : ∃ R d h, acall T fns R d 3 [.agg (k23.enc x0), .agg (k28.enc x1), .agg (k30.enc x2)] [] = some (.bool true, h) := by
  obtain ⟨R, d, h⟩ := lim_acall (lim3 x0 x1 x2 gx1)
  exact ⟨R, d, _, h⟩
end Go.Proofs.YtoggbcckkjfkhaaGreat.R
/- Chapter 25's law DagWrong, with what its row needs. -/
