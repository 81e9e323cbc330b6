/- Chapter 33's law: rising keys. -/
import Derived.Test.YtfdemnefkfkghaaR33f
namespace Go.Proofs.Ytfdemnefkfkghaa.R
open Go Go.Proofs
set_option linter.unusedSimpArgs false
set_option linter.unusedVariables false
set_option maxRecDepth 10000
set_option maxHeartbeats 1000000

/-- No greater, as texts. -/
def leS (a b : ByteArray) : Bool := Op.bytesLess a.toList b.toList || a.toList == b.toList
def riseFrom : List S145 → Bool
  | x :: y :: r => !leS y.f0 x.f0 && riseFrom (y :: r)
  | _ => true
theorem wrap_i64p {k : Nat} (h : k < 1000000000000000000) : IntKind.i64.wrap (((k + 1 : Nat) : Int) - 1) = (k : Int) := by
  rw [wrap_i64 (by omega) (by omega)]
  omega
theorem rise_drop {l : List S145} {k : Nat} (h : k + 1 < l.length) : riseFrom (l.drop k) = (!leS l[k + 1].f0 (l[k]'(by omega)).f0 && riseFrom (l.drop (k + 1))) := by
  rw [List.drop_eq_getElem_cons (show k < l.length by omega), List.drop_eq_getElem_cons h]
  rfl
theorem rise_one {l : List S145} {k : Nat} (h : l.length ≤ k + 1) : riseFrom (l.drop k) = true := by
  have : (l.drop k).length ≤ 1 := by simp; omega
  match hd : l.drop k with
  | [] => rfl
  | [x] => rfl
  | x :: y :: r => rw [hd] at this; simp at this

theorem lim90 (l : List S145) (hl : l.length < 1000000000000) : lim T fns 90 [.fz (l.map k145.enc)] [] = some (.bool (riseFrom l), []) := by
  refine fn_rule (fn := fn90) rfl rfl (by simp [fn90]) ?_
  unfold fn90
  simp only [Try.f90, Option.getD_some, argEnv, List.map_nil, List.length_nil]
  simp only [W_skip, W_exit, W_ret, W_seq, SQ_normal, SQ_exit, SQ_ret, W_block, BQ_normal, BQ_exit, BQ_ret, W_cond, WC_bool, W_draw_q, WQ_nil, WQ_cons, WQ_guard, QG_true, QG_false, QA_quiet, Heap.pad, List.nil_append, List.cons_append, pickR, List.take_succ_cons, List.take_zero, List.take_nil, List.drop_zero, List.drop_succ_cons, binStr, Nat.reduceLeDiff, W_region, WO_nil, WO_cons, WO_move, WO_assign, WO_guard, WG_true, WG_false, WA_some, WA_none, LP_exit, LP_ret, aop, ev, evs, lk, ofConst, ofCell, Nat.beq, cond_true, cond_false, Bool.false_eq_true, if_false, if_true, bin, binInt, un, ok, Rd.run, Nat.reduceLT, true_and, Heap.puts, Heap.put, Heap.at?, decide_true, decide_false, yields, skipped, isSkip, indexAddrR, fieldAddrR, loadR, builtinR, lenB, lenKd, lenR, conv, partOf, TI.agg, List.length_map, List.length_cons, List.length_nil, List.getElem?_map, List.getElem?_cons_zero, List.getElem?_cons_succ, Option.map_some, Option.bind_some, Nat.reduceAdd, Nat.reduceEqDiff, beq_iff_eq, decide_eq_true_eq, Int.natCast_eq_zero, natOf_cast, FQ_ret, FQ_normal, resAll, resOne, oneOf, finish_plain, pl_int, pl_bool, pl_str, pl_fz, pl_agg, pl_tup, pl_clo, pl_undef, pl_nil, pl_cons, Bool.and_self, Bool.and_true, all_int, all_str, int_enc, str_enc, bool_enc, Int.ofNat_lt, boxR, allocR, storeR, overwrite, buildR, fillS, Option.isSome_some, V.cells, V.isCell, List.all_cons, List.all_nil, Bool.and_true, Bool.true_and, not_false_eq_true, and_true, and_self, V.anyIds, V.hasIds, Bool.or_false, Bool.not_false, Bool.or_self, buildSliceR, parts, fillR, List.replicate_succ, List.replicate_zero, List.set_cons_zero, rowIds, appendB, rows?, append_look, appL_some, append_none, List.map_nil, Bool.and_self, Nat.reduceMul, List.length_append, false_or, ne_eq, Nat.one_ne_zero, Nat.lt_add_one, or_self, extractR, max2, min2, List.getElem?_toArray, List.singleton_append, List.append_nil, Bool.and_false, Bool.false_and, eqV4, Bool.true_beq, Bool.false_beq, Bool.not_true, Bool.not_false, WB_nil, WB_cons, WB_guard, BG_true, BG_false, BG_false_none, BA_some, BA_none, QA_noise, QA_noise_none, sigQ_nil, sigQ_snoc, ids1, apB, hits, hasN, Bool.true_or, Bool.false_or, Bool.or_true, Nat.zero_add, List.size_toArray, EQ_ret, EQ_normal, T_3, T_9, T_51, T_145]
  refine loop_rule (ι := Nat) (S := fun k => ⟨[(0, .fz (l.map k145.enc)), (3, .int .i64 (k + 1 : Nat))], []⟩) (m := fun k => l.length + 1 - k)
    (I := fun k => (k = 0 ∨ k < l.length) ∧ riseFrom (l.drop k) = riseFrom l) ?_ 0 _ ⟨by omega, by simp⟩ rfl
  rintro k ⟨hi, hg⟩
  by_cases hlt : k + 1 < l.length
  · have hx : l[k + 1]? = some l[k + 1] := List.getElem?_eq_getElem hlt
    have hy : l[k]? = some (l[k]'(by omega)) := List.getElem?_eq_getElem (by omega)
    rw [rise_drop hlt] at hg
    have hle : ∀ a b : ByteArray, (Op.bytesLess a.toList b.toList || a.toList == b.toList) = leS a b := fun _ _ => rfl
    simp only [W_skip, W_exit, W_ret, W_seq, SQ_normal, SQ_exit, SQ_ret, W_block, BQ_normal, BQ_exit, BQ_ret, W_cond, WC_bool, W_draw_q, WQ_nil, WQ_cons, WQ_guard, QG_true, QG_false, QA_quiet, Heap.pad, List.nil_append, List.cons_append, pickR, List.take_succ_cons, List.take_zero, List.take_nil, List.drop_zero, List.drop_succ_cons, binStr, Nat.reduceLeDiff, W_region, WO_nil, WO_cons, WO_move, WO_assign, WO_guard, WG_true, WG_false, WA_some, WA_none, LP_exit, LP_ret, aop, ev, evs, lk, ofConst, ofCell, Nat.beq, cond_true, cond_false, Bool.false_eq_true, if_false, if_true, bin, binInt, un, ok, Rd.run, Nat.reduceLT, true_and, Heap.puts, Heap.put, Heap.at?, decide_true, decide_false, yields, skipped, isSkip, indexAddrR, fieldAddrR, loadR, builtinR, lenB, lenKd, lenR, conv, partOf, TI.agg, List.length_map, List.length_cons, List.length_nil, List.getElem?_map, List.getElem?_cons_zero, List.getElem?_cons_succ, Option.map_some, Option.bind_some, Nat.reduceAdd, Nat.reduceEqDiff, beq_iff_eq, decide_eq_true_eq, Int.natCast_eq_zero, natOf_cast, FQ_ret, FQ_normal, resAll, resOne, oneOf, finish_plain, pl_int, pl_bool, pl_str, pl_fz, pl_agg, pl_tup, pl_clo, pl_undef, pl_nil, pl_cons, Bool.and_self, Bool.and_true, all_int, all_str, int_enc, str_enc, bool_enc, Int.ofNat_lt, boxR, allocR, storeR, overwrite, buildR, fillS, Option.isSome_some, V.cells, V.isCell, List.all_cons, List.all_nil, Bool.and_true, Bool.true_and, not_false_eq_true, and_true, and_self, V.anyIds, V.hasIds, Bool.or_false, Bool.not_false, Bool.or_self, buildSliceR, parts, fillR, List.replicate_succ, List.replicate_zero, List.set_cons_zero, rowIds, appendB, rows?, append_look, appL_some, append_none, List.map_nil, Bool.and_self, Nat.reduceMul, List.length_append, false_or, ne_eq, Nat.one_ne_zero, Nat.lt_add_one, or_self, extractR, max2, min2, List.getElem?_toArray, List.singleton_append, List.append_nil, Bool.and_false, Bool.false_and, eqV4, Bool.true_beq, Bool.false_beq, Bool.not_true, Bool.not_false, WB_nil, WB_cons, WB_guard, BG_true, BG_false, BG_false_none, BA_some, BA_none, QA_noise, QA_noise_none, sigQ_nil, sigQ_snoc, ids1, apB, hits, hasN, Bool.true_or, Bool.false_or, Bool.or_true, Nat.zero_add, List.size_toArray, EQ_ret, EQ_normal, T_3, T_9, T_51, T_145, all145, hlt, hx, hy, k145_enc, hle, wrap_i64p (show k < 1000000000000000000 by omega), wrap_i64s (show k + 1 < 1000000000000000000 by omega)]
    split
    · rename_i he
      simpa [he] using hg
    · rename_i he
      exact ⟨k + 1, ⟨by omega, by simpa [he] using hg⟩, by simp only; omega, rfl⟩
  · rw [rise_one (by omega)] at hg
    simp only [W_skip, W_exit, W_ret, W_seq, SQ_normal, SQ_exit, SQ_ret, W_block, BQ_normal, BQ_exit, BQ_ret, W_cond, WC_bool, W_draw_q, WQ_nil, WQ_cons, WQ_guard, QG_true, QG_false, QA_quiet, Heap.pad, List.nil_append, List.cons_append, pickR, List.take_succ_cons, List.take_zero, List.take_nil, List.drop_zero, List.drop_succ_cons, binStr, Nat.reduceLeDiff, W_region, WO_nil, WO_cons, WO_move, WO_assign, WO_guard, WG_true, WG_false, WA_some, WA_none, LP_exit, LP_ret, aop, ev, evs, lk, ofConst, ofCell, Nat.beq, cond_true, cond_false, Bool.false_eq_true, if_false, if_true, bin, binInt, un, ok, Rd.run, Nat.reduceLT, true_and, Heap.puts, Heap.put, Heap.at?, decide_true, decide_false, yields, skipped, isSkip, indexAddrR, fieldAddrR, loadR, builtinR, lenB, lenKd, lenR, conv, partOf, TI.agg, List.length_map, List.length_cons, List.length_nil, List.getElem?_map, List.getElem?_cons_zero, List.getElem?_cons_succ, Option.map_some, Option.bind_some, Nat.reduceAdd, Nat.reduceEqDiff, beq_iff_eq, decide_eq_true_eq, Int.natCast_eq_zero, natOf_cast, FQ_ret, FQ_normal, resAll, resOne, oneOf, finish_plain, pl_int, pl_bool, pl_str, pl_fz, pl_agg, pl_tup, pl_clo, pl_undef, pl_nil, pl_cons, Bool.and_self, Bool.and_true, all_int, all_str, int_enc, str_enc, bool_enc, Int.ofNat_lt, boxR, allocR, storeR, overwrite, buildR, fillS, Option.isSome_some, V.cells, V.isCell, List.all_cons, List.all_nil, Bool.and_true, Bool.true_and, not_false_eq_true, and_true, and_self, V.anyIds, V.hasIds, Bool.or_false, Bool.not_false, Bool.or_self, buildSliceR, parts, fillR, List.replicate_succ, List.replicate_zero, List.set_cons_zero, rowIds, appendB, rows?, append_look, appL_some, append_none, List.map_nil, Bool.and_self, Nat.reduceMul, List.length_append, false_or, ne_eq, Nat.one_ne_zero, Nat.lt_add_one, or_self, extractR, max2, min2, List.getElem?_toArray, List.singleton_append, List.append_nil, Bool.and_false, Bool.false_and, eqV4, Bool.true_beq, Bool.false_beq, Bool.not_true, Bool.not_false, WB_nil, WB_cons, WB_guard, BG_true, BG_false, BG_false_none, BA_some, BA_none, QA_noise, QA_noise_none, sigQ_nil, sigQ_snoc, ids1, apB, hits, hasN, Bool.true_or, Bool.false_or, Bool.or_true, Nat.zero_add, List.size_toArray, EQ_ret, EQ_normal, T_3, T_9, T_51, T_145, hlt]
    rw [← hg]
theorem call90 (l : List S145) (hl : l.length < 1000000000000) (n : Nat) : callV (LX T fns) n (.clo 90 []) [.fz (l.map k145.enc)] = .pure (.bool (riseFrom l), []) := callV_plain (fn := fn90) rfl rfl rfl (lim90 l hl) n
end Go.Proofs.Ytfdemnefkfkghaa.R
