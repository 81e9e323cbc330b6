/- Chapter 33's law: is there a node so deep? -/
import Derived.Test.YtfdemnefkfkghaaR33j
namespace Go.Proofs.Ytfdemnefkfkghaa.R
open Go Go.Proofs
set_option linter.unusedSimpArgs false
set_option linter.unusedVariables false
set_option maxRecDepth 10000
set_option maxHeartbeats 2000000

def wfL (l : List S95) : Prop := ∀ x ∈ l, wfN x.f1
theorem find_mem {b : Int} : ∀ {l : List S95} {n : S93}, find b l = some n → ∃ x ∈ l, x.f0 = b ∧ x.f1 = n
  | [], n, h => by simp [find] at h
  | x :: r, n, h => by
    unfold find at h
    split at h
    · rename_i e
      cases h
      exact ⟨x, .head _, e, rfl⟩
    · obtain ⟨y, hy, h1, h2⟩ := find_mem h
      exact ⟨y, .tail _ hy, h1, h2⟩
def leads (l : List S95) (b d : Int) : Bool := match find b l with
  | some n => decide (d < 65535) && decide (deepN n = d)
  | none => false

theorem lim71 (l : List S95) (b d : Int) (hl : fewL l) (hw : wfL l) : lim T fns 71 [.fz (l.map k95.enc), .int .u32 b, .int .u16 d] [] = some (.bool (leads l b d), []) := by
  refine fn_rule (fn := fn71) rfl rfl (by simp [fn71]) ?_
  unfold fn71
  simp only [Try.f71, Option.getD_some, argEnv, List.map_nil, List.length_nil]
  have hc := call68 l b hl
  cases hf : find b l with
  | none =>
    simp only [hf, Option.getD_none, Option.isSome_none, k93_enc, noNode, List.map_nil] at hc
    simp only [W_skip, W_exit, W_ret, W_seq, SQ_normal, SQ_exit, SQ_ret, W_block, BQ_normal, BQ_exit, BQ_ret, W_cond, WC_bool, W_draw_q, WQ_nil, WQ_cons, WQ_guard, QG_true, QG_false, QA_quiet, Heap.pad, List.nil_append, List.cons_append, pickR, List.take_succ_cons, List.take_zero, List.take_nil, List.drop_zero, List.drop_succ_cons, binStr, Nat.reduceLeDiff, W_region, WO_nil, WO_cons, WO_move, WO_assign, WO_guard, WG_true, WG_false, WA_some, WA_none, LP_exit, LP_ret, aop, ev, evs, lk, ofConst, ofCell, Nat.beq, cond_true, cond_false, Bool.false_eq_true, if_false, if_true, bin, binInt, un, ok, Rd.run, Nat.reduceLT, true_and, Heap.puts, Heap.put, Heap.at?, decide_true, decide_false, yields, skipped, isSkip, indexAddrR, fieldAddrR, loadR, builtinR, lenB, lenKd, lenR, conv, partOf, TI.agg, List.length_map, List.length_cons, List.length_nil, List.getElem?_map, List.getElem?_cons_zero, List.getElem?_cons_succ, Option.map_some, Option.bind_some, Nat.reduceAdd, Nat.reduceEqDiff, beq_iff_eq, decide_eq_true_eq, Int.natCast_eq_zero, natOf_cast, FQ_ret, FQ_normal, resAll, resOne, oneOf, finish_plain, pl_int, pl_bool, pl_str, pl_fz, pl_agg, pl_tup, pl_clo, pl_undef, pl_nil, pl_cons, Bool.and_self, Bool.and_true, all_int, all_str, int_enc, str_enc, bool_enc, Int.ofNat_lt, boxR, allocR, storeR, overwrite, buildR, fillS, Option.isSome_some, V.cells, V.isCell, List.all_cons, List.all_nil, Bool.and_true, Bool.true_and, not_false_eq_true, and_true, and_self, V.anyIds, V.hasIds, Bool.or_false, Bool.not_false, Bool.or_self, buildSliceR, parts, fillR, List.replicate_succ, List.replicate_zero, List.set_cons_zero, rowIds, appendB, rows?, append_look, appL_some, append_none, List.map_nil, Bool.and_self, Nat.reduceMul, List.length_append, false_or, ne_eq, Nat.one_ne_zero, Nat.lt_add_one, or_self, extractR, max2, min2, List.getElem?_toArray, List.singleton_append, List.append_nil, Bool.and_false, Bool.false_and, eqV4, Bool.true_beq, Bool.false_beq, Bool.not_true, Bool.not_false, WB_nil, WB_cons, WB_guard, BG_true, BG_false, BG_false_none, BA_some, BA_none, QA_noise, QA_noise_none, sigQ_nil, sigQ_snoc, ids1, apB, hits, hasN, Bool.true_or, Bool.false_or, Bool.or_true, Nat.zero_add, List.size_toArray, EQ_ret, EQ_normal, T_4, T_5, T_9, T_22, T_42, T_51, T_69, T_90, T_91, T_93, T_95, T_96, T_98, T_100, T_121, T_145, hc]
    simp [leads, hf]
  | some n =>
    obtain ⟨x, hx, _, rfl⟩ := find_mem hf
    have hd := call116 x.f1 (hl.2 x hx) (hw x hx)
    simp only [hf, Option.getD_some, Option.isSome_some, k93_enc] at hc
    simp only [k93_enc] at hd
    cases h1 : decide (d < 65535) with
    | true =>
      simp only [W_skip, W_exit, W_ret, W_seq, SQ_normal, SQ_exit, SQ_ret, W_block, BQ_normal, BQ_exit, BQ_ret, W_cond, WC_bool, W_draw_q, WQ_nil, WQ_cons, WQ_guard, QG_true, QG_false, QA_quiet, Heap.pad, List.nil_append, List.cons_append, pickR, List.take_succ_cons, List.take_zero, List.take_nil, List.drop_zero, List.drop_succ_cons, binStr, Nat.reduceLeDiff, W_region, WO_nil, WO_cons, WO_move, WO_assign, WO_guard, WG_true, WG_false, WA_some, WA_none, LP_exit, LP_ret, aop, ev, evs, lk, ofConst, ofCell, Nat.beq, cond_true, cond_false, Bool.false_eq_true, if_false, if_true, bin, binInt, un, ok, Rd.run, Nat.reduceLT, true_and, Heap.puts, Heap.put, Heap.at?, decide_true, decide_false, yields, skipped, isSkip, indexAddrR, fieldAddrR, loadR, builtinR, lenB, lenKd, lenR, conv, partOf, TI.agg, List.length_map, List.length_cons, List.length_nil, List.getElem?_map, List.getElem?_cons_zero, List.getElem?_cons_succ, Option.map_some, Option.bind_some, Nat.reduceAdd, Nat.reduceEqDiff, beq_iff_eq, decide_eq_true_eq, Int.natCast_eq_zero, natOf_cast, FQ_ret, FQ_normal, resAll, resOne, oneOf, finish_plain, pl_int, pl_bool, pl_str, pl_fz, pl_agg, pl_tup, pl_clo, pl_undef, pl_nil, pl_cons, Bool.and_self, Bool.and_true, all_int, all_str, int_enc, str_enc, bool_enc, Int.ofNat_lt, boxR, allocR, storeR, overwrite, buildR, fillS, Option.isSome_some, V.cells, V.isCell, List.all_cons, List.all_nil, Bool.and_true, Bool.true_and, not_false_eq_true, and_true, and_self, V.anyIds, V.hasIds, Bool.or_false, Bool.not_false, Bool.or_self, buildSliceR, parts, fillR, List.replicate_succ, List.replicate_zero, List.set_cons_zero, rowIds, appendB, rows?, append_look, appL_some, append_none, List.map_nil, Bool.and_self, Nat.reduceMul, List.length_append, false_or, ne_eq, Nat.one_ne_zero, Nat.lt_add_one, or_self, extractR, max2, min2, List.getElem?_toArray, List.singleton_append, List.append_nil, Bool.and_false, Bool.false_and, eqV4, Bool.true_beq, Bool.false_beq, Bool.not_true, Bool.not_false, WB_nil, WB_cons, WB_guard, BG_true, BG_false, BG_false_none, BA_some, BA_none, QA_noise, QA_noise_none, sigQ_nil, sigQ_snoc, ids1, apB, hits, hasN, Bool.true_or, Bool.false_or, Bool.or_true, Nat.zero_add, List.size_toArray, EQ_ret, EQ_normal, T_4, T_5, T_9, T_22, T_42, T_51, T_69, T_90, T_91, T_93, T_95, T_96, T_98, T_100, T_121, T_145, hc, hd, h1]
      simp only [leads, hf, h1, Bool.true_and]
      rw [show (deepN x.f1 == d) = decide (deepN x.f1 = d) from rfl]
    | false =>
      simp only [W_skip, W_exit, W_ret, W_seq, SQ_normal, SQ_exit, SQ_ret, W_block, BQ_normal, BQ_exit, BQ_ret, W_cond, WC_bool, W_draw_q, WQ_nil, WQ_cons, WQ_guard, QG_true, QG_false, QA_quiet, Heap.pad, List.nil_append, List.cons_append, pickR, List.take_succ_cons, List.take_zero, List.take_nil, List.drop_zero, List.drop_succ_cons, binStr, Nat.reduceLeDiff, W_region, WO_nil, WO_cons, WO_move, WO_assign, WO_guard, WG_true, WG_false, WA_some, WA_none, LP_exit, LP_ret, aop, ev, evs, lk, ofConst, ofCell, Nat.beq, cond_true, cond_false, Bool.false_eq_true, if_false, if_true, bin, binInt, un, ok, Rd.run, Nat.reduceLT, true_and, Heap.puts, Heap.put, Heap.at?, decide_true, decide_false, yields, skipped, isSkip, indexAddrR, fieldAddrR, loadR, builtinR, lenB, lenKd, lenR, conv, partOf, TI.agg, List.length_map, List.length_cons, List.length_nil, List.getElem?_map, List.getElem?_cons_zero, List.getElem?_cons_succ, Option.map_some, Option.bind_some, Nat.reduceAdd, Nat.reduceEqDiff, beq_iff_eq, decide_eq_true_eq, Int.natCast_eq_zero, natOf_cast, FQ_ret, FQ_normal, resAll, resOne, oneOf, finish_plain, pl_int, pl_bool, pl_str, pl_fz, pl_agg, pl_tup, pl_clo, pl_undef, pl_nil, pl_cons, Bool.and_self, Bool.and_true, all_int, all_str, int_enc, str_enc, bool_enc, Int.ofNat_lt, boxR, allocR, storeR, overwrite, buildR, fillS, Option.isSome_some, V.cells, V.isCell, List.all_cons, List.all_nil, Bool.and_true, Bool.true_and, not_false_eq_true, and_true, and_self, V.anyIds, V.hasIds, Bool.or_false, Bool.not_false, Bool.or_self, buildSliceR, parts, fillR, List.replicate_succ, List.replicate_zero, List.set_cons_zero, rowIds, appendB, rows?, append_look, appL_some, append_none, List.map_nil, Bool.and_self, Nat.reduceMul, List.length_append, false_or, ne_eq, Nat.one_ne_zero, Nat.lt_add_one, or_self, extractR, max2, min2, List.getElem?_toArray, List.singleton_append, List.append_nil, Bool.and_false, Bool.false_and, eqV4, Bool.true_beq, Bool.false_beq, Bool.not_true, Bool.not_false, WB_nil, WB_cons, WB_guard, BG_true, BG_false, BG_false_none, BA_some, BA_none, QA_noise, QA_noise_none, sigQ_nil, sigQ_snoc, ids1, apB, hits, hasN, Bool.true_or, Bool.false_or, Bool.or_true, Nat.zero_add, List.size_toArray, EQ_ret, EQ_normal, T_4, T_5, T_9, T_22, T_42, T_51, T_69, T_90, T_91, T_93, T_95, T_96, T_98, T_100, T_121, T_145, hc, hd, h1]
      simp only [leads, hf, h1, Bool.false_and]
theorem call71 (l : List S95) (b d : Int) (hl : fewL l) (hw : wfL l) (k : Nat) : callV (LX T fns) k (.clo 71 []) [.fz (l.map k95.enc), .int .u32 b, .int .u16 d] = .pure (.bool (leads l b d), []) := callV_plain (fn := fn71) rfl rfl rfl (lim71 l b d hl hw) k
end Go.Proofs.Ytfdemnefkfkghaa.R
