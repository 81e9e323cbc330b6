/- Chapter 33's law: short texts; 1, whatever block. -/
import Derived.Test.YtfdemnefkfkghaaR33h
namespace Go.Proofs.Ytfdemnefkfkghaa.R
open Go Go.Proofs
set_option linter.unusedSimpArgs false
set_option linter.unusedVariables false
set_option maxRecDepth 10000
set_option maxHeartbeats 2000000

theorem lim219 (s : ByteArray) : lim T fns 219 [.str s] [] = some (.bool (decide (s.size ≤ 16)), []) := by
  refine fn_rule (fn := fn219) rfl rfl (by simp [fn219]) ?_
  unfold fn219
  simp only [Try.f219, Option.getD_some, argEnv, List.map_nil, List.length_nil]
  simp only [W_skip, W_exit, W_ret, W_seq, SQ_normal, SQ_exit, SQ_ret, W_block, BQ_normal, BQ_exit, BQ_ret, W_cond, WC_bool, W_draw_q, WQ_nil, WQ_cons, WQ_guard, QG_true, QG_false, QA_quiet, Heap.pad, List.nil_append, List.cons_append, pickR, List.take_succ_cons, List.take_zero, List.take_nil, List.drop_zero, List.drop_succ_cons, binStr, Nat.reduceLeDiff, W_region, WO_nil, WO_cons, WO_move, WO_assign, WO_guard, WG_true, WG_false, WA_some, WA_none, LP_exit, LP_ret, aop, ev, evs, lk, ofConst, ofCell, Nat.beq, cond_true, cond_false, Bool.false_eq_true, if_false, if_true, bin, binInt, un, ok, Rd.run, Nat.reduceLT, true_and, Heap.puts, Heap.put, Heap.at?, decide_true, decide_false, yields, skipped, isSkip, indexAddrR, fieldAddrR, loadR, builtinR, lenB, lenKd, lenR, conv, partOf, TI.agg, List.length_map, List.length_cons, List.length_nil, List.getElem?_map, List.getElem?_cons_zero, List.getElem?_cons_succ, Option.map_some, Option.bind_some, Nat.reduceAdd, Nat.reduceEqDiff, beq_iff_eq, decide_eq_true_eq, Int.natCast_eq_zero, natOf_cast, FQ_ret, FQ_normal, resAll, resOne, oneOf, finish_plain, pl_int, pl_bool, pl_str, pl_fz, pl_agg, pl_tup, pl_clo, pl_undef, pl_nil, pl_cons, Bool.and_self, Bool.and_true, all_int, all_str, int_enc, str_enc, bool_enc, Int.ofNat_lt, boxR, allocR, storeR, overwrite, buildR, fillS, Option.isSome_some, V.cells, V.isCell, List.all_cons, List.all_nil, Bool.and_true, Bool.true_and, not_false_eq_true, and_true, and_self, V.anyIds, V.hasIds, Bool.or_false, Bool.not_false, Bool.or_self, buildSliceR, parts, fillR, List.replicate_succ, List.replicate_zero, List.set_cons_zero, rowIds, appendB, rows?, append_look, appL_some, append_none, List.map_nil, Bool.and_self, Nat.reduceMul, List.length_append, false_or, ne_eq, Nat.one_ne_zero, Nat.lt_add_one, or_self, extractR, max2, min2, List.getElem?_toArray, List.singleton_append, List.append_nil, Bool.and_false, Bool.false_and, eqV4, Bool.true_beq, Bool.false_beq, Bool.not_true, Bool.not_false, WB_nil, WB_cons, WB_guard, BG_true, BG_false, BG_false_none, BA_some, BA_none, QA_noise, QA_noise_none, sigQ_nil, sigQ_snoc, ids1, apB, hits, hasN, Bool.true_or, Bool.false_or, Bool.or_true, Nat.zero_add, List.size_toArray, EQ_ret, EQ_normal, T_3, T_9]
  have : decide ((s.size : Int) ≤ 16) = decide (s.size ≤ 16) := by simp only [decide_eq_decide]; omega
  rw [this]
theorem call219 (s : ByteArray) (n : Nat) : callV (LX T fns) n (.clo 219 []) [.str s] = .pure (.bool (decide (s.size ≤ 16)), []) := callV_plain (fn := fn219) rfl rfl rfl (lim219 s) n

theorem lim128 (b : Int) : lim T fns 128 [.int .u32 b] [] = some (.int .u16 1, []) := by
  refine fn_rule (fn := fn128) rfl rfl (by simp [fn128]) ?_
  unfold fn128
  simp only [Try.f128, Option.getD_some, argEnv, List.map_nil, List.length_nil]
  simp only [W_skip, W_exit, W_ret, W_seq, SQ_normal, SQ_exit, SQ_ret, W_block, BQ_normal, BQ_exit, BQ_ret, W_cond, WC_bool, W_draw_q, WQ_nil, WQ_cons, WQ_guard, QG_true, QG_false, QA_quiet, Heap.pad, List.nil_append, List.cons_append, pickR, List.take_succ_cons, List.take_zero, List.take_nil, List.drop_zero, List.drop_succ_cons, binStr, Nat.reduceLeDiff, W_region, WO_nil, WO_cons, WO_move, WO_assign, WO_guard, WG_true, WG_false, WA_some, WA_none, LP_exit, LP_ret, aop, ev, evs, lk, ofConst, ofCell, Nat.beq, cond_true, cond_false, Bool.false_eq_true, if_false, if_true, bin, binInt, un, ok, Rd.run, Nat.reduceLT, true_and, Heap.puts, Heap.put, Heap.at?, decide_true, decide_false, yields, skipped, isSkip, indexAddrR, fieldAddrR, loadR, builtinR, lenB, lenKd, lenR, conv, partOf, TI.agg, List.length_map, List.length_cons, List.length_nil, List.getElem?_map, List.getElem?_cons_zero, List.getElem?_cons_succ, Option.map_some, Option.bind_some, Nat.reduceAdd, Nat.reduceEqDiff, beq_iff_eq, decide_eq_true_eq, Int.natCast_eq_zero, natOf_cast, FQ_ret, FQ_normal, resAll, resOne, oneOf, finish_plain, pl_int, pl_bool, pl_str, pl_fz, pl_agg, pl_tup, pl_clo, pl_undef, pl_nil, pl_cons, Bool.and_self, Bool.and_true, all_int, all_str, int_enc, str_enc, bool_enc, Int.ofNat_lt, boxR, allocR, storeR, overwrite, buildR, fillS, Option.isSome_some, V.cells, V.isCell, List.all_cons, List.all_nil, Bool.and_true, Bool.true_and, not_false_eq_true, and_true, and_self, V.anyIds, V.hasIds, Bool.or_false, Bool.not_false, Bool.or_self, buildSliceR, parts, fillR, List.replicate_succ, List.replicate_zero, List.set_cons_zero, rowIds, appendB, rows?, append_look, appL_some, append_none, List.map_nil, Bool.and_self, Nat.reduceMul, List.length_append, false_or, ne_eq, Nat.one_ne_zero, Nat.lt_add_one, or_self, extractR, max2, min2, List.getElem?_toArray, List.singleton_append, List.append_nil, Bool.and_false, Bool.false_and, eqV4, Bool.true_beq, Bool.false_beq, Bool.not_true, Bool.not_false, WB_nil, WB_cons, WB_guard, BG_true, BG_false, BG_false_none, BA_some, BA_none, QA_noise, QA_noise_none, sigQ_nil, sigQ_snoc, ids1, apB, hits, hasN, Bool.true_or, Bool.false_or, Bool.or_true, Nat.zero_add, List.size_toArray, EQ_ret, EQ_normal, ]
theorem call128 (b : Int) (n : Nat) : callV (LX T fns) n (.clo 128 []) [.int .u32 b] = .pure (.int .u16 1, []) := callV_plain (fn := fn128) rfl rfl rfl (lim128 b) n

def mayMsg2 (m : S121) : Bool := decide (m.f1.size ≤ 16) && (if m.f0 = 1 then decide (m.f2.size ≤ 32) && decide (m = ⟨1, m.f1, m.f2, 0, 0, ⟨#[]⟩⟩) else if m.f0 = 2 then decide (m = ⟨2, m.f1, ⟨#[]⟩, 0, 0, ⟨#[]⟩⟩)
  else if m.f0 = 3 then decide (m.f5.size ≤ 16) && decide (m.f4 ≥ 1) && decide (m.f2 = ⟨#[]⟩) else false)

theorem lim222 (m : S121) : lim T fns 222 [.agg (k121.enc m)] [] = some (.bool (mayMsg2 m), []) := by
  refine fn_rule (fn := fn222) rfl rfl (by simp [fn222]) ?_
  unfold fn222
  simp only [Try.f222, Option.getD_some, argEnv, List.map_nil, List.length_nil]
  have q1 := eq121 m ⟨1, m.f1, m.f2, 0, 0, ⟨#[]⟩⟩
  have q2 := eq121 m ⟨2, m.f1, ⟨#[]⟩, 0, 0, ⟨#[]⟩⟩
  simp only at q1 q2
  have hm : mayMsg2 m = (decide (m.f1.size ≤ 16) && (if m.f0 = 1 then decide (m.f2.size ≤ 32) && decide (m = ⟨1, m.f1, m.f2, 0, 0, ⟨#[]⟩⟩) else if m.f0 = 2 then decide (m = ⟨2, m.f1, ⟨#[]⟩, 0, 0, ⟨#[]⟩⟩)
    else if m.f0 = 3 then decide (m.f5.size ≤ 16) && decide (m.f4 ≥ 1) && decide (m.f2 = ⟨#[]⟩) else false)) := rfl
  have d1 : decide ((m.f1.size : Int) > 16) = !decide (m.f1.size ≤ 16) := by
    by_cases h : m.f1.size ≤ 16
    · have : ¬ ((m.f1.size : Int) > 16) := by omega
      simp [h, this]
    · have : (m.f1.size : Int) > 16 := by omega
      simp [h, this]
  have d2 : decide ((m.f2.size : Int) ≤ 32) = decide (m.f2.size ≤ 32) := by simp only [decide_eq_decide]; omega
  have d3 : decide ((m.f5.size : Int) ≤ 16) = decide (m.f5.size ≤ 16) := by simp only [decide_eq_decide]; omega
  cases h1 : decide (m.f1.size ≤ 16) with
  | false =>
    rw [h1] at d1 hm
    simp only [W_skip, W_exit, W_ret, W_seq, SQ_normal, SQ_exit, SQ_ret, W_block, BQ_normal, BQ_exit, BQ_ret, W_cond, WC_bool, W_draw_q, WQ_nil, WQ_cons, WQ_guard, QG_true, QG_false, QA_quiet, Heap.pad, List.nil_append, List.cons_append, pickR, List.take_succ_cons, List.take_zero, List.take_nil, List.drop_zero, List.drop_succ_cons, binStr, Nat.reduceLeDiff, W_region, WO_nil, WO_cons, WO_move, WO_assign, WO_guard, WG_true, WG_false, WA_some, WA_none, LP_exit, LP_ret, aop, ev, evs, lk, ofConst, ofCell, Nat.beq, cond_true, cond_false, Bool.false_eq_true, if_false, if_true, bin, binInt, un, ok, Rd.run, Nat.reduceLT, true_and, Heap.puts, Heap.put, Heap.at?, decide_true, decide_false, yields, skipped, isSkip, indexAddrR, fieldAddrR, loadR, builtinR, lenB, lenKd, lenR, conv, partOf, TI.agg, List.length_map, List.length_cons, List.length_nil, List.getElem?_map, List.getElem?_cons_zero, List.getElem?_cons_succ, Option.map_some, Option.bind_some, Nat.reduceAdd, Nat.reduceEqDiff, beq_iff_eq, decide_eq_true_eq, Int.natCast_eq_zero, natOf_cast, FQ_ret, FQ_normal, resAll, resOne, oneOf, finish_plain, pl_int, pl_bool, pl_str, pl_fz, pl_agg, pl_tup, pl_clo, pl_undef, pl_nil, pl_cons, Bool.and_self, Bool.and_true, all_int, all_str, int_enc, str_enc, bool_enc, Int.ofNat_lt, boxR, allocR, storeR, overwrite, buildR, fillS, Option.isSome_some, V.cells, V.isCell, List.all_cons, List.all_nil, Bool.and_true, Bool.true_and, not_false_eq_true, and_true, and_self, V.anyIds, V.hasIds, Bool.or_false, Bool.not_false, Bool.or_self, buildSliceR, parts, fillR, List.replicate_succ, List.replicate_zero, List.set_cons_zero, rowIds, appendB, rows?, append_look, appL_some, append_none, List.map_nil, Bool.and_self, Nat.reduceMul, List.length_append, false_or, ne_eq, Nat.one_ne_zero, Nat.lt_add_one, or_self, extractR, max2, min2, List.getElem?_toArray, List.singleton_append, List.append_nil, Bool.and_false, Bool.false_and, eqV4, Bool.true_beq, Bool.false_beq, Bool.not_true, Bool.not_false, WB_nil, WB_cons, WB_guard, BG_true, BG_false, BG_false_none, BA_some, BA_none, QA_noise, QA_noise_none, sigQ_nil, sigQ_snoc, ids1, apB, hits, hasN, Bool.true_or, Bool.false_or, Bool.or_true, Nat.zero_add, List.size_toArray, EQ_ret, EQ_normal, T_3, T_5, T_9, T_42, T_96, T_121, k121_enc, d1]
    simp [hm]
  | true =>
  rw [h1] at d1 hm
  cases h2 : decide (m.f2.size ≤ 32) <;> cases h3 : decide (m.f5.size ≤ 16) <;> cases h4 : decide (m.f4 ≥ 1)
  all_goals
    rw [h2] at d2
    rw [h3] at d3
    rw [h2, h3, h4] at hm
    simp only [W_skip, W_exit, W_ret, W_seq, SQ_normal, SQ_exit, SQ_ret, W_block, BQ_normal, BQ_exit, BQ_ret, W_cond, WC_bool, W_draw_q, WQ_nil, WQ_cons, WQ_guard, QG_true, QG_false, QA_quiet, Heap.pad, List.nil_append, List.cons_append, pickR, List.take_succ_cons, List.take_zero, List.take_nil, List.drop_zero, List.drop_succ_cons, binStr, Nat.reduceLeDiff, W_region, WO_nil, WO_cons, WO_move, WO_assign, WO_guard, WG_true, WG_false, WA_some, WA_none, LP_exit, LP_ret, aop, ev, evs, lk, ofConst, ofCell, Nat.beq, cond_true, cond_false, Bool.false_eq_true, if_false, if_true, bin, binInt, un, ok, Rd.run, Nat.reduceLT, true_and, Heap.puts, Heap.put, Heap.at?, decide_true, decide_false, yields, skipped, isSkip, indexAddrR, fieldAddrR, loadR, builtinR, lenB, lenKd, lenR, conv, partOf, TI.agg, List.length_map, List.length_cons, List.length_nil, List.getElem?_map, List.getElem?_cons_zero, List.getElem?_cons_succ, Option.map_some, Option.bind_some, Nat.reduceAdd, Nat.reduceEqDiff, beq_iff_eq, decide_eq_true_eq, Int.natCast_eq_zero, natOf_cast, FQ_ret, FQ_normal, resAll, resOne, oneOf, finish_plain, pl_int, pl_bool, pl_str, pl_fz, pl_agg, pl_tup, pl_clo, pl_undef, pl_nil, pl_cons, Bool.and_self, Bool.and_true, all_int, all_str, int_enc, str_enc, bool_enc, Int.ofNat_lt, boxR, allocR, storeR, overwrite, buildR, fillS, Option.isSome_some, V.cells, V.isCell, List.all_cons, List.all_nil, Bool.and_true, Bool.true_and, not_false_eq_true, and_true, and_self, V.anyIds, V.hasIds, Bool.or_false, Bool.not_false, Bool.or_self, buildSliceR, parts, fillR, List.replicate_succ, List.replicate_zero, List.set_cons_zero, rowIds, appendB, rows?, append_look, appL_some, append_none, List.map_nil, Bool.and_self, Nat.reduceMul, List.length_append, false_or, ne_eq, Nat.one_ne_zero, Nat.lt_add_one, or_self, extractR, max2, min2, List.getElem?_toArray, List.singleton_append, List.append_nil, Bool.and_false, Bool.false_and, eqV4, Bool.true_beq, Bool.false_beq, Bool.not_true, Bool.not_false, WB_nil, WB_cons, WB_guard, BG_true, BG_false, BG_false_none, BA_some, BA_none, QA_noise, QA_noise_none, sigQ_nil, sigQ_snoc, ids1, apB, hits, hasN, Bool.true_or, Bool.false_or, Bool.or_true, Nat.zero_add, List.size_toArray, EQ_ret, EQ_normal, T_3, T_5, T_9, T_42, T_96, T_121, k121_enc, d1, d2, d3, h4, q1, q2, ba_toList]
    rw [hm]
    repeat' split
    all_goals simp_all
theorem call222 (m : S121) (n : Nat) : callV (LX T fns) n (.clo 222 []) [.agg (k121.enc m)] = .pure (.bool (mayMsg2 m), []) := callV_plain (fn := fn222) rfl rfl rfl (lim222 m) n
theorem mayMsg2_eq (m : S121) : mayMsg2 m = mayMsg m := by
  obtain ⟨a, b, c, d, e, f⟩ := m
  unfold mayMsg2 mayMsg toS
  rw [Bool.eq_iff_iff]
  have hc : c = ⟨#[]⟩ → c.size = 0 := by rintro rfl; rfl
  have hf : f = ⟨#[]⟩ → f.size = 0 := by rintro rfl; rfl
  by_cases h1 : a = 1
  · subst h1
    simp only [S121.mk.injEq, if_true, Bool.and_eq_true, Bool.not_eq_true', Bool.or_eq_false_iff, decide_eq_true_eq, decide_eq_false_iff_not, bne_eq_false_iff_eq, Bool.not_eq_false', true_and]
    constructor
    · rintro ⟨g1, g2, g3, g4, g5⟩
      have := hf g5
      exact ⟨⟨⟨by omega, by omega⟩, by omega⟩, ⟨g3, g4⟩, g5⟩
    · rintro ⟨⟨⟨g1, g2⟩, g3⟩, ⟨g4, g5⟩, g6⟩
      exact ⟨by omega, by omega, g4, g5, g6⟩
  by_cases h2 : a = 2
  · subst h2
    simp only [S121.mk.injEq, h1, if_true, if_false, Bool.and_eq_true, Bool.not_eq_true', Bool.or_eq_false_iff, decide_eq_true_eq, decide_eq_false_iff_not, bne_eq_false_iff_eq, Bool.not_eq_false', true_and]
    constructor
    · rintro ⟨g1, g2, g3, g4, g5⟩
      have := hf g5
      have := hc g2
      exact ⟨⟨⟨by omega, by omega⟩, by omega⟩, ⟨⟨g3, g4⟩, g5⟩, g2⟩
    · rintro ⟨⟨⟨g1, g2⟩, g3⟩, ⟨⟨g4, g5⟩, g6⟩, g7⟩
      exact ⟨by omega, g7, g4, g5, g6⟩
  by_cases h3 : a = 3
  · subst h3
    simp only [h1, h2, if_true, if_false, Bool.and_eq_true, Bool.not_eq_true', Bool.or_eq_false_iff, decide_eq_true_eq, decide_eq_false_iff_not]
    constructor
    · rintro ⟨g1, ⟨g2, g3⟩, g4⟩
      have := hc g4
      exact ⟨⟨⟨by omega, by omega⟩, by omega⟩, by omega, g4⟩
    · rintro ⟨⟨⟨g1, g2⟩, g3⟩, g4, g5⟩
      exact ⟨by omega, ⟨by omega, by omega⟩, g5⟩
  · simp [h1, h2, h3]
end Go.Proofs.Ytfdemnefkfkghaa.R
