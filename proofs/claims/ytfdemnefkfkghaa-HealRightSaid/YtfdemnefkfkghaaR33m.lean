/- Chapter 33's law: nodes of one's own; as deep as is told. -/
import Derived.Test.YtfdemnefkfkghaaR33d
import Derived.Test.YtfdemnefkfkghaaRZ
namespace Go.Proofs.Ytfdemnefkfkghaa.R
open Go Go.Proofs
set_option linter.unusedSimpArgs false
set_option linter.unusedVariables false
set_option maxRecDepth 10000
set_option maxHeartbeats 2000000

/-- A node with lists of its own. -/
def ownV (n : S93) (k : Nat) : V := .agg [.bool n.f0, .ms k 2 0 n.f1.length none, .ms (k + 1) 1 0 n.f2.length none, .ms (k + 2) 4 0 n.f3.length none, .ms (k + 3) 6 0 n.f4.length none]
def ownH (n : S93) : Heap := [some (.buf 2 (n.f1.map k145.enc) false true), some (.buf 1 (n.f2.map Cd.str.enc) false true), some (.buf 4 (n.f3.map k100.enc) false true), some (.buf 6 (n.f4.map k121.enc) false true)]

theorem lim133 (n : S93) (hn : fewN n) : lim T fns 133 [.agg (k93.enc n)] [] = some (ownV n 0, ownH n) := by
  obtain ⟨h1, h2, h3, h4⟩ := hn
  have c1 := callV_clone (T := T) (fns := fns) (g := 188) (fn := fn188) (st := 2) (bytes := 32) rfl rfl (by decide) (all145 n.f1) (by simp; omega)
  have c2 := callV_clone (T := T) (fns := fns) (g := 159) (fn := fn159) (st := 1) (bytes := 16) rfl rfl (by decide) (all_str n.f2) (by simp; omega)
  have c3 := callV_clone (T := T) (fns := fns) (g := 189) (fn := fn189) (st := 4) (bytes := 40) rfl rfl (by decide) (all100 n.f3) (by simp; omega)
  have c4 := callV_clone (T := T) (fns := fns) (g := 190) (fn := fn190) (st := 6) (bytes := 64) rfl rfl (by decide) (all121 n.f4) (by simp; omega)
  simp only [List.length_map] at c1 c2 c3 c4
  refine fn_rule (fn := fn133) rfl rfl (by simp [fn133]) ?_
  unfold fn133
  simp only [Try.f133, Option.getD_some, argEnv, List.map_nil, List.length_nil]
  simp only [W_skip, W_exit, W_ret, W_seq, SQ_normal, SQ_exit, SQ_ret, W_block, BQ_normal, BQ_exit, BQ_ret, W_cond, WC_bool, W_draw_q, WQ_nil, WQ_cons, WQ_guard, QG_true, QG_false, QA_quiet, Heap.pad, List.nil_append, List.cons_append, pickR, List.take_succ_cons, List.take_zero, List.take_nil, List.drop_zero, List.drop_succ_cons, binStr, Nat.reduceLeDiff, W_region, WO_nil, WO_cons, WO_move, WO_assign, WO_guard, WG_true, WG_false, WA_some, WA_none, LP_exit, LP_ret, aop, ev, evs, lk, ofConst, ofCell, Nat.beq, cond_true, cond_false, Bool.false_eq_true, if_false, if_true, bin, binInt, un, ok, Rd.run, Nat.reduceLT, true_and, Heap.puts, Heap.put, Heap.at?, decide_true, decide_false, yields, skipped, isSkip, indexAddrR, fieldAddrR, loadR, builtinR, lenB, lenKd, lenR, conv, partOf, TI.agg, List.length_map, List.length_cons, List.length_nil, List.getElem?_map, List.getElem?_cons_zero, List.getElem?_cons_succ, Option.map_some, Option.bind_some, Nat.reduceAdd, Nat.reduceEqDiff, beq_iff_eq, decide_eq_true_eq, Int.natCast_eq_zero, natOf_cast, FQ_ret, FQ_normal, resAll, resOne, oneOf, finish_plain, pl_int, pl_bool, pl_str, pl_fz, pl_agg, pl_tup, pl_clo, pl_undef, pl_nil, pl_cons, Bool.and_self, Bool.and_true, all_int, all_str, int_enc, str_enc, bool_enc, Int.ofNat_lt, boxR, allocR, storeR, overwrite, buildR, fillS, Option.isSome_some, V.cells, V.isCell, List.all_cons, List.all_nil, Bool.and_true, Bool.true_and, not_false_eq_true, and_true, and_self, V.anyIds, V.hasIds, Bool.or_false, Bool.not_false, Bool.or_self, buildSliceR, parts, fillR, List.replicate_succ, List.replicate_zero, List.set_cons_zero, rowIds, appendB, rows?, append_look, appL_some, append_none, List.map_nil, Bool.and_self, Nat.reduceMul, List.length_append, false_or, ne_eq, Nat.one_ne_zero, Nat.lt_add_one, or_self, extractR, max2, min2, List.getElem?_toArray, List.singleton_append, List.append_nil, Bool.and_false, Bool.false_and, eqV4, Bool.true_beq, Bool.false_beq, Bool.not_true, Bool.not_false, WB_nil, WB_cons, WB_guard, BG_true, BG_false, BG_false_none, BA_some, BA_none, QA_noise, QA_noise_none, sigQ_nil, sigQ_snoc, ids1, apB, hits, hasN, Bool.true_or, Bool.false_or, Bool.or_true, Nat.zero_add, List.size_toArray, EQ_ret, EQ_normal, T_4, T_5, T_9, T_42, T_51, T_69, T_90, T_91, T_93, T_96, T_98, T_100, T_121, T_145, k93_enc, c1, c2, c3, c4]
  repeat (refine ⟨by kernel_rfl, ?_⟩)
  trace_state
  rfl
end Go.Proofs.Ytfdemnefkfkghaa.R
