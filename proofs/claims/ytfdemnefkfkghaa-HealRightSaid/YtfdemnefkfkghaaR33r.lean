/- Chapter 33's law: are items right, whatever they say of depths? How deep is a block? -/
import Derived.Test.YtfdemnefkfkghaaR33q
namespace Go.Proofs.Ytfdemnefkfkghaa.R
open Go Go.Proofs
set_option linter.unusedSimpArgs false
set_option linter.unusedVariables false
set_option maxRecDepth 10000
set_option maxHeartbeats 4000000

theorem few_with {n : S93} (f : Int → Int) (hn : fewN n) : fewN (withN f n) := by
  obtain ⟨h1, h2, h3, h4⟩ := hn
  exact ⟨h1, h2, by simp [withN]; exact h3, by simp [withN]; exact h4⟩
theorem wf_with {n : S93} {f : Int → Int} (hn : wfN n) (hf : ∀ b, 0 ≤ f b ∧ f b ≤ 65535) : wfN (withN f n) := by
  refine ⟨fun e he => ?_, fun m hm => ?_⟩
  · obtain ⟨x, _, rfl⟩ := List.mem_map.1 he
    exact hf x.f0
  · obtain ⟨x, hx, rfl⟩ := List.mem_map.1 hm
    unfold withM
    split
    · exact hf x.f3
    · exact hn.2 x hx
abbrev flat (n : S93) : S93 := withN (fun _ => 1) n
/-- Are blocks rising, and nodes right, whatever they say of depths? -/
def formedB : Option Int → List S95 → Bool
  | _, [] => true
  | none, x :: r => (mayN (flat x.f1) == 0) && formedB (some x.f0) r
  | some p, x :: r => (!decide (x.f0 ≤ p) && (mayN (flat x.f1) == 0)) && formedB (some x.f0) r

theorem lim60 (l : List S95) (hl : fewL l) (hw : wfL l) : lim T fns 60 [.fz (l.map k95.enc)] [] = some (.int .i64 (if formedB none l = true then 0 else 3), []) := by
  obtain ⟨hl1, hln⟩ := hl
  refine fn_rule (fn := fn60) rfl rfl (by simp [fn60]) ?_
  unfold fn60
  simp only [Try.f60, Option.getD_some, argEnv, List.map_nil, List.length_nil]
  simp only [W_skip, W_exit, W_ret, W_seq, SQ_normal, SQ_exit, SQ_ret, W_block, BQ_normal, BQ_exit, BQ_ret, W_cond, WC_bool, W_draw_q, WQ_nil, WQ_cons, WQ_guard, QG_true, QG_false, QA_quiet, Heap.pad, List.nil_append, List.cons_append, pickR, List.take_succ_cons, List.take_zero, List.take_nil, List.drop_zero, List.drop_succ_cons, binStr, Nat.reduceLeDiff, W_region, WO_nil, WO_cons, WO_move, WO_assign, WO_guard, WG_true, WG_false, WA_some, WA_none, LP_exit, LP_ret, aop, ev, evs, lk, ofConst, ofCell, Nat.beq, cond_true, cond_false, Bool.false_eq_true, if_false, if_true, bin, binInt, un, ok, Rd.run, Nat.reduceLT, true_and, Heap.puts, Heap.put, Heap.at?, decide_true, decide_false, yields, skipped, isSkip, indexAddrR, fieldAddrR, loadR, builtinR, lenB, lenKd, lenR, conv, partOf, TI.agg, List.length_map, List.length_cons, List.length_nil, List.getElem?_map, List.getElem?_cons_zero, List.getElem?_cons_succ, Option.map_some, Option.bind_some, Nat.reduceAdd, Nat.reduceEqDiff, beq_iff_eq, decide_eq_true_eq, Int.natCast_eq_zero, natOf_cast, FQ_ret, FQ_normal, resAll, resOne, oneOf, finish_plain, pl_int, pl_bool, pl_str, pl_fz, pl_agg, pl_tup, pl_clo, pl_undef, pl_nil, pl_cons, Bool.and_self, Bool.and_true, all_int, all_str, int_enc, str_enc, bool_enc, Int.ofNat_lt, boxR, allocR, storeR, overwrite, buildR, fillS, Option.isSome_some, V.cells, V.isCell, List.all_cons, List.all_nil, Bool.and_true, Bool.true_and, not_false_eq_true, and_true, and_self, V.anyIds, V.hasIds, Bool.or_false, Bool.not_false, Bool.or_self, buildSliceR, parts, fillR, List.replicate_succ, List.replicate_zero, List.set_cons_zero, rowIds, appendB, rows?, append_look, appL_some, append_none, List.map_nil, Bool.and_self, Nat.reduceMul, List.length_append, false_or, ne_eq, Nat.one_ne_zero, Nat.lt_add_one, or_self, extractR, max2, min2, List.getElem?_toArray, List.singleton_append, List.append_nil, Bool.and_false, Bool.false_and, eqV4, Bool.true_beq, Bool.false_beq, Bool.not_true, Bool.not_false, WB_nil, WB_cons, WB_guard, BG_true, BG_false, BG_false_none, BA_some, BA_none, QA_noise, QA_noise_none, sigQ_nil, sigQ_snoc, ids1, apB, hits, hasN, Bool.true_or, Bool.false_or, Bool.or_true, Nat.zero_add, List.size_toArray, EQ_ret, EQ_normal, T_3, T_4, T_5, T_9, T_22, T_25, T_42, T_51, T_69, T_90, T_91, T_93, T_95, T_96, T_98, T_100, T_109, T_121, T_145]
  refine loop_rule (ι := Nat) (S := fun i => ⟨[(0, .fz (l.map k95.enc)), (6, .fz (l.map k95.enc)), (7, .int .i64 l.length), (8, .int .i64 i)], []⟩) (m := fun i => l.length + 1 - i)
    (I := fun i => i ≤ l.length ∧ formedB (if i = 0 then none else l[i - 1]?.map (·.f0)) (l.drop i) = formedB none l) ?_ 0 _ ⟨by omega, by simp⟩ rfl
  rintro i ⟨hi, hg⟩
  by_cases hlt : i < l.length
  · have hx : l[i]? = some l[i] := List.getElem?_eq_getElem hlt
    have hn := hln l[i] (List.getElem_mem hlt)
    have hwn := hw l[i] (List.getElem_mem hlt)
    have hc := call63a l[i].f1 hn
    have hc2 := call129 (flat l[i].f1) (few_with _ hn) (wf_with hwn fun _ => by omega)
    simp only [k93_enc] at hc hc2
    rw [List.drop_eq_getElem_cons hlt] at hg
    have hmm : ∀ a : Int, (a != 0) = !(a == 0) := fun a => rfl
    cases i with
    | zero =>
      have k1 : decide (((0 : Nat) : Int) > 0) = false := by simp
      simp only [if_true, formedB] at hg
      cases k2 : (mayN (flat l[0].f1) == 0) with
      | true =>
        rw [k2] at hg
        simp only [W_skip, W_exit, W_ret, W_seq, SQ_normal, SQ_exit, SQ_ret, W_block, BQ_normal, BQ_exit, BQ_ret, W_cond, WC_bool, W_draw_q, WQ_nil, WQ_cons, WQ_guard, QG_true, QG_false, QA_quiet, Heap.pad, List.nil_append, List.cons_append, pickR, List.take_succ_cons, List.take_zero, List.take_nil, List.drop_zero, List.drop_succ_cons, binStr, Nat.reduceLeDiff, W_region, WO_nil, WO_cons, WO_move, WO_assign, WO_guard, WG_true, WG_false, WA_some, WA_none, LP_exit, LP_ret, aop, ev, evs, lk, ofConst, ofCell, Nat.beq, cond_true, cond_false, Bool.false_eq_true, if_false, if_true, bin, binInt, un, ok, Rd.run, Nat.reduceLT, true_and, Heap.puts, Heap.put, Heap.at?, decide_true, decide_false, yields, skipped, isSkip, indexAddrR, fieldAddrR, loadR, builtinR, lenB, lenKd, lenR, conv, partOf, TI.agg, List.length_map, List.length_cons, List.length_nil, List.getElem?_map, List.getElem?_cons_zero, List.getElem?_cons_succ, Option.map_some, Option.bind_some, Nat.reduceAdd, Nat.reduceEqDiff, beq_iff_eq, decide_eq_true_eq, Int.natCast_eq_zero, natOf_cast, FQ_ret, FQ_normal, resAll, resOne, oneOf, finish_plain, pl_int, pl_bool, pl_str, pl_fz, pl_agg, pl_tup, pl_clo, pl_undef, pl_nil, pl_cons, Bool.and_self, Bool.and_true, all_int, all_str, int_enc, str_enc, bool_enc, Int.ofNat_lt, boxR, allocR, storeR, overwrite, buildR, fillS, Option.isSome_some, V.cells, V.isCell, List.all_cons, List.all_nil, Bool.and_true, Bool.true_and, not_false_eq_true, and_true, and_self, V.anyIds, V.hasIds, Bool.or_false, Bool.not_false, Bool.or_self, buildSliceR, parts, fillR, List.replicate_succ, List.replicate_zero, List.set_cons_zero, rowIds, appendB, rows?, append_look, appL_some, append_none, List.map_nil, Bool.and_self, Nat.reduceMul, List.length_append, false_or, ne_eq, Nat.one_ne_zero, Nat.lt_add_one, or_self, extractR, max2, min2, List.getElem?_toArray, List.singleton_append, List.append_nil, Bool.and_false, Bool.false_and, eqV4, Bool.true_beq, Bool.false_beq, Bool.not_true, Bool.not_false, WB_nil, WB_cons, WB_guard, BG_true, BG_false, BG_false_none, BA_some, BA_none, QA_noise, QA_noise_none, sigQ_nil, sigQ_snoc, ids1, apB, hits, hasN, Bool.true_or, Bool.false_or, Bool.or_true, Nat.zero_add, List.size_toArray, EQ_ret, EQ_normal, T_3, T_4, T_5, T_9, T_22, T_25, T_42, T_51, T_69, T_90, T_91, T_93, T_95, T_96, T_98, T_100, T_109, T_121, T_145, all95, hlt, hx, k95_enc, hc, hc2, k1, hmm, k2, wrap_i64s (show 0 < 1000000000000000000 by omega)]
        exact ⟨1, ⟨by omega, by simpa [hx] using hg⟩, by simp only; omega, rfl⟩
      | false =>
        rw [k2] at hg
        simp only [W_skip, W_exit, W_ret, W_seq, SQ_normal, SQ_exit, SQ_ret, W_block, BQ_normal, BQ_exit, BQ_ret, W_cond, WC_bool, W_draw_q, WQ_nil, WQ_cons, WQ_guard, QG_true, QG_false, QA_quiet, Heap.pad, List.nil_append, List.cons_append, pickR, List.take_succ_cons, List.take_zero, List.take_nil, List.drop_zero, List.drop_succ_cons, binStr, Nat.reduceLeDiff, W_region, WO_nil, WO_cons, WO_move, WO_assign, WO_guard, WG_true, WG_false, WA_some, WA_none, LP_exit, LP_ret, aop, ev, evs, lk, ofConst, ofCell, Nat.beq, cond_true, cond_false, Bool.false_eq_true, if_false, if_true, bin, binInt, un, ok, Rd.run, Nat.reduceLT, true_and, Heap.puts, Heap.put, Heap.at?, decide_true, decide_false, yields, skipped, isSkip, indexAddrR, fieldAddrR, loadR, builtinR, lenB, lenKd, lenR, conv, partOf, TI.agg, List.length_map, List.length_cons, List.length_nil, List.getElem?_map, List.getElem?_cons_zero, List.getElem?_cons_succ, Option.map_some, Option.bind_some, Nat.reduceAdd, Nat.reduceEqDiff, beq_iff_eq, decide_eq_true_eq, Int.natCast_eq_zero, natOf_cast, FQ_ret, FQ_normal, resAll, resOne, oneOf, finish_plain, pl_int, pl_bool, pl_str, pl_fz, pl_agg, pl_tup, pl_clo, pl_undef, pl_nil, pl_cons, Bool.and_self, Bool.and_true, all_int, all_str, int_enc, str_enc, bool_enc, Int.ofNat_lt, boxR, allocR, storeR, overwrite, buildR, fillS, Option.isSome_some, V.cells, V.isCell, List.all_cons, List.all_nil, Bool.and_true, Bool.true_and, not_false_eq_true, and_true, and_self, V.anyIds, V.hasIds, Bool.or_false, Bool.not_false, Bool.or_self, buildSliceR, parts, fillR, List.replicate_succ, List.replicate_zero, List.set_cons_zero, rowIds, appendB, rows?, append_look, appL_some, append_none, List.map_nil, Bool.and_self, Nat.reduceMul, List.length_append, false_or, ne_eq, Nat.one_ne_zero, Nat.lt_add_one, or_self, extractR, max2, min2, List.getElem?_toArray, List.singleton_append, List.append_nil, Bool.and_false, Bool.false_and, eqV4, Bool.true_beq, Bool.false_beq, Bool.not_true, Bool.not_false, WB_nil, WB_cons, WB_guard, BG_true, BG_false, BG_false_none, BA_some, BA_none, QA_noise, QA_noise_none, sigQ_nil, sigQ_snoc, ids1, apB, hits, hasN, Bool.true_or, Bool.false_or, Bool.or_true, Nat.zero_add, List.size_toArray, EQ_ret, EQ_normal, T_3, T_4, T_5, T_9, T_22, T_25, T_42, T_51, T_69, T_90, T_91, T_93, T_95, T_96, T_98, T_100, T_109, T_121, T_145, all95, hlt, hx, k95_enc, hc, hc2, k1, hmm, k2]
        simp [← hg]
    | succ i =>
      have k1 : decide (((i + 1 : Nat) : Int) > 0) = true := decide_eq_true (by omega)
      have hy : l[i]? = some (l[i]'(by omega)) := List.getElem?_eq_getElem (by omega)
      simp only [Nat.add_one_ne_zero, if_false, Nat.add_sub_cancel, hy, Option.map_some, formedB] at hg
      cases k3 : decide (l[i + 1].f0 ≤ (l[i]'(by omega)).f0) with
      | true =>
        rw [k3] at hg
        simp only [W_skip, W_exit, W_ret, W_seq, SQ_normal, SQ_exit, SQ_ret, W_block, BQ_normal, BQ_exit, BQ_ret, W_cond, WC_bool, W_draw_q, WQ_nil, WQ_cons, WQ_guard, QG_true, QG_false, QA_quiet, Heap.pad, List.nil_append, List.cons_append, pickR, List.take_succ_cons, List.take_zero, List.take_nil, List.drop_zero, List.drop_succ_cons, binStr, Nat.reduceLeDiff, W_region, WO_nil, WO_cons, WO_move, WO_assign, WO_guard, WG_true, WG_false, WA_some, WA_none, LP_exit, LP_ret, aop, ev, evs, lk, ofConst, ofCell, Nat.beq, cond_true, cond_false, Bool.false_eq_true, if_false, if_true, bin, binInt, un, ok, Rd.run, Nat.reduceLT, true_and, Heap.puts, Heap.put, Heap.at?, decide_true, decide_false, yields, skipped, isSkip, indexAddrR, fieldAddrR, loadR, builtinR, lenB, lenKd, lenR, conv, partOf, TI.agg, List.length_map, List.length_cons, List.length_nil, List.getElem?_map, List.getElem?_cons_zero, List.getElem?_cons_succ, Option.map_some, Option.bind_some, Nat.reduceAdd, Nat.reduceEqDiff, beq_iff_eq, decide_eq_true_eq, Int.natCast_eq_zero, natOf_cast, FQ_ret, FQ_normal, resAll, resOne, oneOf, finish_plain, pl_int, pl_bool, pl_str, pl_fz, pl_agg, pl_tup, pl_clo, pl_undef, pl_nil, pl_cons, Bool.and_self, Bool.and_true, all_int, all_str, int_enc, str_enc, bool_enc, Int.ofNat_lt, boxR, allocR, storeR, overwrite, buildR, fillS, Option.isSome_some, V.cells, V.isCell, List.all_cons, List.all_nil, Bool.and_true, Bool.true_and, not_false_eq_true, and_true, and_self, V.anyIds, V.hasIds, Bool.or_false, Bool.not_false, Bool.or_self, buildSliceR, parts, fillR, List.replicate_succ, List.replicate_zero, List.set_cons_zero, rowIds, appendB, rows?, append_look, appL_some, append_none, List.map_nil, Bool.and_self, Nat.reduceMul, List.length_append, false_or, ne_eq, Nat.one_ne_zero, Nat.lt_add_one, or_self, extractR, max2, min2, List.getElem?_toArray, List.singleton_append, List.append_nil, Bool.and_false, Bool.false_and, eqV4, Bool.true_beq, Bool.false_beq, Bool.not_true, Bool.not_false, WB_nil, WB_cons, WB_guard, BG_true, BG_false, BG_false_none, BA_some, BA_none, QA_noise, QA_noise_none, sigQ_nil, sigQ_snoc, ids1, apB, hits, hasN, Bool.true_or, Bool.false_or, Bool.or_true, Nat.zero_add, List.size_toArray, EQ_ret, EQ_normal, T_3, T_4, T_5, T_9, T_22, T_25, T_42, T_51, T_69, T_90, T_91, T_93, T_95, T_96, T_98, T_100, T_109, T_121, T_145, all95, hlt, hx, hy, k95_enc, hc, k1, k3, wrap_i64p (show i < 1000000000000000000 by omega)]
        simp [← hg]
      | false =>
        cases k2 : (mayN (flat l[i + 1].f1) == 0) with
        | true =>
          rw [k3, k2] at hg
          simp only [W_skip, W_exit, W_ret, W_seq, SQ_normal, SQ_exit, SQ_ret, W_block, BQ_normal, BQ_exit, BQ_ret, W_cond, WC_bool, W_draw_q, WQ_nil, WQ_cons, WQ_guard, QG_true, QG_false, QA_quiet, Heap.pad, List.nil_append, List.cons_append, pickR, List.take_succ_cons, List.take_zero, List.take_nil, List.drop_zero, List.drop_succ_cons, binStr, Nat.reduceLeDiff, W_region, WO_nil, WO_cons, WO_move, WO_assign, WO_guard, WG_true, WG_false, WA_some, WA_none, LP_exit, LP_ret, aop, ev, evs, lk, ofConst, ofCell, Nat.beq, cond_true, cond_false, Bool.false_eq_true, if_false, if_true, bin, binInt, un, ok, Rd.run, Nat.reduceLT, true_and, Heap.puts, Heap.put, Heap.at?, decide_true, decide_false, yields, skipped, isSkip, indexAddrR, fieldAddrR, loadR, builtinR, lenB, lenKd, lenR, conv, partOf, TI.agg, List.length_map, List.length_cons, List.length_nil, List.getElem?_map, List.getElem?_cons_zero, List.getElem?_cons_succ, Option.map_some, Option.bind_some, Nat.reduceAdd, Nat.reduceEqDiff, beq_iff_eq, decide_eq_true_eq, Int.natCast_eq_zero, natOf_cast, FQ_ret, FQ_normal, resAll, resOne, oneOf, finish_plain, pl_int, pl_bool, pl_str, pl_fz, pl_agg, pl_tup, pl_clo, pl_undef, pl_nil, pl_cons, Bool.and_self, Bool.and_true, all_int, all_str, int_enc, str_enc, bool_enc, Int.ofNat_lt, boxR, allocR, storeR, overwrite, buildR, fillS, Option.isSome_some, V.cells, V.isCell, List.all_cons, List.all_nil, Bool.and_true, Bool.true_and, not_false_eq_true, and_true, and_self, V.anyIds, V.hasIds, Bool.or_false, Bool.not_false, Bool.or_self, buildSliceR, parts, fillR, List.replicate_succ, List.replicate_zero, List.set_cons_zero, rowIds, appendB, rows?, append_look, appL_some, append_none, List.map_nil, Bool.and_self, Nat.reduceMul, List.length_append, false_or, ne_eq, Nat.one_ne_zero, Nat.lt_add_one, or_self, extractR, max2, min2, List.getElem?_toArray, List.singleton_append, List.append_nil, Bool.and_false, Bool.false_and, eqV4, Bool.true_beq, Bool.false_beq, Bool.not_true, Bool.not_false, WB_nil, WB_cons, WB_guard, BG_true, BG_false, BG_false_none, BA_some, BA_none, QA_noise, QA_noise_none, sigQ_nil, sigQ_snoc, ids1, apB, hits, hasN, Bool.true_or, Bool.false_or, Bool.or_true, Nat.zero_add, List.size_toArray, EQ_ret, EQ_normal, T_3, T_4, T_5, T_9, T_22, T_25, T_42, T_51, T_69, T_90, T_91, T_93, T_95, T_96, T_98, T_100, T_109, T_121, T_145, all95, hlt, hx, hy, k95_enc, hc, hc2, k1, hmm, k2, k3, wrap_i64p (show i < 1000000000000000000 by omega), wrap_i64s (show i + 1 < 1000000000000000000 by omega)]
          exact ⟨i + 1 + 1, ⟨by omega, by simpa [hx] using hg⟩, by simp only; omega, rfl⟩
        | false =>
          rw [k3, k2] at hg
          simp only [W_skip, W_exit, W_ret, W_seq, SQ_normal, SQ_exit, SQ_ret, W_block, BQ_normal, BQ_exit, BQ_ret, W_cond, WC_bool, W_draw_q, WQ_nil, WQ_cons, WQ_guard, QG_true, QG_false, QA_quiet, Heap.pad, List.nil_append, List.cons_append, pickR, List.take_succ_cons, List.take_zero, List.take_nil, List.drop_zero, List.drop_succ_cons, binStr, Nat.reduceLeDiff, W_region, WO_nil, WO_cons, WO_move, WO_assign, WO_guard, WG_true, WG_false, WA_some, WA_none, LP_exit, LP_ret, aop, ev, evs, lk, ofConst, ofCell, Nat.beq, cond_true, cond_false, Bool.false_eq_true, if_false, if_true, bin, binInt, un, ok, Rd.run, Nat.reduceLT, true_and, Heap.puts, Heap.put, Heap.at?, decide_true, decide_false, yields, skipped, isSkip, indexAddrR, fieldAddrR, loadR, builtinR, lenB, lenKd, lenR, conv, partOf, TI.agg, List.length_map, List.length_cons, List.length_nil, List.getElem?_map, List.getElem?_cons_zero, List.getElem?_cons_succ, Option.map_some, Option.bind_some, Nat.reduceAdd, Nat.reduceEqDiff, beq_iff_eq, decide_eq_true_eq, Int.natCast_eq_zero, natOf_cast, FQ_ret, FQ_normal, resAll, resOne, oneOf, finish_plain, pl_int, pl_bool, pl_str, pl_fz, pl_agg, pl_tup, pl_clo, pl_undef, pl_nil, pl_cons, Bool.and_self, Bool.and_true, all_int, all_str, int_enc, str_enc, bool_enc, Int.ofNat_lt, boxR, allocR, storeR, overwrite, buildR, fillS, Option.isSome_some, V.cells, V.isCell, List.all_cons, List.all_nil, Bool.and_true, Bool.true_and, not_false_eq_true, and_true, and_self, V.anyIds, V.hasIds, Bool.or_false, Bool.not_false, Bool.or_self, buildSliceR, parts, fillR, List.replicate_succ, List.replicate_zero, List.set_cons_zero, rowIds, appendB, rows?, append_look, appL_some, append_none, List.map_nil, Bool.and_self, Nat.reduceMul, List.length_append, false_or, ne_eq, Nat.one_ne_zero, Nat.lt_add_one, or_self, extractR, max2, min2, List.getElem?_toArray, List.singleton_append, List.append_nil, Bool.and_false, Bool.false_and, eqV4, Bool.true_beq, Bool.false_beq, Bool.not_true, Bool.not_false, WB_nil, WB_cons, WB_guard, BG_true, BG_false, BG_false_none, BA_some, BA_none, QA_noise, QA_noise_none, sigQ_nil, sigQ_snoc, ids1, apB, hits, hasN, Bool.true_or, Bool.false_or, Bool.or_true, Nat.zero_add, List.size_toArray, EQ_ret, EQ_normal, T_3, T_4, T_5, T_9, T_22, T_25, T_42, T_51, T_69, T_90, T_91, T_93, T_95, T_96, T_98, T_100, T_109, T_121, T_145, all95, hlt, hx, hy, k95_enc, hc, hc2, k1, hmm, k2, k3, wrap_i64p (show i < 1000000000000000000 by omega)]
          simp [← hg]
  · rw [List.drop_eq_nil_of_le (by omega)] at hg
    have hp : formedB none l = true := by
      rw [← hg]
      cases (if i = 0 then none else l[i - 1]?.map (·.f0)) <;> rfl
    rw [hp]
    simp only [W_skip, W_exit, W_ret, W_seq, SQ_normal, SQ_exit, SQ_ret, W_block, BQ_normal, BQ_exit, BQ_ret, W_cond, WC_bool, W_draw_q, WQ_nil, WQ_cons, WQ_guard, QG_true, QG_false, QA_quiet, Heap.pad, List.nil_append, List.cons_append, pickR, List.take_succ_cons, List.take_zero, List.take_nil, List.drop_zero, List.drop_succ_cons, binStr, Nat.reduceLeDiff, W_region, WO_nil, WO_cons, WO_move, WO_assign, WO_guard, WG_true, WG_false, WA_some, WA_none, LP_exit, LP_ret, aop, ev, evs, lk, ofConst, ofCell, Nat.beq, cond_true, cond_false, Bool.false_eq_true, if_false, if_true, bin, binInt, un, ok, Rd.run, Nat.reduceLT, true_and, Heap.puts, Heap.put, Heap.at?, decide_true, decide_false, yields, skipped, isSkip, indexAddrR, fieldAddrR, loadR, builtinR, lenB, lenKd, lenR, conv, partOf, TI.agg, List.length_map, List.length_cons, List.length_nil, List.getElem?_map, List.getElem?_cons_zero, List.getElem?_cons_succ, Option.map_some, Option.bind_some, Nat.reduceAdd, Nat.reduceEqDiff, beq_iff_eq, decide_eq_true_eq, Int.natCast_eq_zero, natOf_cast, FQ_ret, FQ_normal, resAll, resOne, oneOf, finish_plain, pl_int, pl_bool, pl_str, pl_fz, pl_agg, pl_tup, pl_clo, pl_undef, pl_nil, pl_cons, Bool.and_self, Bool.and_true, all_int, all_str, int_enc, str_enc, bool_enc, Int.ofNat_lt, boxR, allocR, storeR, overwrite, buildR, fillS, Option.isSome_some, V.cells, V.isCell, List.all_cons, List.all_nil, Bool.and_true, Bool.true_and, not_false_eq_true, and_true, and_self, V.anyIds, V.hasIds, Bool.or_false, Bool.not_false, Bool.or_self, buildSliceR, parts, fillR, List.replicate_succ, List.replicate_zero, List.set_cons_zero, rowIds, appendB, rows?, append_look, appL_some, append_none, List.map_nil, Bool.and_self, Nat.reduceMul, List.length_append, false_or, ne_eq, Nat.one_ne_zero, Nat.lt_add_one, or_self, extractR, max2, min2, List.getElem?_toArray, List.singleton_append, List.append_nil, Bool.and_false, Bool.false_and, eqV4, Bool.true_beq, Bool.false_beq, Bool.not_true, Bool.not_false, WB_nil, WB_cons, WB_guard, BG_true, BG_false, BG_false_none, BA_some, BA_none, QA_noise, QA_noise_none, sigQ_nil, sigQ_snoc, ids1, apB, hits, hasN, Bool.true_or, Bool.false_or, Bool.or_true, Nat.zero_add, List.size_toArray, EQ_ret, EQ_normal, T_3, T_4, T_5, T_9, T_22, T_25, T_42, T_51, T_69, T_90, T_91, T_93, T_95, T_96, T_98, T_100, T_109, T_121, T_145, hlt]
theorem call60 (l : List S95) (hl : fewL l) (hw : wfL l) (k : Nat) : callV (LX T fns) k (.clo 60 []) [.fz (l.map k95.enc)] = .pure (.int .i64 (if formedB none l = true then 0 else 3), []) := callV_plain (fn := fn60) rfl rfl rfl (lim60 l hl hw) k

/-! How deep is a block? -/
theorem rch_unst {l : List S95} (hw : Whole l) {b : Int} (h : Rch l b b) : ¬ Stable l l.length := rch_unstable hw h _
open Classical in
noncomputable def limV (l : List S95) (b : Int) : Int := if h : ∃ d, Lim l b d then h.choose else 0
theorem limV_eq {l : List S95} {b d : Int} (h : Lim l b d) : limV l b = d := by
  unfold limV
  rw [dif_pos ⟨d, h⟩]
  exact lim_uniq (Exists.choose_spec (⟨d, h⟩ : ∃ d, Lim l b d)) h
theorem top_succ {α : Type} {f : α → Int} : ∀ {ts : List α} {d : Int}, top (fun t => f t + 1) (d + 1) ts = top f d ts + 1
  | [], d => rfl
  | t :: ts, d => by
    show top (fun t => f t + 1) (max (d + 1) (f t + 1)) ts = top f (max d (f t)) ts + 1
    rw [show max (d + 1) (f t + 1) = max d (f t) + 1 by omega]
    exact top_succ
theorem top_snoc {α : Type} {f : α → Int} {ts : List α} {d : Int} {t : α} : top f d (ts ++ [t]) = max (top f d ts) (f t) := by
  unfold top
  rw [List.foldl_append]
  rfl

/-- What is known so far is so: 0: from there a way leads here. -/
def Memo (l : List S95) (m : List (Int × Int)) (b : Int) : Prop := ∀ c e, getI c m = some e → (e = 0 ∧ Rch l c b) ∨ (Lim l c e ∧ e < 65535)
/-- More is known, nothing else has begun. -/
def Grew (l : List S95) (m m' : List (Int × Int)) : Prop :=
  (∀ c, getI c m = some 0 → getI c m' = some 0) ∧ (∀ c e, getI c m' = some e → (e = 0 ∧ getI c m = some 0) ∨ (Lim l c e ∧ e < 65535)) ∧ ∀ c, (getI c m).isSome = true → (getI c m').isSome = true
theorem grew_refl {l : List S95} {m : List (Int × Int)} {b : Int} (h : Memo l m b) : Grew l m m := ⟨fun _ h => h, fun c e hc => (h c e hc).imp (fun h => ⟨h.1, by rw [hc, h.1]⟩) id, fun _ h => h⟩
theorem grew_trans {l : List S95} {a b c : List (Int × Int)} (h : Grew l a b) (h' : Grew l b c) : Grew l a c :=
  ⟨fun x hx => h'.1 x (h.1 x hx), fun x e hx => (h'.2.1 x e hx).elim (fun ⟨e0, hb⟩ => (h.2.1 x 0 hb).elim (fun ⟨_, ha⟩ => .inl ⟨e0, ha⟩) (fun ⟨hl, _⟩ => absurd (lim_pos hl) (by omega))) .inr, fun x hx => h'.2.2 x (h.2.2 x hx)⟩
/-- How many blocks nothing is known of. -/
def unseen (l : List S95) (m : List (Int × Int)) : Nat := (l.filter fun x => (getI x.f0 m).isNone).length
theorem unseen_le {l : List S95} {m m' : List (Int × Int)} (h : ∀ c, (getI c m).isSome = true → (getI c m').isSome = true) : unseen l m' ≤ unseen l m := by
  unfold unseen
  induction l with
  | nil => exact Nat.le_refl _
  | cons x r ih =>
    simp only [List.filter_cons]
    cases h1 : getI x.f0 m' with
    | some e =>
      simp only [Option.isNone_some, Bool.false_eq_true, if_false]
      split
      · simp only [List.length_cons]; omega
      · exact ih
    | none =>
      cases h2 : getI x.f0 m with
      | some e =>
        have := h x.f0 (by rw [h2]; rfl)
        rw [h1] at this
        cases this
      | none =>
        simp only [Option.isNone_none, if_true, List.length_cons]
        omega
theorem unseen_lt {l : List S95} {m m' : List (Int × Int)} (h : ∀ c, (getI c m).isSome = true → (getI c m').isSome = true) {x : S95} (hx : x ∈ l) (h1 : getI x.f0 m = none) (h2 : (getI x.f0 m').isSome = true) : unseen l m' < unseen l m := by
  obtain ⟨a, b, rfl⟩ := List.append_of_mem hx
  have ha := unseen_le (l := a) h
  have hb := unseen_le (l := b) h
  unfold unseen at *
  simp only [List.filter_append, List.filter_cons, h1, Option.isNone_none, if_true, List.length_append, List.length_cons]
  have : (getI x.f0 m').isNone = false := by
    cases hg : getI x.f0 m' with
    | none => rw [hg] at h2; cases h2
    | some e => rfl
  simp only [this, Bool.false_eq_true, if_false]
  omega
theorem getI_snoc {b e : Int} : ∀ {m : List (Int × Int)} {c : Int}, getI b m = none → getI c (m ++ [(b, e)]) = if c = b then some e else getI c m
  | [], c, _ => by
    simp only [List.nil_append, getI]
    by_cases h : c = b
    · subst h; simp
    · rw [if_neg h, if_neg (fun e => h e.symm)]
  | p :: r, c, h => by
    unfold getI at h
    split at h
    · cases h
    · rename_i hp
      simp only [List.cons_append, getI, getI_snoc h]
      by_cases hc : p.1 = c
      · subst hc
        rw [if_pos rfl, if_pos rfl, if_neg hp]
      · rw [if_neg hc, if_neg hc]
def setI (b e : Int) : List (Int × Int) → List (Int × Int)
  | [] => [(b, e)]
  | p :: r => if p.1 = b then (b, e) :: r else p :: setI b e r
theorem setKeyI {b e : Int} : ∀ {m : List (Int × Int)}, setKey (.int .u32 b) (.int .i64 e) (m.map encI) = some ((setI b e m).map encI)
  | [] => rfl
  | p :: r => by
    simp only [List.map_cons, encI, setKey, eqCell, if_true, setI]
    by_cases h : p.1 = b
    · subst h
      simp [encI]
    · have h1 : (b == p.1) = false := by
        simp only [beq_eq_false_iff_ne]
        exact fun e => h e.symm
      simp only [h1, if_neg h]
      have := setKeyI (b := b) (e := e) (m := r)
      simp only [this, Option.map_some, List.map_cons, encI]
theorem getI_set {b e c : Int} : ∀ {m : List (Int × Int)}, getI c (setI b e m) = if c = b then some e else getI c m
  | [] => by
    simp only [setI, getI]
    by_cases h : c = b
    · subst h; simp
    · rw [if_neg h, if_neg (fun e => h e.symm)]
  | p :: r => by
    unfold setI
    split
    · rename_i hp
      simp only [getI]
      by_cases h : c = b
      · subst h; simp
      · rw [if_neg (fun e => h e.symm), if_neg h, if_neg (fun e => h (by rw [← e]; exact hp))]
    · rename_i hp
      simp only [getI, getI_set]
      by_cases hc : p.1 = c
      · subst hc
        rw [if_pos rfl, if_pos rfl, if_neg hp]
      · rw [if_neg hc, if_neg hc]
theorem find_encL {b : Int} : ∀ {l : List S95}, findKey (.int .u32 b) (l.map encL) = some ((find b l).map fun n => V.agg (k93.enc n))
  | [] => rfl
  | x :: r => by
    simp only [List.map_cons, encL, findKey, eqCell, if_true, find]
    by_cases h : x.f0 = b
    · subst h
      simp
    · have e : (b == x.f0) = false := by
        simp only [beq_eq_false_iff_ne]
        exact fun e => h e.symm
      simp only [e, if_neg h]
      exact find_encL

/-- A finder. -/
def ff (lost : Bool) : Ob := .buf 3 [[.map 1, .map 2, .bool lost]] false false
theorem call62 {l : List S95} {m m' : List (Int × Int)} {b d : Int} {lost : Bool} (h : lim T fns 62 [.ptr 0 0 0, .int .u32 b] [ff false, fo2 l, fo3 m] = some (.int .i64 d, [some (ff lost), some (fo2 l), some (fo3 m')])) (n : Nat) (hn : 3 ≤ n) (rest : Heap) :
    (callV (LX T fns) n (.clo 62 []) [.ptr 0 0 0, .int .u32 b]).run (some (ff false) :: some (fo2 l) :: some (fo3 m) :: rest) [] = some ((.int .i64 d, [(0, some (ff lost)), (1, some (fo2 l)), (2, some (fo3 m'))]), [2, 1, 0]) := by
  simp only [ff, fo2, fo3] at h ⊢
  have hf : fns 62 = some fn62 := rfl
  unfold callV
  simp only [hf]
  unfold callR
  simp only [fn62, List.cons_append, List.nil_append, List.append_nil, frzArgs, frz, frzAll, frzG, frzGAll, ms2, msUp, List.tail]
  simp only [V.allIds, V.ids, List.append_nil, List.nil_append, collect, List.map_nil, List.contains_nil, Bool.false_eq_true, if_false, Rd.run, Heap.at?, Ob.ids, rowsIds, List.map_cons, List.cons_append, List.contains_cons, Nat.reduceBEq, Bool.or_self, Bool.or_false, Bool.false_or, Bool.or_true, Bool.true_or, if_true]
  unfold withR
  simp only [List.map_cons, List.map_nil, upd1, List.all_nil, List.all_cons, show 0 < n by omega, show 1 < n by omega, show 2 < n by omega, decide_true, Bool.and_self, if_true, V.reAll, V.re, idx, Nat.beq, cond_true, cond_false, Option.bind_some, Option.map_some, pullObs, Ob.re, reRows, Nat.reduceAdd, h, List.length_cons, List.length_nil, Nat.le_refl]
  unfold afterR
  simp only [V.re, V.reAll, pushObs, back, nth, Ob.re, reRows, Option.bind_some, Option.map_some, List.isEmpty_cons, Bool.false_and, Bool.false_eq_true, if_false, Rd.run, List.append_nil, Nat.reduceAdd]

theorem lim62_seen (l : List S95) (m : List (Int × Int)) (b e : Int) (hg : getI b m = some e) : lim T fns 62 [.ptr 0 0 0, .int .u32 b] [ff false, fo2 l, fo3 m] = some (.int .i64 e, [some (ff (e == 0)), some (fo2 l), some (fo3 m)]) := by
  have hk : ∀ b, isKey T 42 (.int .u32 b) = true := fun b => rfl
  refine fn_rule (fn := fn62) rfl rfl (by simp [fn62]) ?_
  unfold fn62
  simp only [Try.f62, Option.getD_some, argEnv, List.map_nil, List.length_nil]
  simp only [W_skip, W_exit, W_ret, W_seq, SQ_normal, SQ_exit, SQ_ret, W_block, BQ_normal, BQ_exit, BQ_ret, W_cond, WC_bool, W_draw_q, WQ_nil, WQ_cons, WQ_guard, QG_true, QG_false, QA_quiet, Heap.pad, List.nil_append, List.cons_append, pickR, List.take_succ_cons, List.take_zero, List.take_nil, List.drop_zero, List.drop_succ_cons, binStr, Nat.reduceLeDiff, W_region, WO_nil, WO_cons, WO_move, WO_assign, WO_guard, WG_true, WG_false, WA_some, WA_none, LP_exit, LP_ret, aop, ev, evs, lk, ofConst, ofCell, Nat.beq, cond_true, cond_false, Bool.false_eq_true, if_false, if_true, bin, binInt, un, ok, Rd.run, Nat.reduceLT, true_and, Heap.puts, Heap.put, Heap.at?, decide_true, decide_false, yields, skipped, isSkip, indexAddrR, fieldAddrR, loadR, builtinR, lenB, lenKd, lenR, conv, partOf, TI.agg, List.length_map, List.length_cons, List.length_nil, List.getElem?_map, List.getElem?_cons_zero, List.getElem?_cons_succ, Option.map_some, Option.bind_some, Nat.reduceAdd, Nat.reduceEqDiff, beq_iff_eq, decide_eq_true_eq, Int.natCast_eq_zero, natOf_cast, FQ_ret, FQ_normal, resAll, resOne, oneOf, finish_plain, pl_int, pl_bool, pl_str, pl_fz, pl_agg, pl_tup, pl_clo, pl_undef, pl_nil, pl_cons, Bool.and_self, Bool.and_true, all_int, all_str, int_enc, str_enc, bool_enc, Int.ofNat_lt, boxR, allocR, storeR, overwrite, buildR, fillS, Option.isSome_some, V.cells, V.isCell, List.all_cons, List.all_nil, Bool.and_true, Bool.true_and, not_false_eq_true, and_true, and_self, V.anyIds, V.hasIds, Bool.or_false, Bool.not_false, Bool.or_self, buildSliceR, parts, fillR, List.replicate_succ, List.replicate_zero, List.set_cons_zero, rowIds, appendB, rows?, append_look, appL_some, append_none, List.map_nil, Bool.and_self, Nat.reduceMul, List.length_append, false_or, ne_eq, Nat.one_ne_zero, Nat.lt_add_one, or_self, extractR, max2, min2, List.getElem?_toArray, List.singleton_append, List.append_nil, Bool.and_false, Bool.false_and, eqV4, Bool.true_beq, Bool.false_beq, Bool.not_true, Bool.not_false, WB_nil, WB_cons, WB_guard, BG_true, BG_false, BG_false_none, BA_some, BA_none, QA_noise, QA_noise_none, sigQ_nil, sigQ_snoc, ids1, apB, hits, hasN, Bool.true_or, Bool.false_or, Bool.or_true, Nat.zero_add, List.size_toArray, EQ_ret, EQ_normal, T_3, T_4, T_5, T_9, T_42, T_51, T_69, T_76, T_90, T_91, T_93, T_96, T_98, T_100, T_102, T_103, T_104, T_106, T_121, T_145, ff, fo2, fo3, List.map_cons, nilCheckR, lookupR, hk, find_encI, hg, giveR]
  show _ = _
  kernel_rfl

theorem lim62 (l : List S95) (hl : fewL l) (hr : risesB l = true) (hw : Whole l) (h30 : l.length ≤ 30) : ∀ (k : Nat) (b : Int) (m : List (Int × Int)), (∃ x ∈ l, x.f0 = b) → unseen l m ≤ k → Memo l m b →
    ∃ d m' lost, lim T fns 62 [.ptr 0 0 0, .int .u32 b] [ff false, fo2 l, fo3 m] = some (.int .i64 d, [some (ff lost), some (fo2 l), some (fo3 m')]) ∧
      ((lost = false ∧ Lim l b d ∧ d < 65535 ∧ Grew l m m' ∧ getI b m' = some d) ∨ (lost = true ∧ ¬ Stable l l.length)) := by
  have hk : ∀ b, isKey T 42 (.int .u32 b) = true := fun b => rfl
  have hf4 : ∀ b, fits ⟨.int .i64, 1, 8, .int .i64 0⟩ (.int .i64 b) = true := fun b => rfl
  intro k
  induction k with
  | zero =>
    rintro b m ⟨x, hx, rfl⟩ hu hm
    cases hg : getI x.f0 m with
    | none =>
      have : 0 < unseen l m := List.length_pos_iff.2 (List.ne_nil_of_mem (List.mem_filter.2 ⟨hx, by rw [hg]; rfl⟩))
      omega
    | some e =>
      refine ⟨e, m, e == 0, lim62_seen l m x.f0 e hg, ?_⟩
      rcases hm _ _ hg with ⟨rfl, hc⟩ | ⟨hlm, h6⟩
      · exact .inr ⟨rfl, rch_unst hw hc⟩
      · have := lim_pos hlm
        exact .inl ⟨by simp; omega, hlm, h6, grew_refl hm, hg⟩
  | succ k ih =>
    rintro b m ⟨x, hx, rfl⟩ hu hm
    cases hg : getI x.f0 m with
    | some e =>
      refine ⟨e, m, e == 0, lim62_seen l m x.f0 e hg, ?_⟩
      rcases hm _ _ hg with ⟨rfl, hc⟩ | ⟨hlm, h6⟩
      · exact .inr ⟨rfl, rch_unst hw hc⟩
      · have := lim_pos hlm
        exact .inl ⟨by simp; omega, hlm, h6, grew_refl hm, hg⟩
    | none =>
      have hfs := find_self hr x hx
      have hsu := succs_self hr hx
      have hct := call131 x.f1 (hl.2 x hx)
      have hts := targets_le x.f1 (hl.2 x hx)
      simp only [k93_enc] at hct
      -- what is known while it is looked for
      have hm1 : ∀ c, getI c (setI x.f0 0 m) = if c = x.f0 then some 0 else getI c m := fun c => getI_set
      have hu1 : unseen l (setI x.f0 0 m) < unseen l m := unseen_lt (fun c hc => by rw [hm1]; split <;> simp_all) hx hg (by rw [hm1, if_pos rfl]; rfl)
      generalize htt : targets x.f1 = ts at hct hts hsu
      -- what the loop comes to
      have hex : ∃ r, lim T fns 62 [.ptr 0 0 0, .int .u32 x.f0] [ff false, fo2 l, fo3 m] = some r ∧ ∃ d m' lost, r = (.int .i64 d, [some (ff lost), some (fo2 l), some (fo3 m')]) ∧
          ((lost = false ∧ Lim l x.f0 d ∧ d < 65535 ∧ Grew l m m' ∧ getI x.f0 m' = some d) ∨ (lost = true ∧ ¬ Stable l l.length)) := by
        refine fn_rule_ex (fn := fn62) rfl rfl (by simp [fn62]) ?_
        unfold fn62
        simp only [Try.f62, Option.getD_some, argEnv, List.map_nil, List.length_nil]
        simp only [W_skip, W_exit, W_ret, W_seq, SQ_normal, SQ_exit, SQ_ret, W_block, BQ_normal, BQ_exit, BQ_ret, W_cond, WC_bool, W_draw_q, WQ_nil, WQ_cons, WQ_guard, QG_true, QG_false, QA_quiet, Heap.pad, List.nil_append, List.cons_append, pickR, List.take_succ_cons, List.take_zero, List.take_nil, List.drop_zero, List.drop_succ_cons, binStr, Nat.reduceLeDiff, W_region, WO_nil, WO_cons, WO_move, WO_assign, WO_guard, WG_true, WG_false, WA_some, WA_none, LP_exit, LP_ret, aop, ev, evs, lk, ofConst, ofCell, Nat.beq, cond_true, cond_false, Bool.false_eq_true, if_false, if_true, bin, binInt, un, ok, Rd.run, Nat.reduceLT, true_and, Heap.puts, Heap.put, Heap.at?, decide_true, decide_false, yields, skipped, isSkip, indexAddrR, fieldAddrR, loadR, builtinR, lenB, lenKd, lenR, conv, partOf, TI.agg, List.length_map, List.length_cons, List.length_nil, List.getElem?_map, List.getElem?_cons_zero, List.getElem?_cons_succ, Option.map_some, Option.bind_some, Nat.reduceAdd, Nat.reduceEqDiff, beq_iff_eq, decide_eq_true_eq, Int.natCast_eq_zero, natOf_cast, FQ_ret, FQ_normal, resAll, resOne, oneOf, finish_plain, pl_int, pl_bool, pl_str, pl_fz, pl_agg, pl_tup, pl_clo, pl_undef, pl_nil, pl_cons, Bool.and_self, Bool.and_true, all_int, all_str, int_enc, str_enc, bool_enc, Int.ofNat_lt, boxR, allocR, storeR, overwrite, buildR, fillS, Option.isSome_some, V.cells, V.isCell, List.all_cons, List.all_nil, Bool.and_true, Bool.true_and, not_false_eq_true, and_true, and_self, V.anyIds, V.hasIds, Bool.or_false, Bool.not_false, Bool.or_self, buildSliceR, parts, fillR, List.replicate_succ, List.replicate_zero, List.set_cons_zero, rowIds, appendB, rows?, append_look, appL_some, append_none, List.map_nil, Bool.and_self, Nat.reduceMul, List.length_append, false_or, ne_eq, Nat.one_ne_zero, Nat.lt_add_one, or_self, extractR, max2, min2, List.getElem?_toArray, List.singleton_append, List.append_nil, Bool.and_false, Bool.false_and, eqV4, Bool.true_beq, Bool.false_beq, Bool.not_true, Bool.not_false, WB_nil, WB_cons, WB_guard, BG_true, BG_false, BG_false_none, BA_some, BA_none, QA_noise, QA_noise_none, sigQ_nil, sigQ_snoc, ids1, apB, hits, hasN, Bool.true_or, Bool.false_or, Bool.or_true, Nat.zero_add, List.size_toArray, EQ_ret, EQ_normal, T_3, T_4, T_5, T_9, T_42, T_51, T_69, T_76, T_90, T_91, T_93, T_96, T_98, T_100, T_102, T_103, T_104, T_106, T_121, T_145, ff, fo2, fo3, List.map_cons, nilCheckR, lookupR, mapUpdateR, hk, hf4, find_encI, find_encL, hg, hfs, giveR, setKeyI, Option.map_none, k93_enc, hct]
        refine loop_rule (ι := Nat × Int × List (Int × Int)) (S := fun p => ⟨[(0, .ptr 0 0 0), (1, .int .u32 x.f0), (7, .int .i64 p.2.1), (43, .fz (ts.map (Cd.int .u32).enc)), (44, .int .i64 ts.length), (45, .int .i64 p.1)], [some (ff false), some (fo2 l), some (fo3 p.2.2)]⟩)
          (m := fun p => ts.length + 1 - p.1) (I := fun p => p.1 ≤ ts.length ∧ (∀ t ∈ ts.take p.1, Lim l t (limV l t)) ∧ p.2.1 = top (limV l) 0 (ts.take p.1) ∧ 0 ≤ p.2.1 ∧ p.2.1 < 65535 ∧ getI x.f0 p.2.2 = some 0 ∧ Grew l (setI x.f0 0 m) p.2.2)
          ?_ (0, 0, setI x.f0 0 m) _ ⟨by simp, by simp, by simp [top], by simp, by simp, by rw [hm1, if_pos rfl], ?_⟩ (by kernel_rfl)
        · rintro ⟨i, most, mi⟩ ⟨hi, hlt, hmo, h0, h6, hb0, hgr⟩
          simp only at hi hlt hmo h0 h6 hb0 hgr
          by_cases hit : i < ts.length
          · have ht : ts[i]? = some ts[i] := List.getElem?_eq_getElem hit
            have hts2 : ts[i] ∈ succs l x.f0 := by rw [hsu]; exact List.getElem_mem hit
            have hus : unseen l mi ≤ k := by
              have := unseen_le (l := l) hgr.2.2
              omega
            obtain ⟨d, m', lost, hcall, hpost⟩ := ih ts[i] mi (succs_in hw hts2) hus (fun c e hc => by
              rcases hgr.2.1 c e hc with ⟨rfl, h1⟩ | h1
              · left
                refine ⟨rfl, ?_⟩
                rw [hm1] at h1
                by_cases hcx : c = x.f0
                · subst hcx
                  exact .one hts2
                · rw [if_neg hcx] at h1
                  rcases hm _ _ h1 with ⟨_, h2⟩ | ⟨h2, _⟩
                  · exact .more h2 hts2
                  · exact absurd (lim_pos h2) (by omega)
              · exact .inr h1)
            have hc := call62 hcall
            simp only [ff, fo2, fo3] at hc
            rcases hpost with ⟨rfl, hd, hd6, hg2, hgd⟩ | ⟨rfl, hun⟩
            · simp only [W_skip, W_exit, W_ret, W_seq, SQ_normal, SQ_exit, SQ_ret, W_block, BQ_normal, BQ_exit, BQ_ret, W_cond, WC_bool, W_draw_q, WQ_nil, WQ_cons, WQ_guard, QG_true, QG_false, QA_quiet, Heap.pad, List.nil_append, List.cons_append, pickR, List.take_succ_cons, List.take_zero, List.take_nil, List.drop_zero, List.drop_succ_cons, binStr, Nat.reduceLeDiff, W_region, WO_nil, WO_cons, WO_move, WO_assign, WO_guard, WG_true, WG_false, WA_some, WA_none, LP_exit, LP_ret, aop, ev, evs, lk, ofConst, ofCell, Nat.beq, cond_true, cond_false, Bool.false_eq_true, if_false, if_true, bin, binInt, un, ok, Rd.run, Nat.reduceLT, true_and, Heap.puts, Heap.put, Heap.at?, decide_true, decide_false, yields, skipped, isSkip, indexAddrR, fieldAddrR, loadR, builtinR, lenB, lenKd, lenR, conv, partOf, TI.agg, List.length_map, List.length_cons, List.length_nil, List.getElem?_map, List.getElem?_cons_zero, List.getElem?_cons_succ, Option.map_some, Option.bind_some, Nat.reduceAdd, Nat.reduceEqDiff, beq_iff_eq, decide_eq_true_eq, Int.natCast_eq_zero, natOf_cast, FQ_ret, FQ_normal, resAll, resOne, oneOf, finish_plain, pl_int, pl_bool, pl_str, pl_fz, pl_agg, pl_tup, pl_clo, pl_undef, pl_nil, pl_cons, Bool.and_self, Bool.and_true, all_int, all_str, int_enc, str_enc, bool_enc, Int.ofNat_lt, boxR, allocR, storeR, overwrite, buildR, fillS, Option.isSome_some, V.cells, V.isCell, List.all_cons, List.all_nil, Bool.and_true, Bool.true_and, not_false_eq_true, and_true, and_self, V.anyIds, V.hasIds, Bool.or_false, Bool.not_false, Bool.or_self, buildSliceR, parts, fillR, List.replicate_succ, List.replicate_zero, List.set_cons_zero, rowIds, appendB, rows?, append_look, appL_some, append_none, List.map_nil, Bool.and_self, Nat.reduceMul, List.length_append, false_or, ne_eq, Nat.one_ne_zero, Nat.lt_add_one, or_self, extractR, max2, min2, List.getElem?_toArray, List.singleton_append, List.append_nil, Bool.and_false, Bool.false_and, eqV4, Bool.true_beq, Bool.false_beq, Bool.not_true, Bool.not_false, WB_nil, WB_cons, WB_guard, BG_true, BG_false, BG_false_none, BA_some, BA_none, QA_noise, QA_noise_none, sigQ_nil, sigQ_snoc, ids1, apB, hits, hasN, Bool.true_or, Bool.false_or, Bool.or_true, Nat.zero_add, List.size_toArray, EQ_ret, EQ_normal, T_3, T_4, T_5, T_9, T_42, T_51, T_69, T_76, T_90, T_91, T_93, T_96, T_98, T_100, T_102, T_103, T_104, T_106, T_121, T_145, ff, fo2, fo3, hit, ht, nilCheckR, hc, Nat.reduceLeDiff, wrap_i64s (show i < 1000000000000000000 by omega)]
              refine ⟨(i + 1, (if d > most then d else most), m'), ⟨by simp only; omega, ?_, ?_, ?_, ?_, hg2.1 _ hb0, grew_trans hgr hg2⟩, by simp only; omega, by kernel_rfl⟩
              · intro t ht
                simp only [List.take_succ_eq_append_getElem hit, List.mem_append, List.mem_singleton] at ht
                rcases ht with ht | rfl
                · exact hlt t ht
                · rw [limV_eq hd]
                  exact hd
              · simp only [List.take_succ_eq_append_getElem hit, top_snoc, ← hmo, limV_eq hd]
                split <;> omega
              · simp only
                split <;> omega
              · simp only
                split <;> omega
            · simp only [W_skip, W_exit, W_ret, W_seq, SQ_normal, SQ_exit, SQ_ret, W_block, BQ_normal, BQ_exit, BQ_ret, W_cond, WC_bool, W_draw_q, WQ_nil, WQ_cons, WQ_guard, QG_true, QG_false, QA_quiet, Heap.pad, List.nil_append, List.cons_append, pickR, List.take_succ_cons, List.take_zero, List.take_nil, List.drop_zero, List.drop_succ_cons, binStr, Nat.reduceLeDiff, W_region, WO_nil, WO_cons, WO_move, WO_assign, WO_guard, WG_true, WG_false, WA_some, WA_none, LP_exit, LP_ret, aop, ev, evs, lk, ofConst, ofCell, Nat.beq, cond_true, cond_false, Bool.false_eq_true, if_false, if_true, bin, binInt, un, ok, Rd.run, Nat.reduceLT, true_and, Heap.puts, Heap.put, Heap.at?, decide_true, decide_false, yields, skipped, isSkip, indexAddrR, fieldAddrR, loadR, builtinR, lenB, lenKd, lenR, conv, partOf, TI.agg, List.length_map, List.length_cons, List.length_nil, List.getElem?_map, List.getElem?_cons_zero, List.getElem?_cons_succ, Option.map_some, Option.bind_some, Nat.reduceAdd, Nat.reduceEqDiff, beq_iff_eq, decide_eq_true_eq, Int.natCast_eq_zero, natOf_cast, FQ_ret, FQ_normal, resAll, resOne, oneOf, finish_plain, pl_int, pl_bool, pl_str, pl_fz, pl_agg, pl_tup, pl_clo, pl_undef, pl_nil, pl_cons, Bool.and_self, Bool.and_true, all_int, all_str, int_enc, str_enc, bool_enc, Int.ofNat_lt, boxR, allocR, storeR, overwrite, buildR, fillS, Option.isSome_some, V.cells, V.isCell, List.all_cons, List.all_nil, Bool.and_true, Bool.true_and, not_false_eq_true, and_true, and_self, V.anyIds, V.hasIds, Bool.or_false, Bool.not_false, Bool.or_self, buildSliceR, parts, fillR, List.replicate_succ, List.replicate_zero, List.set_cons_zero, rowIds, appendB, rows?, append_look, appL_some, append_none, List.map_nil, Bool.and_self, Nat.reduceMul, List.length_append, false_or, ne_eq, Nat.one_ne_zero, Nat.lt_add_one, or_self, extractR, max2, min2, List.getElem?_toArray, List.singleton_append, List.append_nil, Bool.and_false, Bool.false_and, eqV4, Bool.true_beq, Bool.false_beq, Bool.not_true, Bool.not_false, WB_nil, WB_cons, WB_guard, BG_true, BG_false, BG_false_none, BA_some, BA_none, QA_noise, QA_noise_none, sigQ_nil, sigQ_snoc, ids1, apB, hits, hasN, Bool.true_or, Bool.false_or, Bool.or_true, Nat.zero_add, List.size_toArray, EQ_ret, EQ_normal, T_3, T_4, T_5, T_9, T_42, T_51, T_69, T_76, T_90, T_91, T_93, T_96, T_98, T_100, T_102, T_103, T_104, T_106, T_121, T_145, ff, fo2, fo3, hit, ht, nilCheckR, hc, Nat.reduceLeDiff]
              exact ⟨(.int .i64 0, [some (ff true), some (fo2 l), some (fo3 m')]), by kernel_rfl, 0, m', true, rfl, .inr ⟨rfl, hun⟩⟩
          · obtain rfl : i = ts.length := by omega
            rw [List.take_of_length_le (Nat.le_refl _)] at hlt hmo
            have hlm : Lim l x.f0 (most + 1) := by
              have := lim_step (b := x.f0) (g := limV l) (by rw [hsu]; exact hlt)
              rw [hsu] at this
              have e : top (fun t => limV l t + 1) 1 ts = top (limV l) 0 ts + 1 := top_succ (f := limV l) (ts := ts) (d := 0)
              rw [hmo, ← e]
              exact this
            have hw1 : IntKind.i64.wrap (most + 1) = most + 1 := wrap_i64 (by omega) (by omega)
            have hgr2 : Grew l m (setI x.f0 (most + 1) mi) ∨ 65535 ≤ most + 1 := by
              by_cases h7 : 65535 ≤ most + 1
              · exact .inr h7
              left
              refine ⟨fun c hc => ?_, fun c e hc => ?_, fun c hc => ?_⟩
              · rw [getI_set]
                by_cases hcx : c = x.f0
                · subst hcx; rw [hg] at hc; cases hc
                · rw [if_neg hcx]
                  exact hgr.1 c (by rw [hm1, if_neg hcx]; exact hc)
              · rw [getI_set] at hc
                by_cases hcx : c = x.f0
                · subst hcx
                  rw [if_pos rfl] at hc
                  cases hc
                  exact .inr ⟨hlm, by omega⟩
                · rw [if_neg hcx] at hc
                  rcases hgr.2.1 c e hc with ⟨he, h1⟩ | h1
                  · rw [hm1, if_neg hcx] at h1
                    exact .inl ⟨he, h1⟩
                  · exact .inr h1
              · rw [getI_set]
                split
                · rfl
                · rename_i hcx
                  exact hgr.2.2 c (by rw [hm1, if_neg hcx]; exact hc)
            simp only [W_skip, W_exit, W_ret, W_seq, SQ_normal, SQ_exit, SQ_ret, W_block, BQ_normal, BQ_exit, BQ_ret, W_cond, WC_bool, W_draw_q, WQ_nil, WQ_cons, WQ_guard, QG_true, QG_false, QA_quiet, Heap.pad, List.nil_append, List.cons_append, pickR, List.take_succ_cons, List.take_zero, List.take_nil, List.drop_zero, List.drop_succ_cons, binStr, Nat.reduceLeDiff, W_region, WO_nil, WO_cons, WO_move, WO_assign, WO_guard, WG_true, WG_false, WA_some, WA_none, LP_exit, LP_ret, aop, ev, evs, lk, ofConst, ofCell, Nat.beq, cond_true, cond_false, Bool.false_eq_true, if_false, if_true, bin, binInt, un, ok, Rd.run, Nat.reduceLT, true_and, Heap.puts, Heap.put, Heap.at?, decide_true, decide_false, yields, skipped, isSkip, indexAddrR, fieldAddrR, loadR, builtinR, lenB, lenKd, lenR, conv, partOf, TI.agg, List.length_map, List.length_cons, List.length_nil, List.getElem?_map, List.getElem?_cons_zero, List.getElem?_cons_succ, Option.map_some, Option.bind_some, Nat.reduceAdd, Nat.reduceEqDiff, beq_iff_eq, decide_eq_true_eq, Int.natCast_eq_zero, natOf_cast, FQ_ret, FQ_normal, resAll, resOne, oneOf, finish_plain, pl_int, pl_bool, pl_str, pl_fz, pl_agg, pl_tup, pl_clo, pl_undef, pl_nil, pl_cons, Bool.and_self, Bool.and_true, all_int, all_str, int_enc, str_enc, bool_enc, Int.ofNat_lt, boxR, allocR, storeR, overwrite, buildR, fillS, Option.isSome_some, V.cells, V.isCell, List.all_cons, List.all_nil, Bool.and_true, Bool.true_and, not_false_eq_true, and_true, and_self, V.anyIds, V.hasIds, Bool.or_false, Bool.not_false, Bool.or_self, buildSliceR, parts, fillR, List.replicate_succ, List.replicate_zero, List.set_cons_zero, rowIds, appendB, rows?, append_look, appL_some, append_none, List.map_nil, Bool.and_self, Nat.reduceMul, List.length_append, false_or, ne_eq, Nat.one_ne_zero, Nat.lt_add_one, or_self, extractR, max2, min2, List.getElem?_toArray, List.singleton_append, List.append_nil, Bool.and_false, Bool.false_and, eqV4, Bool.true_beq, Bool.false_beq, Bool.not_true, Bool.not_false, WB_nil, WB_cons, WB_guard, BG_true, BG_false, BG_false_none, BA_some, BA_none, QA_noise, QA_noise_none, sigQ_nil, sigQ_snoc, ids1, apB, hits, hasN, Bool.true_or, Bool.false_or, Bool.or_true, Nat.zero_add, List.size_toArray, EQ_ret, EQ_normal, T_3, T_4, T_5, T_9, T_42, T_51, T_69, T_76, T_90, T_91, T_93, T_96, T_98, T_100, T_102, T_103, T_104, T_106, T_121, T_145, ff, fo2, fo3, hit, nilCheckR, mapUpdateR, hk, hf4, setKeyI, hw1]
            refine ⟨(.int .i64 (most + 1), [some (ff (decide (most + 1 ≥ 65535))), some (fo2 l), some (fo3 (setI x.f0 (most + 1) mi))]), by kernel_rfl, most + 1, _, _, rfl, ?_⟩
            rcases hgr2 with h7 | h7
            · by_cases h8 : most + 1 ≥ 65535
              · right
                refine ⟨decide_eq_true h8, fun hs => ?_⟩
                have := lim_le hr hw (fun y hy => ⟨_, lim_of_stable hw hs hy⟩) hx hlm
                omega
              · exact .inl ⟨decide_eq_false h8, hlm, by omega, h7, by rw [getI_set, if_pos rfl]⟩
            · right
              refine ⟨decide_eq_true h7, fun hs => ?_⟩
              have := lim_le hr hw (fun y hy => ⟨_, lim_of_stable hw hs hy⟩) hx hlm
              omega
        · refine ⟨fun c hc => hc, fun c e hc => ?_, fun c hc => hc⟩
          rw [hm1] at hc ⊢
          by_cases hcx : c = x.f0
          · rw [if_pos hcx] at hc ⊢
            cases hc
            exact .inl ⟨rfl, rfl⟩
          · rw [if_neg hcx] at hc ⊢
            rcases hm c e hc with ⟨he, _⟩ | h1
            · exact .inl ⟨he, by rw [hc, he]⟩
            · exact .inr h1
      obtain ⟨r, h1, d, m', lost, rfl, h2⟩ := hex
      exact ⟨d, m', lost, h1, h2⟩
end Go.Proofs.Ytfdemnefkfkghaa.R
